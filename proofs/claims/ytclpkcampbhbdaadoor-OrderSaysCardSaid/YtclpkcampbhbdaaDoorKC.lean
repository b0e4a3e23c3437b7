/- What the texts of functions come to in the machine (printed by a program of this seat; Lean checks it). -/
import Derived.Test.YtclpkcampbhbdaaDoorKB
import Derived.Test.YtclpkcampbhbdaaDoorChecked
import Derived.KernelRfl
set_option linter.all false
namespace Go.Am
open Go.Proofs
set_option maxRecDepth 100000
variable (Aa Ab Ac Ad Ae Af Ag Ah Ai Aj Ak : Value)
noncomputable def c93_0 : Code := bodyC Tryd.f93 []
noncomputable def c93_1 : Code := bodyC Tryd.f93 [true, true, false, false, false]
noncomputable def c93_2 : Code := bodyC Tryd.f93 [true, true, true]
theorem c93_0_eq {β : Type} (h : Heap) (k : Ex → St → Option β) : codeK Tryd.prog (evC Tryd.prog) loopL c93_0 ⟨#[Aa,Ab,Ac,Ad,Ae,Af,Ag,Ah,Ai,Aj,Ak], h⟩ k =
loopK Tryd.prog (evC Tryd.prog) c93_1 ⟨#[Aa,Ab, (Go.Value.int Go.IntKind.i64 0), (Go.Value.int Go.IntKind.i64 1),Ae,Af,Ag,Ah,Ai,Aj,Ak], h⟩ (blockK 0 (seqK Tryd.prog (evC Tryd.prog) c93_2 k)) := by kernel_rfl
theorem c93_1_eq {β : Type} (h : Heap) (k : Ex → St → Option β) : codeK Tryd.prog (evC Tryd.prog) loopL c93_1 ⟨#[Aa,Ab,Ac,Ad,Ae,Af,Ag,Ah,Ai,Aj,Ak], h⟩ k =
(binV Tryd.prog .geq 23 (.tmp 4) (.const (Go.Value.int Go.IntKind.u64 128)) Aa (Go.Value.int Go.IntKind.u64 128)).bind fun t5_0 =>
cnd t5_0 (
(binV Tryd.prog .shr 23 (.tmp 6) (.const (Go.Value.int Go.IntKind.u64 7)) Aa (Go.Value.int Go.IntKind.u64 7)).bind fun t7_1 =>
(binV Tryd.prog .add 3 (.tmp 8) (.const (Go.Value.int Go.IntKind.i64 1)) Ad (Go.Value.int Go.IntKind.i64 1)).bind fun t9_2 =>
k .normal ⟨#[t7_1,Ab,Ac, t9_2,Aa, t5_0,Aa, t7_1,Ad, t9_2,Ak], h⟩) (
k (.exit 0) ⟨#[Aa,Ab,Ac,Ad,Aa, t5_0,Ag,Ah,Ai,Aj,Ak], h⟩) := by kernel_rfl
theorem c93_2_eq {β : Type} (h : Heap) (k : Ex → St → Option β) : codeK Tryd.prog (evC Tryd.prog) loopL c93_2 ⟨#[Aa,Ab,Ac,Ad,Ae,Af,Ag,Ah,Ai,Aj,Ak], h⟩ k =
k .ret ⟨#[Aa,Ab,Ad,Ad,Ae,Af,Ag,Ah,Ai,Aj,Ad], h⟩ := by kernel_rfl
theorem call93 (h : Heap) : evC Tryd.prog 93 #[Aa] h = codeK Tryd.prog (evC Tryd.prog) loopL c93_0 ⟨#[Aa, undef, undef, undef, undef, undef, undef, undef, undef, undef, undef], nm h⟩ (retK Tryd.f93 Tryd.prog h) :=
  (evC_call 93 Tryd.f93 c93_0 Tryd.func93 (by kernel_rfl) #[Aa] h).trans (by kernel_rfl)
theorem ret93 (h0 h : Heap) : retK Tryd.f93 Tryd.prog h0 .ret ⟨#[Aa,Ab,Ac,Ad,Ae,Af,Ag,Ah,Ai,Aj,Ak], h⟩ = fin h0 (some Ac) h := by kernel_rfl
end Go.Am
namespace Go.Am
open Go.Proofs
set_option maxRecDepth 100000
variable (Aa Ab Ac Ad Ae Af Ag Ah Ai Aj Ak Al An Ao Ap Aq Ar As Au Av Aw Ax Ay : Value)
noncomputable def c78_0 : Code := bodyC Tryd.f78 []
noncomputable def c78_1 : Code := bodyC Tryd.f78 [true, true, false, false, false]
noncomputable def c78_2 : Code := bodyC Tryd.f78 [true, true, true]
theorem c78_0_eq {β : Type} (h : Heap) (k : Ex → St → Option β) : codeK Tryd.prog (evC Tryd.prog) loopL c78_0 ⟨#[Aa,Ab,Ac,Ad,Ae,Af,Ag,Ah,Ai,Aj,Ak,Al,An,Ao,Ap,Aq,Ar,As,Au,Av,Aw,Ax,Ay], h⟩ k =
obH (appendV Tryd.prog 40 (some 40) (Go.Value.slice Option.none 0 0) Aa h) fun t7_0 h1 =>
loopK Tryd.prog (evC Tryd.prog) c78_1 ⟨#[Aa,Ab,Ac,Ad, (Go.Value.slice Option.none 0 0), t7_0,Aa, t7_0,Ai,Aj,Ak,Al,An,Ao,Ap,Aq,Ar,As,Au,Av,Aw,Ax,Ay], h1⟩ (blockK 0 (seqK Tryd.prog (evC Tryd.prog) c78_2 k)) := by kernel_rfl
theorem c78_1_eq {β : Type} (h : Heap) (k : Ex → St → Option β) : codeK Tryd.prog (evC Tryd.prog) loopL c78_1 ⟨#[Aa,Ab,Ac,Ad,Ae,Af,Ag,Ah,Ai,Aj,Ak,Al,An,Ao,Ap,Aq,Ar,As,Au,Av,Aw,Ax,Ay], h⟩ k =
(binV Tryd.prog .geq 23 (.tmp 8) (.const (Go.Value.int Go.IntKind.u64 128)) Ab (Go.Value.int Go.IntKind.u64 128)).bind fun t9_2 =>
cnd t9_2 (
obH (convV Tryd.prog 23 5 Ab h) fun t12_3 h4 =>
(binV Tryd.prog .or 5 (.tmp 12) (.const (Go.Value.int Go.IntKind.u8 128)) t12_3 (Go.Value.int Go.IntKind.u8 128)).bind fun t13_5 =>
obH (buildSliceV Tryd.prog 40 1 #[(0, t13_5)] h4) fun t14_6 h7 =>
obH (appendV Tryd.prog 40 (some 40) Af t14_6 h7) fun t15_8 h9 =>
(binV Tryd.prog .shr 23 (.tmp 16) (.const (Go.Value.int Go.IntKind.u64 7)) Ab (Go.Value.int Go.IntKind.u64 7)).bind fun t17_10 =>
k .normal ⟨#[Aa, t17_10,Ac,Ad,Ae, t15_8,Ag,Ah,Ab, t9_2,Af,Ab, t12_3, t13_5, t14_6, t15_8,Ab, t17_10,Au,Av,Aw,Ax,Ay], h9⟩) (
k (.exit 0) ⟨#[Aa,Ab,Ac,Ad,Ae,Af,Ag,Ah,Ab, t9_2,Ak,Al,An,Ao,Ap,Aq,Ar,As,Au,Av,Aw,Ax,Ay], h⟩) := by kernel_rfl
theorem c78_2_eq {β : Type} (h : Heap) (k : Ex → St → Option β) : codeK Tryd.prog (evC Tryd.prog) loopL c78_2 ⟨#[Aa,Ab,Ac,Ad,Ae,Af,Ag,Ah,Ai,Aj,Ak,Al,An,Ao,Ap,Aq,Ar,As,Au,Av,Aw,Ax,Ay], h⟩ k =
obH (convV Tryd.prog 23 5 Ab h) fun t20_11 h12 =>
obH (buildSliceV Tryd.prog 40 1 #[(0, t20_11)] h12) fun t21_13 h14 =>
obH (appendV Tryd.prog 40 (some 40) Af t21_13 h14) fun t22_15 h16 =>
k .ret ⟨#[Aa,Ab,Ac,Ad, t22_15,Af,Ag,Ah,Ai,Aj,Ak,Al,An,Ao,Ap,Aq,Ar,As,Af,Ab, t20_11, t21_13, t22_15], h16⟩ := by kernel_rfl
theorem call78 (h : Heap) : evC Tryd.prog 78 #[Aa,Ab] h = codeK Tryd.prog (evC Tryd.prog) loopL c78_0 ⟨#[Aa,Ab, undef, undef, undef, undef, undef, undef, undef, undef, undef, undef, undef, undef, undef, undef, undef, undef, undef, undef, undef, undef, undef], nm h⟩ (retK Tryd.f78 Tryd.prog h) :=
  (evC_call 78 Tryd.f78 c78_0 Tryd.func78 (by kernel_rfl) #[Aa,Ab] h).trans (by kernel_rfl)
theorem ret78 (h0 h : Heap) : retK Tryd.f78 Tryd.prog h0 .ret ⟨#[Aa,Ab,Ac,Ad,Ae,Af,Ag,Ah,Ai,Aj,Ak,Al,An,Ao,Ap,Aq,Ar,As,Au,Av,Aw,Ax,Ay], h⟩ = fin h0 (some Ae) h := by kernel_rfl
end Go.Am
namespace Go.Am
open Go.Proofs
set_option maxRecDepth 100000
variable (Aa Ab Ac Ad Ae Af Ag Ah Ai Aj Ak Al An Ao Ap Aq Ar As Au Av Aw Ax Ay Az Ba Bb Bc Bd Be Bf Bg Bh Bi Bj Bk Bl Bm Bn Bo Bp Bq Br : Value)
noncomputable def c84_0 : Code := bodyC Tryd.f84 []
noncomputable def c84_1 : Code := bodyC Tryd.f84 [true, false, true, false, false]
noncomputable def c84_2 : Code := bodyC Tryd.f84 [true, true]
theorem c84_0_eq {β : Type} (h : Heap) (k : Ex → St → Option β) : codeK Tryd.prog (evC Tryd.prog) loopL c84_0 ⟨#[Aa,Ab,Ac,Ad,Ae,Af,Ag,Ah,Ai,Aj,Ak,Al,An,Ao,Ap,Aq,Ar,As,Au,Av,Aw,Ax,Ay,Az,Ba,Bb,Bc,Bd,Be,Bf,Bg,Bh,Bi,Bj,Bk,Bl,Bm,Bn,Bo,Bp,Bq,Br], h⟩ k =
(lenV Tryd.prog 40 Aa h).bind fun t7_0 =>
loopK Tryd.prog (evC Tryd.prog) c84_1 ⟨#[Aa,Ab, (Go.Value.int Go.IntKind.u64 0), (Go.Value.int Go.IntKind.i64 0),Ae,Af,Aa, t7_0, (Go.Value.int Go.IntKind.i64 0),Aj,Ak,Al,An,Ao,Ap,Aq,Ar,As,Au,Av,Aw,Ax,Ay,Az,Ba,Bb,Bc,Bd,Be,Bf,Bg,Bh,Bi,Bj,Bk,Bl,Bm,Bn,Bo,Bp,Bq,Br], h⟩ (blockK 0 (seqK Tryd.prog (evC Tryd.prog) c84_2 k)) := by kernel_rfl
theorem c84_1_eq {β : Type} (h : Heap) (k : Ex → St → Option β) : codeK Tryd.prog (evC Tryd.prog) loopL c84_1 ⟨#[Aa,Ab,Ac,Ad,Ae,Af,Ag,Ah,Ai,Aj,Ak,Al,An,Ao,Ap,Aq,Ar,As,Au,Av,Aw,Ax,Ay,Az,Ba,Bb,Bc,Bd,Be,Bf,Bg,Bh,Bi,Bj,Bk,Bl,Bm,Bn,Bo,Bp,Bq,Br], h⟩ k =
(binV Tryd.prog .lss 3 (.tmp 8) (.tmp 7) Ai Ah).bind fun t9_1 =>
cnd t9_1 (
(indexAddrV Tryd.prog 40 Ag Ai).bind fun t11_2 =>
(loadV Tryd.prog 5 t11_2 h).bind fun t12_3 =>
(binV Tryd.prog .eql 3 (.tmp 13) (.const (Go.Value.int Go.IntKind.i64 10)) Ai (Go.Value.int Go.IntKind.i64 10)).bind fun t14_4 =>
cnd t14_4 (
k (.exit 0) ⟨#[Aa,Ab,Ac,Ad,Ai, t12_3,Ag,Ah,Ai, t9_1,Ai, t11_2, t12_3,Ai, t14_4,Aq,Ar,As,Au,Av,Aw,Ax,Ay,Az,Ba,Bb,Bc,Bd,Be,Bf,Bg,Bh,Bi,Bj,Bk,Bl,Bm,Bn,Bo,Bp,Bq,Br], h⟩) (
(binV Tryd.prog .and 5 (.tmp 16) (.const (Go.Value.int Go.IntKind.u8 127)) t12_3 (Go.Value.int Go.IntKind.u8 127)).bind fun t17_5 =>
obH (convV Tryd.prog 5 23 t17_5 h) fun t18_6 h7 =>
(binV Tryd.prog .mul 3 (.const (Go.Value.int Go.IntKind.i64 7)) (.tmp 19) (Go.Value.int Go.IntKind.i64 7) Ai).bind fun t20_8 =>
(binV Tryd.prog .shl 23 (.tmp 18) (.tmp 20) t18_6 t20_8).bind fun t21_9 =>
(binV Tryd.prog .or 23 (.tmp 15) (.tmp 21) Ac t21_9).bind fun t22_10 =>
(binV Tryd.prog .lss 5 (.tmp 23) (.const (Go.Value.int Go.IntKind.u8 128)) t12_3 (Go.Value.int Go.IntKind.u8 128)).bind fun t24_11 =>
cnd t24_11 (
obH (evC Tryd.prog 93 #[t22_10] h7) fun t26_12 h13 =>
(binV Tryd.prog .add 3 (.tmp 27) (.const (Go.Value.int Go.IntKind.i64 1)) Ai (Go.Value.int Go.IntKind.i64 1)).bind fun t28_14 =>
(binV Tryd.prog .neq 3 (.tmp 26) (.tmp 28) t26_12 t28_14).bind fun t29_15 =>
(gd (wt t29_15 false) (binV Tryd.prog .eql 3 (.tmp 31) (.const (Go.Value.int Go.IntKind.i64 9)) (gdV (wt t29_15 false) Ai) (Go.Value.int Go.IntKind.i64 9))).bind fun t32_16 =>
(gd (wt (gdV (wt t29_15 false) t32_16) true) (binV Tryd.prog .gtr 5 (.tmp 34) (.const (Go.Value.int Go.IntKind.u8 1)) (gdV (wt (gdV (wt t29_15 false) t32_16) true) t12_3) (Go.Value.int Go.IntKind.u8 1))).bind fun t35_17 =>
(gd (wt t29_15 false) (pickV (gdV (wt t29_15 false) t32_16) t35_17 (Go.Value.bool Bool.false))).bind fun t36_18 =>
(pickV t29_15 (Go.Value.bool Bool.true) t36_18).bind fun t37_19 =>
cnd t37_19 (
k (.exit 0) ⟨#[Aa,Ab, t22_10,Ad,Ai, t12_3,Ag,Ah,Ai, t9_1,Ai, t11_2, t12_3,Ai, t14_4,Ac, t12_3, t17_5, t18_6,Ai, t20_8, t21_9, t22_10, t12_3, t24_11, t22_10, t26_12,Ai, t28_14, t29_15, t29_15, (gdV (wt t29_15 false) Ai), t32_16, (gdV (wt t29_15 false) t32_16), (gdV (wt (gdV (wt t29_15 false) t32_16) true) t12_3), t35_17, t36_18, t37_19,Bo,Bp,Bq,Br], h13⟩) (
(binV Tryd.prog .add 3 (.tmp 39) (.const (Go.Value.int Go.IntKind.i64 1)) Ai (Go.Value.int Go.IntKind.i64 1)).bind fun t40_20 =>
k .ret ⟨#[Aa,Ab, t22_10, t40_20,Ai, t12_3,Ag,Ah,Ai, t9_1,Ai, t11_2, t12_3,Ai, t14_4,Ac, t12_3, t17_5, t18_6,Ai, t20_8, t21_9, t22_10, t12_3, t24_11, t22_10, t26_12,Ai, t28_14, t29_15, t29_15, (gdV (wt t29_15 false) Ai), t32_16, (gdV (wt t29_15 false) t32_16), (gdV (wt (gdV (wt t29_15 false) t32_16) true) t12_3), t35_17, t36_18, t37_19, t22_10,Ai, t40_20,Br], h13⟩)) (
(binV Tryd.prog .add 3 (.tmp 8) (.const (Go.Value.int Go.IntKind.i64 1)) Ai (Go.Value.int Go.IntKind.i64 1)).bind fun t41_21 =>
k .normal ⟨#[Aa,Ab, t22_10,Ad,Ai, t12_3,Ag,Ah, t41_21, t9_1,Ai, t11_2, t12_3,Ai, t14_4,Ac, t12_3, t17_5, t18_6,Ai, t20_8, t21_9, t22_10, t12_3, t24_11,Bb,Bc,Bd,Be,Bf,Bg,Bh,Bi,Bj,Bk,Bl,Bm,Bn,Bo,Bp,Bq, t41_21], h7⟩))) (
k (.exit 0) ⟨#[Aa,Ab,Ac,Ad,Ae,Af,Ag,Ah,Ai, t9_1,Ak,Al,An,Ao,Ap,Aq,Ar,As,Au,Av,Aw,Ax,Ay,Az,Ba,Bb,Bc,Bd,Be,Bf,Bg,Bh,Bi,Bj,Bk,Bl,Bm,Bn,Bo,Bp,Bq,Br], h⟩) := by kernel_rfl
theorem c84_2_eq {β : Type} (h : Heap) (k : Ex → St → Option β) : codeK Tryd.prog (evC Tryd.prog) loopL c84_2 ⟨#[Aa,Ab,Ac,Ad,Ae,Af,Ag,Ah,Ai,Aj,Ak,Al,An,Ao,Ap,Aq,Ar,As,Au,Av,Aw,Ax,Ay,Az,Ba,Bb,Bc,Bd,Be,Bf,Bg,Bh,Bi,Bj,Bk,Bl,Bm,Bn,Bo,Bp,Bq,Br], h⟩ k =
k .ret ⟨#[Aa,Ab, (Go.Value.int Go.IntKind.u64 0), (Go.Value.int Go.IntKind.i64 0),Ae,Af,Ag,Ah,Ai,Aj,Ak,Al,An,Ao,Ap,Aq,Ar,As,Au,Av,Aw,Ax,Ay,Az,Ba,Bb,Bc,Bd,Be,Bf,Bg,Bh,Bi,Bj,Bk,Bl,Bm,Bn,Bo,Bp,Bq,Br], h⟩ := by kernel_rfl
theorem call84 (h : Heap) : evC Tryd.prog 84 #[Aa] h = codeK Tryd.prog (evC Tryd.prog) loopL c84_0 ⟨#[Aa, undef, undef, undef, undef, undef, undef, undef, undef, undef, undef, undef, undef, undef, undef, undef, undef, undef, undef, undef, undef, undef, undef, undef, undef, undef, undef, undef, undef, undef, undef, undef, undef, undef, undef, undef, undef, undef, undef, undef, undef, undef], nm h⟩ (retK Tryd.f84 Tryd.prog h) :=
  (evC_call 84 Tryd.f84 c84_0 Tryd.func84 (by kernel_rfl) #[Aa] h).trans (by kernel_rfl)
theorem ret84 (h0 h : Heap) : retK Tryd.f84 Tryd.prog h0 .ret ⟨#[Aa,Ab,Ac,Ad,Ae,Af,Ag,Ah,Ai,Aj,Ak,Al,An,Ao,Ap,Aq,Ar,As,Au,Av,Aw,Ax,Ay,Az,Ba,Bb,Bc,Bd,Be,Bf,Bg,Bh,Bi,Bj,Bk,Bl,Bm,Bn,Bo,Bp,Bq,Br], h⟩ = fin h0 (some (.tuple #[Ac,Ad])) h := by kernel_rfl
end Go.Am
namespace Go.Am
open Go.Proofs
set_option maxRecDepth 100000
variable (Aa Ab Ac Ad Ae Af Ag Ah : Value)
noncomputable def c79_0 : Code := bodyC Tryd.f79 []
theorem c79_0_eq {β : Type} (h : Heap) (k : Ex → St → Option β) : codeK Tryd.prog (evC Tryd.prog) loopL c79_0 ⟨#[Aa,Ab,Ac,Ad,Ae,Af,Ag,Ah], h⟩ k =
(binV Tryd.prog .eql 40 (.tmp 3) (.const (Go.Value.slice Option.none 0 0)) Aa (Go.Value.slice Option.none 0 0)).bind fun t4_0 =>
cnd t4_0 (
k .ret ⟨#[Aa,Ab, (Go.Value.slice Option.none 0 0),Aa, t4_0,Af,Ag,Ah], h⟩) (
obH (buildSliceV Tryd.prog 40 0 #[] h) fun t5_1 h2 =>
obH (appendV Tryd.prog 40 (some 40) t5_1 Aa h2) fun t7_3 h4 =>
k .ret ⟨#[Aa,Ab, t7_3,Aa, t4_0, t5_1,Aa, t7_3], h4⟩) := by kernel_rfl
theorem call79 (h : Heap) : evC Tryd.prog 79 #[Aa] h = codeK Tryd.prog (evC Tryd.prog) loopL c79_0 ⟨#[Aa, undef, undef, undef, undef, undef, undef, undef], nm h⟩ (retK Tryd.f79 Tryd.prog h) :=
  (evC_call 79 Tryd.f79 c79_0 Tryd.func79 (by kernel_rfl) #[Aa] h).trans (by kernel_rfl)
theorem ret79 (h0 h : Heap) : retK Tryd.f79 Tryd.prog h0 .ret ⟨#[Aa,Ab,Ac,Ad,Ae,Af,Ag,Ah], h⟩ = fin h0 (some Ac) h := by kernel_rfl
end Go.Am
namespace Go.Am
open Go.Proofs
set_option maxRecDepth 100000
variable {β : Type} (x : Nat → Value) (h : Heap) (k : Ex → St → Option β) (r m : List Nat) (g : Heap)
noncomputable def c14_0 : Code := bodyC Tryd.f14 []
theorem c14_0_eq : cK c14_0 10 x h k =
(typeAssertV Tryd.prog (x 0) 30 true).bind fun v0 =>
(extractV v0 1).bind fun v1 =>
(extractV v0 0).bind fun v2 =>
cnd v1 (
k .ret ⟨ar 10 (up x [(2,(.int .i64 1)),(3,(x 0)),(4,v0),(5,v1),(6,v2)]), h⟩) (
(typeAssertV Tryd.prog (x 0) 33 true).bind fun v3 =>
(extractV v3 1).bind fun v4 =>
(extractV v3 0).bind fun v5 =>
cnd v4 (
k .ret ⟨ar 10 (up x [(2,(.int .i64 2)),(3,(x 0)),(4,v0),(5,v1),(6,v2),(7,v3),(8,v4),(9,v5)]), h⟩) (
k .ret ⟨ar 10 (up x [(2,(.int .i64 0)),(3,(x 0)),(4,v0),(5,v1),(6,v2),(7,v3),(8,v4),(9,v5)]), h⟩)) := by kernel_rfl
theorem call14 (a0 : Value) : evC Tryd.prog 14 #[a0] h = cK c14_0 10 (up un [(0,a0)]) (nm h) (retK Tryd.f14 Tryd.prog h) :=
  (evC_call 14 Tryd.f14 c14_0 Tryd.func14 (by kernel_rfl) #[a0] h).trans (by kernel_rfl)
theorem ret14 : retK Tryd.f14 Tryd.prog g .ret ⟨ar 10 x, h⟩ = fin g (some (x 2)) h := by kernel_rfl
end Go.Am
namespace Go.Am
open Go.Proofs
set_option maxRecDepth 100000
variable {β : Type} (x : Nat → Value) (h : Heap) (k : Ex → St → Option β) (r m : List Nat) (g : Heap)
noncomputable def c19_0 : Code := bodyC Tryd.f19 []
noncomputable def c19_1 : Code := bodyC Tryd.f19 [true, true, true, false, true, false, false]
noncomputable def c19_2 : Code := bodyC Tryd.f19 [true, true, true, true]
theorem c19_0_eq : cK c19_0 35 x h k =
(binV Tryd.prog .eql 26 (.tmp 8) (.const (.nilIface)) (x 0) (.nilIface)).bind fun v0 =>
cnd v0 (
k .ret ⟨ar 35 (up x [(4,(.slice Option.none 0 0)),(8,(x 0)),(9,v0)]), h⟩) (
(ln 22 (x 1) h).bind fun v1 =>
lK c19_1 35 (up x [(4,(.slice Option.none 0 0)),(5,(.slice Option.none 0 0)),(8,(x 0)),(9,v0),(10,(x 1)),(11,v1),(12,(.int .i64 0))]) h (blockK 0 (sK c19_2 k))) := by kernel_rfl
theorem c19_1_eq : cK c19_1 35 x h k =
(bn .lss 3 (x 12) (x 11)).bind fun v2 =>
cnd v2 (
(ia 22 (x 10) (x 12)).bind fun v3 =>
(ld 43 v3 h).bind fun v4 =>
obH (allocV Tryd.prog 43 h) fun v5 h6 =>
(sto 43 v5 v4 h6).bind fun h7 =>
(fa 43 v5 0).bind fun v8 =>
(ld 4 v8 h7).bind fun v9 =>
(gd (wt v9 true) (fa 43 v5 1)).bind fun v10 =>
(gd (wt v9 true) (ld 3 v10 h7)).bind fun v11 =>
(gd (wt v9 true) (fa 43 v5 2)).bind fun v12 =>
(gd (wt v9 true) (ld 23 v12 h7)).bind fun v13 =>
(gd (wt v9 true) (fa 43 v5 3)).bind fun v14 =>
(gd (wt v9 true) (ld 40 v14 h7)).bind fun v15 =>
obH (gdH (wt v9 true) h7 (invokeV Tryd.prog (evC Tryd.prog) (gdV (wt v9 true) (x 0)) "Can" #[v11,v13,v15] h7)) fun v16 h17 =>
(pickV v9 v16 (.bool false)).bind fun v18 =>
cnd v18 (
obH (buildSliceV Tryd.prog 41 1 #[(0, (x 12))] h17) fun v19 h20 =>
obH (ap 41 (some 41) (x 5) v19 h20) fun v21 h22 =>
(bn .add 3 (x 12) (.int .i64 1)).bind fun v23 =>
k .normal ⟨ar 35 (up x [(5,v21),(6,(x 12)),(7,v5),(12,v23),(13,v2),(14,(x 12)),(15,v3),(16,v4),(17,v8),(18,v9),(19,v9),(20,(gdV (wt v9 true) (x 0))),(21,v10),(22,v11),(23,v12),(24,v13),(25,v14),(26,v15),(27,v16),(28,v18),(29,(x 5)),(30,(x 12)),(31,v19),(32,v21),(33,v23)]), h22⟩) (
(bn .add 3 (x 12) (.int .i64 1)).bind fun v24 =>
k .normal ⟨ar 35 (up x [(6,(x 12)),(7,v5),(12,v24),(13,v2),(14,(x 12)),(15,v3),(16,v4),(17,v8),(18,v9),(19,v9),(20,(gdV (wt v9 true) (x 0))),(21,v10),(22,v11),(23,v12),(24,v13),(25,v14),(26,v15),(27,v16),(28,v18),(33,v24)]), h17⟩)) (
k (.exit 0) ⟨ar 35 (up x [(13,v2)]), h⟩) := by kernel_rfl
theorem c19_2_eq : cK c19_2 35 x h k =
k .ret ⟨ar 35 (up x [(4,(x 5)),(34,(x 5))]), h⟩ := by kernel_rfl
theorem call19 (a0 a1 : Value) : evC Tryd.prog 19 #[a0,a1] h = cK c19_0 35 (up un [(0,a0),(1,a1)]) (nm h) (retK Tryd.f19 Tryd.prog h) :=
  (evC_call 19 Tryd.f19 c19_0 Tryd.func19 (by kernel_rfl) #[a0,a1] h).trans (by kernel_rfl)
theorem ret19 : retK Tryd.f19 Tryd.prog g .ret ⟨ar 35 x, h⟩ = fin g (some (x 4)) h := by kernel_rfl
end Go.Am
namespace Go.Am
open Go.Proofs
set_option maxRecDepth 100000
variable {β : Type} (x : Nat → Value) (h : Heap) (k : Ex → St → Option β) (r m : List Nat) (g : Heap)
noncomputable def c17_0 : Code := bodyC Tryd.f17 []
noncomputable def c17_1 : Code := bodyC Tryd.f17 [true, true, false, true, false, false]
noncomputable def c17_2 : Code := bodyC Tryd.f17 [true, true, true]
theorem c17_0_eq : cK c17_0 37 x h k =
obH (ev 19 #[x 0,x 1] h) fun v0 h1 =>
(ln 41 v0 h1).bind fun v2 =>
lK c17_1 37 (up x [(4,(.int .i64 0)),(5,(.bool false)),(6,(.int .i64 0)),(7,(.bool false)),(10,(x 0)),(11,(x 1)),(12,v0),(13,v2),(14,(.int .i64 0))]) h1 (blockK 0 (sK c17_2 k)) := by kernel_rfl
theorem c17_1_eq : cK c17_1 37 x h k =
(bn .lss 3 (x 14) (x 13)).bind fun v3 =>
cnd v3 (
(ia 41 (x 12) (x 14)).bind fun v4 =>
(ld 3 v4 h).bind fun v5 =>
(unV Tryd.prog .not (x 7)).bind fun v6 =>
(gd (wt v6 false) (ia 22 (gdV (wt v6 false) (x 1)) (gdV (wt v6 false) v5))).bind fun v7 =>
(gd (wt v6 false) (fa 43 v7 1)).bind fun v8 =>
(gd (wt v6 false) (ld 3 v8 h)).bind fun v9 =>
(gd (wt v6 false) (ia 22 (gdV (wt v6 false) (x 1)) (gdV (wt v6 false) (x 6)))).bind fun v10 =>
(gd (wt v6 false) (fa 43 v10 1)).bind fun v11 =>
(gd (wt v6 false) (ld 3 v11 h)).bind fun v12 =>
(gd (wt v6 false) (bn .lss 3 v9 v12)).bind fun v13 =>
(pickV v6 (.bool true) v13).bind fun v14 =>
cnd v14 (
(bn .add 3 (x 14) (.int .i64 1)).bind fun v15 =>
k .normal ⟨ar 37 (up x [(6,v5),(7,(.bool true)),(9,v5),(14,v15),(15,v3),(16,v4),(17,v5),(18,(x 7)),(19,v6),(20,v6),(21,(gdV (wt v6 false) (x 1))),(22,(gdV (wt v6 false) v5)),(23,v7),(24,v8),(25,v9),(26,(gdV (wt v6 false) (x 1))),(27,(gdV (wt v6 false) (x 6))),(28,v10),(29,v11),(30,v12),(31,v13),(32,v14),(33,v5),(34,v15)]), h⟩) (
(bn .add 3 (x 14) (.int .i64 1)).bind fun v16 =>
k .normal ⟨ar 37 (up x [(9,v5),(14,v16),(15,v3),(16,v4),(17,v5),(18,(x 7)),(19,v6),(20,v6),(21,(gdV (wt v6 false) (x 1))),(22,(gdV (wt v6 false) v5)),(23,v7),(24,v8),(25,v9),(26,(gdV (wt v6 false) (x 1))),(27,(gdV (wt v6 false) (x 6))),(28,v10),(29,v11),(30,v12),(31,v13),(32,v14),(34,v16)]), h⟩)) (
k (.exit 0) ⟨ar 37 (up x [(15,v3)]), h⟩) := by kernel_rfl
theorem c17_2_eq : cK c17_2 37 x h k =
k .ret ⟨ar 37 (up x [(4,(x 6)),(5,(x 7)),(35,(x 6)),(36,(x 7))]), h⟩ := by kernel_rfl
theorem call17 (a0 a1 : Value) : evC Tryd.prog 17 #[a0,a1] h = cK c17_0 37 (up un [(0,a0),(1,a1)]) (nm h) (retK Tryd.f17 Tryd.prog h) :=
  (evC_call 17 Tryd.f17 c17_0 Tryd.func17 (by kernel_rfl) #[a0,a1] h).trans (by kernel_rfl)
theorem ret17 : retK Tryd.f17 Tryd.prog g .ret ⟨ar 37 x, h⟩ = fin g (some (.tuple #[x 4, (x 5)])) h := by kernel_rfl
end Go.Am
namespace Go.Am
open Go.Proofs
set_option maxRecDepth 100000
variable {β : Type} (x : Nat → Value) (h : Heap) (k : Ex → St → Option β) (r m : List Nat) (g : Heap)
noncomputable def c18_0 : Code := bodyC Tryd.f18 []
noncomputable def c18_1 : Code := bodyC Tryd.f18 [true, true, false, true, false, false]
noncomputable def c18_2 : Code := bodyC Tryd.f18 [true, true, true]
theorem c18_0_eq : cK c18_0 26 x h k =
(ln 41 (x 0) h).bind fun v0 =>
(ln 41 (x 1) h).bind fun v1 =>
(bn .neq 3 v0 v1).bind fun v2 =>
cnd v2 (
k .ret ⟨ar 26 (up x [(4,(.bool false)),(6,(x 0)),(7,v0),(8,(x 1)),(9,v1),(10,v2)]), h⟩) (
lK c18_1 26 (up x [(4,(.bool false)),(5,(.int .i64 0)),(6,(x 0)),(7,v0),(8,(x 1)),(9,v1),(10,v2)]) h (blockK 0 (sK c18_2 k))) := by kernel_rfl
theorem c18_1_eq : cK c18_1 26 x h k =
(ln 41 (x 0) h).bind fun v3 =>
(bn .lss 3 (x 5) v3).bind fun v4 =>
cnd v4 (
(ia 41 (x 0) (x 5)).bind fun v5 =>
(ld 3 v5 h).bind fun v6 =>
(ia 41 (x 1) (x 5)).bind fun v7 =>
(ld 3 v7 h).bind fun v8 =>
(bn .neq 3 v6 v8).bind fun v9 =>
cnd v9 (
k .ret ⟨ar 26 (up x [(4,(.bool false)),(11,(x 5)),(12,(x 0)),(13,v3),(14,v4),(17,(x 0)),(18,(x 5)),(19,v5),(20,v6),(21,(x 1)),(22,(x 5)),(23,v7),(24,v8),(25,v9)]), h⟩) (
(bn .add 3 (x 5) (.int .i64 1)).bind fun v10 =>
k .normal ⟨ar 26 (up x [(5,v10),(11,(x 5)),(12,(x 0)),(13,v3),(14,v4),(15,(x 5)),(16,v10),(17,(x 0)),(18,(x 5)),(19,v5),(20,v6),(21,(x 1)),(22,(x 5)),(23,v7),(24,v8),(25,v9)]), h⟩)) (
k (.exit 0) ⟨ar 26 (up x [(11,(x 5)),(12,(x 0)),(13,v3),(14,v4)]), h⟩) := by kernel_rfl
theorem c18_2_eq : cK c18_2 26 x h k =
k .ret ⟨ar 26 (up x [(4,(.bool true))]), h⟩ := by kernel_rfl
theorem call18 (a0 a1 : Value) : evC Tryd.prog 18 #[a0,a1] h = cK c18_0 26 (up un [(0,a0),(1,a1)]) (nm h) (retK Tryd.f18 Tryd.prog h) :=
  (evC_call 18 Tryd.f18 c18_0 Tryd.func18 (by kernel_rfl) #[a0,a1] h).trans (by kernel_rfl)
theorem ret18 : retK Tryd.f18 Tryd.prog g .ret ⟨ar 26 x, h⟩ = fin g (some (x 4)) h := by kernel_rfl
end Go.Am
namespace Go.Am
open Go.Proofs
set_option maxRecDepth 100000
variable (Aa Ab Ac Ad Ae Af Ag Ah Ai : Value)
noncomputable def c35_0 : Code := bodyC Tryd.f35 []
theorem c35_0_eq {β : Type} (h : Heap) (k : Ex → St → Option β) : codeK Tryd.prog (evC Tryd.prog) loopL c35_0 ⟨#[Aa,Ab,Ac,Ad,Ae,Af,Ag,Ah,Ai], h⟩ k =
obH (builtinV Tryd.prog .max #[3, 3] #[Aa, (Go.Value.int Go.IntKind.i64 0)] h) fun t4_0 h1 =>
obH (builtinV Tryd.prog .min #[3, 3] #[t4_0, (Go.Value.int Go.IntKind.i64 64)] h1) fun t5_2 h3 =>
(binV Tryd.prog .shl 38 (.const (Go.Value.int Go.IntKind.u64 1)) (.tmp 6) (Go.Value.int Go.IntKind.u64 1) t5_2).bind fun t7_4 =>
(binV Tryd.prog .sub 38 (.tmp 7) (.const (Go.Value.int Go.IntKind.u64 1)) t7_4 (Go.Value.int Go.IntKind.u64 1)).bind fun t8_5 =>
k .ret ⟨#[t5_2,Ab, t8_5,Aa, t4_0, t5_2, t5_2, t7_4, t8_5], h3⟩ := by kernel_rfl
theorem call35 (h : Heap) : evC Tryd.prog 35 #[Aa] h = codeK Tryd.prog (evC Tryd.prog) loopL c35_0 ⟨#[Aa, undef, undef, undef, undef, undef, undef, undef, undef], nm h⟩ (retK Tryd.f35 Tryd.prog h) :=
  (evC_call 35 Tryd.f35 c35_0 Tryd.func35 (by kernel_rfl) #[Aa] h).trans (by kernel_rfl)
theorem ret35 (h0 h : Heap) : retK Tryd.f35 Tryd.prog h0 .ret ⟨#[Aa,Ab,Ac,Ad,Ae,Af,Ag,Ah,Ai], h⟩ = fin h0 (some Ac) h := by kernel_rfl
end Go.Am
namespace Go.Am
open Go.Proofs
set_option maxRecDepth 100000
variable (Aa Ab Ac Ad Ae Af Ag Ah Ai Aj Ak Al An Ao Ap Aq Ar As : Value)
noncomputable def c25_0 : Code := bodyC Tryd.f25 []
theorem c25_0_eq {β : Type} (h : Heap) (k : Ex → St → Option β) : codeK Tryd.prog (evC Tryd.prog) loopL c25_0 ⟨#[Aa,Ab,Ac,Ad,Ae,Af,Ag,Ah,Ai,Aj,Ak,Al,An,Ao,Ap,Aq,Ar,As], h⟩ k =
(binV Tryd.prog .geq 3 (.tmp 5) (.const (Go.Value.int Go.IntKind.i64 0)) Ab (Go.Value.int Go.IntKind.i64 0)).bind fun t6_0 =>
(gd (wt t6_0 true) (binV Tryd.prog .lss 3 (.tmp 8) (.const (Go.Value.int Go.IntKind.i64 64)) (gdV (wt t6_0 true) Ab) (Go.Value.int Go.IntKind.i64 64))).bind fun t9_1 =>
(pickV t6_0 t9_1 (Go.Value.bool Bool.false)).bind fun t10_2 =>
(gd (wt t10_2 true) (binV Tryd.prog .shr 38 (.tmp 12) (.tmp 13) (gdV (wt t10_2 true) Aa) (gdV (wt t10_2 true) Ab))).bind fun t14_3 =>
(gd (wt t10_2 true) (binV Tryd.prog .and 38 (.tmp 14) (.const (Go.Value.int Go.IntKind.u64 1)) t14_3 (Go.Value.int Go.IntKind.u64 1))).bind fun t15_4 =>
(gd (wt t10_2 true) (binV Tryd.prog .eql 38 (.tmp 15) (.const (Go.Value.int Go.IntKind.u64 1)) t15_4 (Go.Value.int Go.IntKind.u64 1))).bind fun t16_5 =>
(pickV t10_2 t16_5 (Go.Value.bool Bool.false)).bind fun t17_6 =>
k .ret ⟨#[Aa,Ab,Ac,Ad, t17_6,Ab, t6_0, t6_0, (gdV (wt t6_0 true) Ab), t9_1, t10_2, t10_2, (gdV (wt t10_2 true) Aa), (gdV (wt t10_2 true) Ab), t14_3, t15_4, t16_5, t17_6], h⟩ := by kernel_rfl
theorem call25 (h : Heap) : evC Tryd.prog 25 #[Aa,Ab] h = codeK Tryd.prog (evC Tryd.prog) loopL c25_0 ⟨#[Aa,Ab, undef, undef, undef, undef, undef, undef, undef, undef, undef, undef, undef, undef, undef, undef, undef, undef], nm h⟩ (retK Tryd.f25 Tryd.prog h) :=
  (evC_call 25 Tryd.f25 c25_0 Tryd.func25 (by kernel_rfl) #[Aa,Ab] h).trans (by kernel_rfl)
theorem ret25 (h0 h : Heap) : retK Tryd.f25 Tryd.prog h0 .ret ⟨#[Aa,Ab,Ac,Ad,Ae,Af,Ag,Ah,Ai,Aj,Ak,Al,An,Ao,Ap,Aq,Ar,As], h⟩ = fin h0 (some Ae) h := by kernel_rfl
end Go.Am
namespace Go.Am
open Go.Proofs
set_option maxRecDepth 100000
variable (Aa Ab Ac Ad Ae Af Ag Ah Ai Aj Ak Al An Ao Ap Aq Ar As Au : Value)
end Go.Am
namespace Go.Am
open Go.Proofs
set_option maxRecDepth 100000
variable {β : Type} (x : Nat → Value) (h : Heap) (k : Ex → St → Option β) (r m : List Nat) (g : Heap)
noncomputable def c89_0 : Code := bodyC Tryd.f89 []
theorem c89_0_eq : cK c89_0 6 x h k =
(bn .neq 3 (x 0) (x 0)).bind fun v0 =>
k .ret ⟨ar 6 (up x [(2,v0),(3,(x 0)),(4,(x 0)),(5,v0)]), h⟩ := by kernel_rfl
theorem call89 (a0 : Value) : evC Tryd.prog 89 #[a0] h = cK c89_0 6 (up un [(0,a0)]) (nm h) (retK Tryd.f89 Tryd.prog h) :=
  (evC_call 89 Tryd.f89 c89_0 Tryd.func89 (by kernel_rfl) #[a0] h).trans (by kernel_rfl)
theorem ret89 : retK Tryd.f89 Tryd.prog g .ret ⟨ar 6 x, h⟩ = fin g (some (x 2)) h := by kernel_rfl
end Go.Am
namespace Go.Am
open Go.Proofs
set_option maxRecDepth 100000
variable {β : Type} (x : Nat → Value) (h : Heap) (k : Ex → St → Option β) (r m : List Nat) (g : Heap)
noncomputable def c90_0 : Code := bodyC Tryd.f90 []
theorem c90_0_eq : cK c90_0 6 x h k =
(bn .neq 23 (x 0) (x 0)).bind fun v0 =>
k .ret ⟨ar 6 (up x [(2,v0),(3,(x 0)),(4,(x 0)),(5,v0)]), h⟩ := by kernel_rfl
theorem call90 (a0 : Value) : evC Tryd.prog 90 #[a0] h = cK c90_0 6 (up un [(0,a0)]) (nm h) (retK Tryd.f90 Tryd.prog h) :=
  (evC_call 90 Tryd.f90 c90_0 Tryd.func90 (by kernel_rfl) #[a0] h).trans (by kernel_rfl)
theorem ret90 : retK Tryd.f90 Tryd.prog g .ret ⟨ar 6 x, h⟩ = fin g (some (x 2)) h := by kernel_rfl
end Go.Am
namespace Go.Am
open Go.Proofs
set_option maxRecDepth 100000
variable {β : Type} (x : Nat → Value) (h : Heap) (k : Ex → St → Option β) (r m : List Nat) (g : Heap)
noncomputable def c76_0 : Code := bodyC Tryd.f76 []
theorem c76_0_eq : cK c76_0 20 x h k =
obH (ev 89 #[x 0] h) fun v0 h1 =>
obH (ev 89 #[x 1] h1) fun v2 h3 =>
cnd v0 (
cnd v2 (
k .ret ⟨ar 20 (up x [(4,(.int .i64 0)),(5,v0),(6,v2),(7,(x 0)),(8,v0),(9,(x 1)),(10,v2),(11,v0),(12,v2)]), h3⟩) (
k .ret ⟨ar 20 (up x [(4,(.int .i64 (-1))),(5,v0),(6,v2),(7,(x 0)),(8,v0),(9,(x 1)),(10,v2),(11,v0),(12,v2)]), h3⟩)) (
cnd v2 (
k .ret ⟨ar 20 (up x [(4,(.int .i64 1)),(5,v0),(6,v2),(7,(x 0)),(8,v0),(9,(x 1)),(10,v2),(11,v0),(13,v2)]), h3⟩) (
(bn .lss 3 (x 0) (x 1)).bind fun v4 =>
cnd v4 (
k .ret ⟨ar 20 (up x [(4,(.int .i64 (-1))),(5,v0),(6,v2),(7,(x 0)),(8,v0),(9,(x 1)),(10,v2),(11,v0),(13,v2),(14,(x 0)),(15,(x 1)),(16,v4)]), h3⟩) (
(bn .gtr 3 (x 0) (x 1)).bind fun v5 =>
cnd v5 (
k .ret ⟨ar 20 (up x [(4,(.int .i64 1)),(5,v0),(6,v2),(7,(x 0)),(8,v0),(9,(x 1)),(10,v2),(11,v0),(13,v2),(14,(x 0)),(15,(x 1)),(16,v4),(17,(x 0)),(18,(x 1)),(19,v5)]), h3⟩) (
k .ret ⟨ar 20 (up x [(4,(.int .i64 0)),(5,v0),(6,v2),(7,(x 0)),(8,v0),(9,(x 1)),(10,v2),(11,v0),(13,v2),(14,(x 0)),(15,(x 1)),(16,v4),(17,(x 0)),(18,(x 1)),(19,v5)]), h3⟩)))) := by kernel_rfl
theorem call76 (a0 a1 : Value) : evC Tryd.prog 76 #[a0,a1] h = cK c76_0 20 (up un [(0,a0),(1,a1)]) (nm h) (retK Tryd.f76 Tryd.prog h) :=
  (evC_call 76 Tryd.f76 c76_0 Tryd.func76 (by kernel_rfl) #[a0,a1] h).trans (by kernel_rfl)
theorem ret76 : retK Tryd.f76 Tryd.prog g .ret ⟨ar 20 x, h⟩ = fin g (some (x 4)) h := by kernel_rfl
end Go.Am
namespace Go.Am
open Go.Proofs
set_option maxRecDepth 100000
variable {β : Type} (x : Nat → Value) (h : Heap) (k : Ex → St → Option β) (r m : List Nat) (g : Heap)
noncomputable def c77_0 : Code := bodyC Tryd.f77 []
theorem c77_0_eq : cK c77_0 20 x h k =
obH (ev 90 #[x 0] h) fun v0 h1 =>
obH (ev 90 #[x 1] h1) fun v2 h3 =>
cnd v0 (
cnd v2 (
k .ret ⟨ar 20 (up x [(4,(.int .i64 0)),(5,v0),(6,v2),(7,(x 0)),(8,v0),(9,(x 1)),(10,v2),(11,v0),(12,v2)]), h3⟩) (
k .ret ⟨ar 20 (up x [(4,(.int .i64 (-1))),(5,v0),(6,v2),(7,(x 0)),(8,v0),(9,(x 1)),(10,v2),(11,v0),(12,v2)]), h3⟩)) (
cnd v2 (
k .ret ⟨ar 20 (up x [(4,(.int .i64 1)),(5,v0),(6,v2),(7,(x 0)),(8,v0),(9,(x 1)),(10,v2),(11,v0),(13,v2)]), h3⟩) (
(bn .lss 23 (x 0) (x 1)).bind fun v4 =>
cnd v4 (
k .ret ⟨ar 20 (up x [(4,(.int .i64 (-1))),(5,v0),(6,v2),(7,(x 0)),(8,v0),(9,(x 1)),(10,v2),(11,v0),(13,v2),(14,(x 0)),(15,(x 1)),(16,v4)]), h3⟩) (
(bn .gtr 23 (x 0) (x 1)).bind fun v5 =>
cnd v5 (
k .ret ⟨ar 20 (up x [(4,(.int .i64 1)),(5,v0),(6,v2),(7,(x 0)),(8,v0),(9,(x 1)),(10,v2),(11,v0),(13,v2),(14,(x 0)),(15,(x 1)),(16,v4),(17,(x 0)),(18,(x 1)),(19,v5)]), h3⟩) (
k .ret ⟨ar 20 (up x [(4,(.int .i64 0)),(5,v0),(6,v2),(7,(x 0)),(8,v0),(9,(x 1)),(10,v2),(11,v0),(13,v2),(14,(x 0)),(15,(x 1)),(16,v4),(17,(x 0)),(18,(x 1)),(19,v5)]), h3⟩)))) := by kernel_rfl
theorem call77 (a0 a1 : Value) : evC Tryd.prog 77 #[a0,a1] h = cK c77_0 20 (up un [(0,a0),(1,a1)]) (nm h) (retK Tryd.f77 Tryd.prog h) :=
  (evC_call 77 Tryd.f77 c77_0 Tryd.func77 (by kernel_rfl) #[a0,a1] h).trans (by kernel_rfl)
theorem ret77 : retK Tryd.f77 Tryd.prog g .ret ⟨ar 20 x, h⟩ = fin g (some (x 4)) h := by kernel_rfl
end Go.Am
namespace Go.Am
open Go.Proofs
set_option maxRecDepth 100000
variable {β : Type} (x : Nat → Value) (h : Heap) (k : Ex → St → Option β) (r m : List Nat) (g : Heap)
noncomputable def c75_0 : Code := bodyC Tryd.f75 []
noncomputable def c75_1 : Code := bodyC Tryd.f75 [true, true, false, true, false, false]
noncomputable def c75_2 : Code := bodyC Tryd.f75 [true, true, true]
theorem c75_0_eq : cK c75_0 18 x h k =
(ln 41 (x 0) h).bind fun v0 =>
lK c75_1 18 (up x [(2,(.int .i64 0)),(3,(.int .i64 0)),(6,(x 0)),(7,v0),(8,(.int .i64 0))]) h (blockK 0 (sK c75_2 k)) := by kernel_rfl
theorem c75_1_eq : cK c75_1 18 x h k =
(bn .lss 3 (x 8) (x 7)).bind fun v1 =>
cnd v1 (
(ia 41 (x 6) (x 8)).bind fun v2 =>
(ld 3 v2 h).bind fun v3 =>
(bn .neq 3 v3 (x 3)).bind fun v4 =>
cnd v4 (
k .ret ⟨ar 18 (up x [(2,v3),(5,v3),(9,v1),(10,v2),(11,v3),(12,v3),(13,(x 3)),(14,v4),(15,v3)]), h⟩) (
(bn .add 3 (x 8) (.int .i64 1)).bind fun v5 =>
k .normal ⟨ar 18 (up x [(5,v3),(8,v5),(9,v1),(10,v2),(11,v3),(12,v3),(13,(x 3)),(14,v4),(16,v5)]), h⟩)) (
k (.exit 0) ⟨ar 18 (up x [(9,v1)]), h⟩) := by kernel_rfl
theorem c75_2_eq : cK c75_2 18 x h k =
k .ret ⟨ar 18 (up x [(2,(x 3)),(17,(x 3))]), h⟩ := by kernel_rfl
theorem call75 (a0 : Value) : evC Tryd.prog 75 #[a0] h = cK c75_0 18 (up un [(0,a0)]) (nm h) (retK Tryd.f75 Tryd.prog h) :=
  (evC_call 75 Tryd.f75 c75_0 Tryd.func75 (by kernel_rfl) #[a0] h).trans (by kernel_rfl)
theorem ret75 : retK Tryd.f75 Tryd.prog g .ret ⟨ar 18 x, h⟩ = fin g (some (x 2)) h := by kernel_rfl
end Go.Am
namespace Go.Am
open Go.Proofs
set_option maxRecDepth 100000
variable {β : Type} (x : Nat → Value) (h : Heap) (k : Ex → St → Option β) (r m : List Nat) (g : Heap)
noncomputable def c55_0 : Code := bodyC Tryd.f55 []
theorem c55_0_eq : cK c55_0 17 x h k =
obH (boxV Tryd.prog 68 (x 0) h) fun v0 h1 =>
obH (boxV Tryd.prog 68 (x 1) h1) fun v2 h3 =>
(fa 68 v0 0).bind fun v4 =>
(ld 3 v4 h3).bind fun v5 =>
(fa 68 v2 0).bind fun v6 =>
(ld 3 v6 h3).bind fun v7 =>
obH (ev 76 #[v5,v7] (nm h3)) fun v8 h9 =>
(fa 68 v0 1).bind fun v10 =>
(ld 23 v10 (am h9 h3)).bind fun v11 =>
(fa 68 v2 1).bind fun v12 =>
(ld 23 v12 (am h9 h3)).bind fun v13 =>
obH (ev 77 #[v11,v13] (am h9 h3)) fun v14 h15 =>
obH (buildSliceV Tryd.prog 41 2 #[(0, v8), (1, v14)] h15) fun v16 h17 =>
obH (ev 75 #[v16] h17) fun v18 h19 =>
chk ((rb v12) ++ ((rb v10) ++ [])) (h9.mods ++ []) (
k .ret ⟨ar 17 (up x [(2,v0),(3,v2),(4,v18),(5,v4),(6,v5),(7,v6),(8,v7),(9,v8),(10,v10),(11,v11),(12,v12),(13,v13),(14,v14),(15,v16),(16,v18)]), h19⟩) := by kernel_rfl
theorem call55 (a0 a1 : Value) : evC Tryd.prog 55 #[a0,a1] h = cK c55_0 17 (up un [(0,a0),(1,a1)]) (nm h) (retK Tryd.f55 Tryd.prog h) :=
  (evC_call 55 Tryd.f55 c55_0 Tryd.func55 (by kernel_rfl) #[a0,a1] h).trans (by kernel_rfl)
theorem ret55 : retK Tryd.f55 Tryd.prog g .ret ⟨ar 17 x, h⟩ = fin g (some (x 4)) h := by kernel_rfl
end Go.Am
namespace Go.Am
open Go.Proofs
set_option maxRecDepth 100000
variable (Aa Ab Ac : Value)
noncomputable def c56_0 : Code := bodyC Tryd.f56 []
theorem c56_0_eq {β : Type} (h : Heap) (k : Ex → St → Option β) : codeK Tryd.prog (evC Tryd.prog) loopL c56_0 ⟨#[Aa,Ab,Ac], h⟩ k =
(buildV Tryd.prog 141 #[]).bind fun t1_0 =>
obH (boxV Tryd.prog 141 t1_0 h) fun t2_1 h2 =>
k .ret ⟨#[t2_1, t1_0, t2_1], h2⟩ := by kernel_rfl
theorem call56 (h : Heap) : evC Tryd.prog 56 #[] h = codeK Tryd.prog (evC Tryd.prog) loopL c56_0 ⟨#[undef, undef, undef], nm h⟩ (retK Tryd.f56 Tryd.prog h) :=
  (evC_call 56 Tryd.f56 c56_0 Tryd.func56 (by kernel_rfl) #[] h).trans (by kernel_rfl)
theorem ret56 (h0 h : Heap) : retK Tryd.f56 Tryd.prog h0 .ret ⟨#[Aa,Ab,Ac], h⟩ = fin h0 (some Aa) h := by kernel_rfl
end Go.Am
namespace Go.Am
open Go.Proofs
set_option maxRecDepth 100000
variable (Aa Ab Ac Ad Ae Af Ag Ah Ai Aj Ak Al An : Value)
noncomputable def c57_0 : Code := bodyC Tryd.f57 []
theorem c57_0_eq {β : Type} (h : Heap) (k : Ex → St → Option β) : codeK Tryd.prog (evC Tryd.prog) loopL c57_0 ⟨#[Aa,Ab,Ac,Ad,Ae,Af,Ag,Ah,Ai,Aj,Ak,Al,An], h⟩ k =
(nilCheckV Tryd.prog Aa).bind fun t6_0 =>
(fieldAddrV Tryd.prog 141 t6_0 0).bind fun t7_1 =>
(loadV Tryd.prog 40 t7_1 h).bind fun t8_2 =>
obH (evC Tryd.prog 78 #[t8_2,Ab] h) fun t10_3 h4 =>
(nilCheckV Tryd.prog Aa).bind fun t11_5 =>
(fieldAddrV Tryd.prog 141 t11_5 0).bind fun t12_6 =>
(storeV Tryd.prog 40 t12_6 t10_3 h4).bind fun h7 =>
k .normal ⟨#[Aa,Ab,Ac,Ad,Aa,Aa, t6_0, t7_1, t8_2,Ab, t10_3, t11_5, t12_6], h7⟩ := by kernel_rfl
theorem call57 (h : Heap) : evC Tryd.prog 57 #[Aa,Ab] h = codeK Tryd.prog (evC Tryd.prog) loopL c57_0 ⟨#[Aa,Ab, undef, undef, undef, undef, undef, undef, undef, undef, undef, undef, undef], nm h⟩ (retK Tryd.f57 Tryd.prog h) :=
  (evC_call 57 Tryd.f57 c57_0 Tryd.func57 (by kernel_rfl) #[Aa,Ab] h).trans (by kernel_rfl)
theorem retn57 (h0 h : Heap) : retK Tryd.f57 Tryd.prog h0 .normal ⟨#[Aa,Ab,Ac,Ad,Ae,Af,Ag,Ah,Ai,Aj,Ak,Al,An], h⟩ = fin h0 (some (.tuple #[])) h := by kernel_rfl
end Go.Am
namespace Go.Am
open Go.Proofs
set_option maxRecDepth 100000
variable (Aa Ab Ac Ad Ae Af Ag Ah : Value)
noncomputable def c59_0 : Code := bodyC Tryd.f59 []
theorem c59_0_eq {β : Type} (h : Heap) (k : Ex → St → Option β) : codeK Tryd.prog (evC Tryd.prog) loopL c59_0 ⟨#[Aa,Ab,Ac,Ad,Ae,Af,Ag,Ah], h⟩ k =
(nilCheckV Tryd.prog Aa).bind fun t4_0 =>
(fieldAddrV Tryd.prog 141 t4_0 0).bind fun t5_1 =>
(loadV Tryd.prog 40 t5_1 h).bind fun t6_2 =>
obH (evC Tryd.prog 79 #[t6_2] h) fun t7_3 h4 =>
k .ret ⟨#[Aa,Ab, t7_3,Aa, t4_0, t5_1, t6_2, t7_3], h4⟩ := by kernel_rfl
theorem call59 (h : Heap) : evC Tryd.prog 59 #[Aa] h = codeK Tryd.prog (evC Tryd.prog) loopL c59_0 ⟨#[Aa, undef, undef, undef, undef, undef, undef, undef], nm h⟩ (retK Tryd.f59 Tryd.prog h) :=
  (evC_call 59 Tryd.f59 c59_0 Tryd.func59 (by kernel_rfl) #[Aa] h).trans (by kernel_rfl)
theorem ret59 (h0 h : Heap) : retK Tryd.f59 Tryd.prog h0 .ret ⟨#[Aa,Ab,Ac,Ad,Ae,Af,Ag,Ah], h⟩ = fin h0 (some Ac) h := by kernel_rfl
end Go.Am
namespace Go.Am
open Go.Proofs
set_option maxRecDepth 100000
variable (Aa Ab Ac Ad Ae Af Ag : Value)
noncomputable def c67_0 : Code := bodyC Tryd.f67 []
theorem c67_0_eq {β : Type} (h : Heap) (k : Ex → St → Option β) : codeK Tryd.prog (evC Tryd.prog) loopL c67_0 ⟨#[Aa,Ab,Ac,Ad,Ae,Af,Ag], h⟩ k =
obH (evC Tryd.prog 79 #[Aa] h) fun t4_0 h1 =>
(buildV Tryd.prog 150 #[(0, t4_0)]).bind fun t5_2 =>
obH (boxV Tryd.prog 150 t5_2 h1) fun t6_3 h4 =>
k .ret ⟨#[Aa,Ab, t6_3,Aa, t4_0, t5_2, t6_3], h4⟩ := by kernel_rfl
theorem call67 (h : Heap) : evC Tryd.prog 67 #[Aa] h = codeK Tryd.prog (evC Tryd.prog) loopL c67_0 ⟨#[Aa, undef, undef, undef, undef, undef, undef], nm h⟩ (retK Tryd.f67 Tryd.prog h) :=
  (evC_call 67 Tryd.f67 c67_0 Tryd.func67 (by kernel_rfl) #[Aa] h).trans (by kernel_rfl)
theorem ret67 (h0 h : Heap) : retK Tryd.f67 Tryd.prog h0 .ret ⟨#[Aa,Ab,Ac,Ad,Ae,Af,Ag], h⟩ = fin h0 (some Ac) h := by kernel_rfl
end Go.Am
namespace Go.Am
open Go.Proofs
set_option maxRecDepth 100000
variable (Aa Ab Ac Ad Ae Af Ag Ah Ai Aj Ak Al An Ao Ap Aq Ar As Au Av Aw Ax Ay Az Ba Bb Bc Bd Be Bf Bg Bh Bi Bj : Value)
noncomputable def c68_0 : Code := bodyC Tryd.f68 []
theorem c68_0_eq {β : Type} (h : Heap) (k : Ex → St → Option β) : codeK Tryd.prog (evC Tryd.prog) loopL c68_0 ⟨#[Aa,Ab,Ac,Ad,Ae,Af,Ag,Ah,Ai,Aj,Ak,Al,An,Ao,Ap,Aq,Ar,As,Au,Av,Aw,Ax,Ay,Az,Ba,Bb,Bc,Bd,Be,Bf,Bg,Bh,Bi,Bj], h⟩ k =
(nilCheckV Tryd.prog Aa).bind fun t9_0 =>
(fieldAddrV Tryd.prog 150 t9_0 0).bind fun t10_1 =>
(loadV Tryd.prog 40 t10_1 h).bind fun t11_2 =>
obH (evC Tryd.prog 84 #[t11_2] h) fun t12_3 h4 =>
(extractV t12_3 0).bind fun t13_5 =>
(extractV t12_3 1).bind fun t14_6 =>
(binV Tryd.prog .eql 3 (.tmp 16) (.const (Go.Value.int Go.IntKind.i64 0)) t14_6 (Go.Value.int Go.IntKind.i64 0)).bind fun t17_7 =>
(gd (wt t17_7 false) (binV Tryd.prog .gtr 23 (.tmp 19) (.tmp 20) (gdV (wt t17_7 false) t13_5) (gdV (wt t17_7 false) Ab))).bind fun t21_8 =>
(pickV t17_7 (Go.Value.bool Bool.true) t21_8).bind fun t22_9 =>
obH (evC Tryd.prog 85 #[Aa, t22_9] h4) fun t23_10 h11 =>
cnd t23_10 (
k .ret ⟨#[Aa,Ab,Ac,Ad, (Go.Value.int Go.IntKind.u64 0), t13_5, t14_6, t12_3,Aa, t9_0, t10_1, t11_2, t12_3, t13_5, t14_6,Aa, t14_6, t17_7, t17_7, (gdV (wt t17_7 false) t13_5), (gdV (wt t17_7 false) Ab), t21_8, t22_9, t23_10,Ba,Bb,Bc,Bd,Be,Bf,Bg,Bh,Bi,Bj], h11⟩) (
(nilCheckV Tryd.prog Aa).bind fun t26_12 =>
(fieldAddrV Tryd.prog 150 t26_12 0).bind fun t27_13 =>
(loadV Tryd.prog 40 t27_13 h11).bind fun t28_14 =>
(sliceV Tryd.prog 40 t28_14 (some t14_6) none none h11).bind fun t30_15 =>
(nilCheckV Tryd.prog Aa).bind fun t31_16 =>
(fieldAddrV Tryd.prog 150 t31_16 0).bind fun t32_17 =>
(storeV Tryd.prog 40 t32_17 t30_15 h11).bind fun h18 =>
k .ret ⟨#[Aa,Ab,Ac,Ad, t13_5, t13_5, t14_6, t12_3,Aa, t9_0, t10_1, t11_2, t12_3, t13_5, t14_6,Aa, t14_6, t17_7, t17_7, (gdV (wt t17_7 false) t13_5), (gdV (wt t17_7 false) Ab), t21_8, t22_9, t23_10,Aa,Aa, t26_12, t27_13, t28_14, t14_6, t30_15, t31_16, t32_17, t13_5], h18⟩) := by kernel_rfl
theorem call68 (h : Heap) : evC Tryd.prog 68 #[Aa,Ab] h = codeK Tryd.prog (evC Tryd.prog) loopL c68_0 ⟨#[Aa,Ab, undef, undef, undef, undef, undef, undef, undef, undef, undef, undef, undef, undef, undef, undef, undef, undef, undef, undef, undef, undef, undef, undef, undef, undef, undef, undef, undef, undef, undef, undef, undef, undef], nm h⟩ (retK Tryd.f68 Tryd.prog h) :=
  (evC_call 68 Tryd.f68 c68_0 Tryd.func68 (by kernel_rfl) #[Aa,Ab] h).trans (by kernel_rfl)
theorem ret68 (h0 h : Heap) : retK Tryd.f68 Tryd.prog h0 .ret ⟨#[Aa,Ab,Ac,Ad,Ae,Af,Ag,Ah,Ai,Aj,Ak,Al,An,Ao,Ap,Aq,Ar,As,Au,Av,Aw,Ax,Ay,Az,Ba,Bb,Bc,Bd,Be,Bf,Bg,Bh,Bi,Bj], h⟩ = fin h0 (some Ae) h := by kernel_rfl
end Go.Am
namespace Go.Am
open Go.Proofs
set_option maxRecDepth 100000
variable (Aa Ab Ac Ad Ae Af Ag Ah Ai Aj Ak Al An Ao Ap Aq : Value)
noncomputable def c69_0 : Code := bodyC Tryd.f69 []
theorem c69_0_eq {β : Type} (h : Heap) (k : Ex → St → Option β) : codeK Tryd.prog (evC Tryd.prog) loopL c69_0 ⟨#[Aa,Ab,Ac,Ad,Ae,Af,Ag,Ah,Ai,Aj,Ak,Al,An,Ao,Ap,Aq], h⟩ k =
(nilCheckV Tryd.prog Aa).bind fun t4_0 =>
(fieldAddrV Tryd.prog 150 t4_0 1).bind fun t5_1 =>
(loadV Tryd.prog 4 t5_1 h).bind fun t6_2 =>
(unV Tryd.prog .not t6_2).bind fun t7_3 =>
(gd (wt t7_3 true) (nilCheckV Tryd.prog (gdV (wt t7_3 true) Aa))).bind fun t10_4 =>
(gd (wt t7_3 true) (fieldAddrV Tryd.prog 150 t10_4 0)).bind fun t11_5 =>
(gd (wt t7_3 true) (loadV Tryd.prog 40 t11_5 h)).bind fun t12_6 =>
(gd (wt t7_3 true) (lenV Tryd.prog 40 t12_6 h)).bind fun t13_7 =>
(gd (wt t7_3 true) (binV Tryd.prog .eql 3 (.tmp 13) (.const (Go.Value.int Go.IntKind.i64 0)) t13_7 (Go.Value.int Go.IntKind.i64 0))).bind fun t14_8 =>
(pickV t7_3 t14_8 (Go.Value.bool Bool.false)).bind fun t15_9 =>
k .ret ⟨#[Aa,Ab, t15_9,Aa, t4_0, t5_1, t6_2, t7_3, t7_3, (gdV (wt t7_3 true) Aa), t10_4, t11_5, t12_6, t13_7, t14_8, t15_9], h⟩ := by kernel_rfl
theorem call69 (h : Heap) : evC Tryd.prog 69 #[Aa] h = codeK Tryd.prog (evC Tryd.prog) loopL c69_0 ⟨#[Aa, undef, undef, undef, undef, undef, undef, undef, undef, undef, undef, undef, undef, undef, undef, undef], nm h⟩ (retK Tryd.f69 Tryd.prog h) :=
  (evC_call 69 Tryd.f69 c69_0 Tryd.func69 (by kernel_rfl) #[Aa] h).trans (by kernel_rfl)
theorem ret69 (h0 h : Heap) : retK Tryd.f69 Tryd.prog h0 .ret ⟨#[Aa,Ab,Ac,Ad,Ae,Af,Ag,Ah,Ai,Aj,Ak,Al,An,Ao,Ap,Aq], h⟩ = fin h0 (some Ac) h := by kernel_rfl
end Go.Am
namespace Go.Am
open Go.Proofs
set_option maxRecDepth 100000
variable (Aa Ab Ac Ad Ae Af Ag Ah Ai Aj Ak Al An Ao Ap Aq : Value)
noncomputable def c85_0 : Code := bodyC Tryd.f85 []
noncomputable def c85_1 : Code := bodyC Tryd.f85 [true, true]
theorem c85_0_eq {β : Type} (h : Heap) (k : Ex → St → Option β) : codeK Tryd.prog (evC Tryd.prog) loopL c85_0 ⟨#[Aa,Ab,Ac,Ad,Ae,Af,Ag,Ah,Ai,Aj,Ak,Al,An,Ao,Ap,Aq], h⟩ k =
cnd Ab (
(nilCheckV Tryd.prog Aa).bind fun t8_0 =>
(fieldAddrV Tryd.prog 150 t8_0 0).bind fun t9_1 =>
(storeV Tryd.prog 40 t9_1 (Go.Value.slice Option.none 0 0) h).bind fun h2 =>
(nilCheckV Tryd.prog Aa).bind fun t10_3 =>
(fieldAddrV Tryd.prog 150 t10_3 1).bind fun t11_4 =>
(storeV Tryd.prog 4 t11_4 (Go.Value.bool Bool.true) h2).bind fun h5 =>
codeK Tryd.prog (evC Tryd.prog) loopL c85_1 ⟨#[Aa,Ab,Ac,Ad, (Go.Value.bool Bool.false),Ab,Aa,Aa, t8_0, t9_1, t10_3, t11_4,An,Ao,Ap,Aq], h5⟩ k) (
codeK Tryd.prog (evC Tryd.prog) loopL c85_1 ⟨#[Aa,Ab,Ac,Ad, (Go.Value.bool Bool.false),Ab,Ag,Ah,Ai,Aj,Ak,Al,An,Ao,Ap,Aq], h⟩ k) := by kernel_rfl
theorem c85_1_eq {β : Type} (h : Heap) (k : Ex → St → Option β) : codeK Tryd.prog (evC Tryd.prog) loopL c85_1 ⟨#[Aa,Ab,Ac,Ad,Ae,Af,Ag,Ah,Ai,Aj,Ak,Al,An,Ao,Ap,Aq], h⟩ k =
(nilCheckV Tryd.prog Aa).bind fun t13_6 =>
(fieldAddrV Tryd.prog 150 t13_6 1).bind fun t14_7 =>
(loadV Tryd.prog 4 t14_7 h).bind fun t15_8 =>
k .ret ⟨#[Aa,Ab,Ac,Ad, t15_8,Af,Ag,Ah,Ai,Aj,Ak,Al,Aa, t13_6, t14_7, t15_8], h⟩ := by kernel_rfl
theorem call85 (h : Heap) : evC Tryd.prog 85 #[Aa,Ab] h = codeK Tryd.prog (evC Tryd.prog) loopL c85_0 ⟨#[Aa,Ab, undef, undef, undef, undef, undef, undef, undef, undef, undef, undef, undef, undef, undef, undef], nm h⟩ (retK Tryd.f85 Tryd.prog h) :=
  (evC_call 85 Tryd.f85 c85_0 Tryd.func85 (by kernel_rfl) #[Aa,Ab] h).trans (by kernel_rfl)
theorem ret85 (h0 h : Heap) : retK Tryd.f85 Tryd.prog h0 .ret ⟨#[Aa,Ab,Ac,Ad,Ae,Af,Ag,Ah,Ai,Aj,Ak,Al,An,Ao,Ap,Aq], h⟩ = fin h0 (some Ae) h := by kernel_rfl
end Go.Am
namespace Go.Am
open Go.Proofs
set_option maxRecDepth 100000
variable (Aa Ab Ac Ad Ae Af Ag Ah Ai Aj Ak Al An Ao Ap Aq Ar As Au Av Aw Ax Ay Az Ba Bb Bc Bd Be Bf Bg Bh Bi Bj Bk : Value)
noncomputable def c70_0 : Code := bodyC Tryd.f70 []
theorem c70_0_eq {β : Type} (h : Heap) (k : Ex → St → Option β) : codeK Tryd.prog (evC Tryd.prog) loopL c70_0 ⟨#[Aa,Ab,Ac,Ad,Ae,Af,Ag,Ah,Ai,Aj,Ak,Al,An,Ao,Ap,Aq,Ar,As,Au,Av,Aw,Ax,Ay,Az,Ba,Bb,Bc,Bd,Be,Bf,Bg,Bh,Bi,Bj,Bk], h⟩ k =
(nilCheckV Tryd.prog Aa).bind fun t9_0 =>
(fieldAddrV Tryd.prog 150 t9_0 0).bind fun t10_1 =>
(loadV Tryd.prog 40 t10_1 h).bind fun t11_2 =>
obH (evC Tryd.prog 84 #[t11_2] h) fun t12_3 h4 =>
(extractV t12_3 0).bind fun t13_5 =>
(extractV t12_3 1).bind fun t14_6 =>
(binV Tryd.prog .eql 3 (.tmp 16) (.const (Go.Value.int Go.IntKind.i64 0)) t14_6 (Go.Value.int Go.IntKind.i64 0)).bind fun t17_7 =>
obH (gdH (wt t17_7 false) h4 (evC Tryd.prog 74 #[(gdV (wt t17_7 false) t13_5), (gdV (wt t17_7 false) Ab)] h4)) fun t21_8 h9 =>
(gd (wt t17_7 false) (unV Tryd.prog .not t21_8)).bind fun t22_10 =>
(pickV t17_7 (Go.Value.bool Bool.true) t22_10).bind fun t23_11 =>
obH (evC Tryd.prog 85 #[Aa, t23_11] h9) fun t24_12 h13 =>
cnd t24_12 (
k .ret ⟨#[Aa,Ab,Ac,Ad, (Go.Value.int Go.IntKind.u64 0), t13_5, t14_6, t12_3,Aa, t9_0, t10_1, t11_2, t12_3, t13_5, t14_6,Aa, t14_6, t17_7, t17_7, (gdV (wt t17_7 false) t13_5), (gdV (wt t17_7 false) Ab), t21_8, t22_10, t23_11, t24_12,Bb,Bc,Bd,Be,Bf,Bg,Bh,Bi,Bj,Bk], h13⟩) (
(nilCheckV Tryd.prog Aa).bind fun t27_14 =>
(fieldAddrV Tryd.prog 150 t27_14 0).bind fun t28_15 =>
(loadV Tryd.prog 40 t28_15 h13).bind fun t29_16 =>
(sliceV Tryd.prog 40 t29_16 (some t14_6) none none h13).bind fun t31_17 =>
(nilCheckV Tryd.prog Aa).bind fun t32_18 =>
(fieldAddrV Tryd.prog 150 t32_18 0).bind fun t33_19 =>
(storeV Tryd.prog 40 t33_19 t31_17 h13).bind fun h20 =>
k .ret ⟨#[Aa,Ab,Ac,Ad, t13_5, t13_5, t14_6, t12_3,Aa, t9_0, t10_1, t11_2, t12_3, t13_5, t14_6,Aa, t14_6, t17_7, t17_7, (gdV (wt t17_7 false) t13_5), (gdV (wt t17_7 false) Ab), t21_8, t22_10, t23_11, t24_12,Aa,Aa, t27_14, t28_15, t29_16, t14_6, t31_17, t32_18, t33_19, t13_5], h20⟩) := by kernel_rfl
theorem call70 (h : Heap) : evC Tryd.prog 70 #[Aa,Ab] h = codeK Tryd.prog (evC Tryd.prog) loopL c70_0 ⟨#[Aa,Ab, undef, undef, undef, undef, undef, undef, undef, undef, undef, undef, undef, undef, undef, undef, undef, undef, undef, undef, undef, undef, undef, undef, undef, undef, undef, undef, undef, undef, undef, undef, undef, undef, undef], nm h⟩ (retK Tryd.f70 Tryd.prog h) :=
  (evC_call 70 Tryd.f70 c70_0 Tryd.func70 (by kernel_rfl) #[Aa,Ab] h).trans (by kernel_rfl)
theorem ret70 (h0 h : Heap) : retK Tryd.f70 Tryd.prog h0 .ret ⟨#[Aa,Ab,Ac,Ad,Ae,Af,Ag,Ah,Ai,Aj,Ak,Al,An,Ao,Ap,Aq,Ar,As,Au,Av,Aw,Ax,Ay,Az,Ba,Bb,Bc,Bd,Be,Bf,Bg,Bh,Bi,Bj,Bk], h⟩ = fin h0 (some Ae) h := by kernel_rfl
end Go.Am
namespace Go.Am
open Go.Proofs
set_option maxRecDepth 100000
variable (Aa Ab Ac Ad Ae Af Ag : Value)
noncomputable def c58_0 : Code := bodyC Tryd.f58 []
theorem c58_0_eq {β : Type} (h : Heap) (k : Ex → St → Option β) : codeK Tryd.prog (evC Tryd.prog) loopL c58_0 ⟨#[Aa,Ab,Ac,Ad,Ae,Af,Ag], h⟩ k =
obH (evC Tryd.prog 57 #[Aa,Ab] h) fun t6_0 h1 =>
k .normal ⟨#[Aa,Ab,Ac,Ad,Aa,Ab, t6_0], h1⟩ := by kernel_rfl
theorem call58 (h : Heap) : evC Tryd.prog 58 #[Aa,Ab] h = codeK Tryd.prog (evC Tryd.prog) loopL c58_0 ⟨#[Aa,Ab, undef, undef, undef, undef, undef], nm h⟩ (retK Tryd.f58 Tryd.prog h) :=
  (evC_call 58 Tryd.f58 c58_0 Tryd.func58 (by kernel_rfl) #[Aa,Ab] h).trans (by kernel_rfl)
theorem retn58 (h0 h : Heap) : retK Tryd.f58 Tryd.prog h0 .normal ⟨#[Aa,Ab,Ac,Ad,Ae,Af,Ag], h⟩ = fin h0 (some (.tuple #[])) h := by kernel_rfl
end Go.Am
namespace Go.Am
open Go.Proofs
set_option maxRecDepth 100000
variable (Aa Ab Ac Ad Ae Af Ag Ah Ai : Value)
noncomputable def c74_0 : Code := bodyC Tryd.f74 []
theorem c74_0_eq {β : Type} (h : Heap) (k : Ex → St → Option β) : codeK Tryd.prog (evC Tryd.prog) loopL c74_0 ⟨#[Aa,Ab,Ac,Ad,Ae,Af,Ag,Ah,Ai], h⟩ k =
(binV Tryd.prog .andNot 38 (.tmp 5) (.tmp 6) Aa Ab).bind fun t7_0 =>
(binV Tryd.prog .eql 38 (.tmp 7) (.const (Go.Value.int Go.IntKind.u64 0)) t7_0 (Go.Value.int Go.IntKind.u64 0)).bind fun t8_1 =>
k .ret ⟨#[Aa,Ab,Ac,Ad, t8_1,Aa,Ab, t7_0, t8_1], h⟩ := by kernel_rfl
theorem call74 (h : Heap) : evC Tryd.prog 74 #[Aa,Ab] h = codeK Tryd.prog (evC Tryd.prog) loopL c74_0 ⟨#[Aa,Ab, undef, undef, undef, undef, undef, undef, undef], nm h⟩ (retK Tryd.f74 Tryd.prog h) :=
  (evC_call 74 Tryd.f74 c74_0 Tryd.func74 (by kernel_rfl) #[Aa,Ab] h).trans (by kernel_rfl)
theorem ret74 (h0 h : Heap) : retK Tryd.f74 Tryd.prog h0 .ret ⟨#[Aa,Ab,Ac,Ad,Ae,Af,Ag,Ah,Ai], h⟩ = fin h0 (some Ae) h := by kernel_rfl
end Go.Am
namespace Go.Am
open Go.Proofs
set_option maxRecDepth 100000
variable {β : Type} (x : Nat → Value) (h : Heap) (k : Ex → St → Option β) (r m : List Nat) (g : Heap)
noncomputable def c54_0 : Code := bodyC Tryd.f54 []
noncomputable def c54_1 : Code := bodyC Tryd.f54 [false]
noncomputable def c54_2 : Code := bodyC Tryd.f54 [true]
noncomputable def d54_0 : Array Oper := opsC (bodyC Tryd.f54 [true, false])
noncomputable def c54_3 : Code := bodyC Tryd.f54 [true, false]
noncomputable def c54_4 : Code := bodyC Tryd.f54 [true, true]
theorem c54_0_eq : cK c54_0 22 x h k =
cK c54_1 22 x h (sK c54_2 k) := codeK_seq _ _ _ _ _ (by kernel_rfl) _ _
theorem c54_1_eq : cK c54_1 22 x h k =
obH (boxV Tryd.prog 68 (x 0) h) fun v0 h1 =>
k .normal ⟨ar 22 (up x [(1,v0),(2,(.bool false))]), h1⟩ := by kernel_rfl
theorem c54_2_eq : cK c54_2 22 x h k =
cK c54_3 22 x h (sK c54_4 k) := codeK_seq _ _ _ _ _ (by kernel_rfl) _ _
theorem d54_0_0 (k : St → Option β) : rD d54_0 0 22 x h r m k =
(fa 68 (x 1) 0).bind fun v2 =>
rD d54_0 1 22 (up x [(3,v2)]) h r m k := (regD_step _ _ d54_0 0 (by kernel_rfl) _ _ _ _).trans (by kernel_rfl)
theorem d54_0_1 (k : St → Option β) : rD d54_0 1 22 x h r m k =
(ld 3 (x 3) h).bind fun v3 =>
rD d54_0 2 22 (up x [(4,v3)]) h r m k := (regD_step _ _ d54_0 1 (by kernel_rfl) _ _ _ _).trans (by kernel_rfl)
theorem d54_0_2 (k : St → Option β) : rD d54_0 2 22 x h r m k =
(bn .geq 3 (x 4) (.int .i64 0)).bind fun v4 =>
rD d54_0 3 22 (up x [(5,v4)]) h r m k := (regD_step _ _ d54_0 2 (by kernel_rfl) _ _ _ _).trans (by kernel_rfl)
theorem d54_0_3 (k : St → Option β) : rD d54_0 3 22 x h r m k =
rD d54_0 4 22 (up x [(6,(x 5))]) h r m k := regD_move _ _ d54_0 3 (by kernel_rfl) (by kernel_rfl) (by kernel_rfl) _ _ _ _ _ _ (by kernel_rfl) (by kernel_rfl)
theorem d54_0_4 (k : St → Option β) : rD d54_0 4 22 x h r m k =
(gd (wt (x 6) true) (fa 68 (x 1) 0)).bind fun v5 =>
rD d54_0 5 22 (up x [(7,v5)]) h r m k := (regD_step _ _ d54_0 4 (by kernel_rfl) _ _ _ _).trans (by kernel_rfl)
theorem d54_0_5 (k : St → Option β) : rD d54_0 5 22 x h r m k =
(gd (wt (x 6) true) (ld 3 (x 7) h)).bind fun v6 =>
rD d54_0 6 22 (up x [(8,v6)]) h r m k := (regD_step _ _ d54_0 5 (by kernel_rfl) _ _ _ _).trans (by kernel_rfl)
theorem d54_0_6 (k : St → Option β) : rD d54_0 6 22 x h r m k =
(gd (wt (x 6) true) (bn .lss 3 (x 8) (.int .i64 16))).bind fun v7 =>
rD d54_0 7 22 (up x [(9,v7)]) h r m k := (regD_step _ _ d54_0 6 (by kernel_rfl) _ _ _ _).trans (by kernel_rfl)
theorem d54_0_7 (k : St → Option β) : rD d54_0 7 22 x h r m k =
(pickV (x 6) (x 9) (.bool false)).bind fun v8 =>
rD d54_0 8 22 (up x [(10,v8)]) h r m k := (regD_step _ _ d54_0 7 (by kernel_rfl) _ _ _ _).trans (by kernel_rfl)
theorem d54_0_8 (k : St → Option β) : rD d54_0 8 22 x h r m k =
rD d54_0 9 22 (up x [(11,(x 10))]) h r m k := regD_move _ _ d54_0 8 (by kernel_rfl) (by kernel_rfl) (by kernel_rfl) _ _ _ _ _ _ (by kernel_rfl) (by kernel_rfl)
theorem d54_0_9 (k : St → Option β) : rD d54_0 9 22 x h r m k =
(gd (wt (x 11) true) (fa 68 (x 1) 1)).bind fun v9 =>
rD d54_0 10 22 (up x [(12,v9)]) h r m k := (regD_step _ _ d54_0 9 (by kernel_rfl) _ _ _ _).trans (by kernel_rfl)
theorem d54_0_10 (k : St → Option β) : rD d54_0 10 22 x h r m k =
(gd (wt (x 11) true) (ld 23 (x 12) h)).bind fun v10 =>
rD d54_0 11 22 (up x [(13,v10)]) h r m k := (regD_step _ _ d54_0 10 (by kernel_rfl) _ _ _ _).trans (by kernel_rfl)
theorem d54_0_11 (k : St → Option β) : rD d54_0 11 22 x h r m k =
(gd (wt (x 11) true) (bn .gtr 23 (x 13) (.int .u64 0))).bind fun v11 =>
rD d54_0 12 22 (up x [(14,v11)]) h r m k := (regD_step _ _ d54_0 11 (by kernel_rfl) _ _ _ _).trans (by kernel_rfl)
theorem d54_0_12 (k : St → Option β) : rD d54_0 12 22 x h r m k =
(pickV (x 11) (x 14) (.bool false)).bind fun v12 =>
rD d54_0 13 22 (up x [(15,v12)]) h r m k := (regD_step _ _ d54_0 12 (by kernel_rfl) _ _ _ _).trans (by kernel_rfl)
theorem d54_0_13 (k : St → Option β) : rD d54_0 13 22 x h r m k =
rD d54_0 14 22 (up x [(16,(x 15))]) h r m k := regD_move _ _ d54_0 13 (by kernel_rfl) (by kernel_rfl) (by kernel_rfl) _ _ _ _ _ _ (by kernel_rfl) (by kernel_rfl)
theorem d54_0_14 (k : St → Option β) : rD d54_0 14 22 x h r m k =
(gd (wt (x 16) true) (fa 68 (x 1) 2)).bind fun v13 =>
rD d54_0 15 22 (up x [(17,v13)]) h r m k := (regD_step _ _ d54_0 14 (by kernel_rfl) _ _ _ _).trans (by kernel_rfl)
theorem d54_0_15 (k : St → Option β) : rD d54_0 15 22 x h r m k =
(gd (wt (x 16) true) (ld 38 (x 17) h)).bind fun v14 =>
rD d54_0 16 22 (up x [(18,v14)]) h (rdL (wt (x 16) true) (rb (x 17)) ++ r) m k := (regD_step _ _ d54_0 15 (by kernel_rfl) _ _ _ _).trans (by kernel_rfl)
theorem d54_0_16 (k : St → Option β) : rD d54_0 16 22 x h r m k =
obH (gdH (wt (x 16) true) (nm h) (ev 35 #[(.int .i64 16)] (nm h))) fun v15 h16 =>
rD d54_0 17 22 (up x [(19,v15)]) (am h16 h) r (h16.mods ++ m) k := (regD_step _ _ d54_0 16 (by kernel_rfl) _ _ _ _).trans (by kernel_rfl)
theorem d54_0_17 (k : St → Option β) : rD d54_0 17 22 x h r m k =
obH (gdH (wt (x 16) true) h (ev 74 #[x 18,x 19] h)) fun v17 h18 =>
rD d54_0 18 22 (up x [(20,v17)]) h18 r m k := (regD_step _ _ d54_0 17 (by kernel_rfl) _ _ _ _).trans (by kernel_rfl)
theorem d54_0_18 (k : St → Option β) : rD d54_0 18 22 x h r m k =
(pickV (x 16) (x 20) (.bool false)).bind fun v19 =>
rD d54_0 19 22 (up x [(21,v19)]) h r m k := (regD_step _ _ d54_0 18 (by kernel_rfl) _ _ _ _).trans (by kernel_rfl)
theorem d54_0_19 (k : St → Option β) : rD d54_0 19 22 x h r m k =
rD d54_0 20 22 (up x [(2,(x 21))]) h r m k := regD_move _ _ d54_0 19 (by kernel_rfl) (by kernel_rfl) (by kernel_rfl) _ _ _ _ _ _ (by kernel_rfl) (by kernel_rfl)
theorem d54_0_20 (k : St → Option β) : rD d54_0 20 22 x h r m k =
chk r m (k ⟨ar 22 x, h⟩) := by kernel_rfl
theorem c54_3_eq : cK c54_3 22 x h k =
rD d54_0 0 22 x h [] [] (fun s => k .normal s) := by kernel_rfl
theorem c54_4_eq : cK c54_4 22 x h k =
k .ret ⟨ar 22 x, h⟩ := by kernel_rfl
theorem call54 (a0 : Value) : evC Tryd.prog 54 #[a0] h = cK c54_0 22 (up un [(0,a0)]) (nm h) (retK Tryd.f54 Tryd.prog h) :=
  (evC_call 54 Tryd.f54 c54_0 Tryd.func54 (by kernel_rfl) #[a0] h).trans (by kernel_rfl)
theorem ret54 : retK Tryd.f54 Tryd.prog g .ret ⟨ar 22 x, h⟩ = fin g (some (x 2)) h := by kernel_rfl
end Go.Am
namespace Go.Am
open Go.Proofs
set_option maxRecDepth 100000
variable {β : Type} (x : Nat → Value) (h : Heap) (k : Ex → St → Option β) (r m : List Nat) (g : Heap)
noncomputable def c31_0 : Code := bodyC Tryd.f31 []
noncomputable def c31_1 : Code := bodyC Tryd.f31 [true, false, true, false, false]
noncomputable def c31_2 : Code := bodyC Tryd.f31 [true, true]
theorem c31_0_eq : cK c31_0 32 x h k =
obH (boxV Tryd.prog 65 (x 0) h) fun v0 h1 =>
(fa 65 v0 0).bind fun v2 =>
(ld 63 v2 h1).bind fun v3 =>
(ln 63 v3 h1).bind fun v4 =>
lK c31_1 32 (up x [(1,v0),(2,(.bool false)),(5,v2),(6,v3),(7,v4),(8,(.int .i64 0))]) h1 (blockK 0 (sK c31_2 k)) := by kernel_rfl
theorem c31_1_eq : cK c31_1 32 x h k =
(bn .lss 3 (x 8) (x 7)).bind fun v5 =>
cnd v5 (
(ia 63 (x 6) (x 8)).bind fun v6 =>
(ld 68 v6 h).bind fun v7 =>
obH (allocV Tryd.prog 68 h) fun v8 h9 =>
(sto 68 v8 v7 h9).bind fun h10 =>
(ld 68 v8 h10).bind fun v11 =>
obH (ev 54 #[v11] h10) fun v12 h13 =>
(unV Tryd.prog .not v12).bind fun v14 =>
(gd (wt v14 false) (bn .gtr 3 (gdV (wt v14 false) (x 8)) (.int .i64 0))).bind fun v15 =>
(gd (wt (gdV (wt v14 false) v15) true) (fa 65 (x 1) 0)).bind fun v16 =>
(gd (wt (gdV (wt v14 false) v15) true) (ld 63 v16 h13)).bind fun v17 =>
(gd (wt (gdV (wt v14 false) v15) true) (bn .sub 3 (gdV (wt (gdV (wt v14 false) v15) true) (x 8)) (.int .i64 1))).bind fun v18 =>
(gd (wt (gdV (wt v14 false) v15) true) (ia 63 v17 v18)).bind fun v19 =>
(gd (wt (gdV (wt v14 false) v15) true) (ld 68 v19 h13)).bind fun v20 =>
(gd (wt (gdV (wt v14 false) v15) true) (ld 68 v8 h13)).bind fun v21 =>
obH (gdH (wt (gdV (wt v14 false) v15) true) h13 (ev 55 #[v20,v21] h13)) fun v22 h23 =>
(gd (wt (gdV (wt v14 false) v15) true) (bn .geq 3 v22 (.int .i64 0))).bind fun v24 =>
(gd (wt v14 false) (pickV (gdV (wt v14 false) v15) v24 (.bool false))).bind fun v25 =>
(pickV v14 (.bool true) v25).bind fun v26 =>
cnd v26 (
k .ret ⟨ar 32 (up x [(2,(.bool false)),(3,(x 8)),(4,v8),(9,v5),(10,(x 8)),(11,v6),(12,v7),(13,v11),(14,v12),(15,v14),(16,v14),(17,(gdV (wt v14 false) (x 8))),(18,v15),(19,(gdV (wt v14 false) v15)),(20,v16),(21,v17),(22,(gdV (wt (gdV (wt v14 false) v15) true) (x 8))),(23,v18),(24,v19),(25,v20),(26,v21),(27,v22),(28,v24),(29,v25),(30,v26)]), h23⟩) (
(bn .add 3 (x 8) (.int .i64 1)).bind fun v27 =>
k .normal ⟨ar 32 (up x [(3,(x 8)),(4,v8),(8,v27),(9,v5),(10,(x 8)),(11,v6),(12,v7),(13,v11),(14,v12),(15,v14),(16,v14),(17,(gdV (wt v14 false) (x 8))),(18,v15),(19,(gdV (wt v14 false) v15)),(20,v16),(21,v17),(22,(gdV (wt (gdV (wt v14 false) v15) true) (x 8))),(23,v18),(24,v19),(25,v20),(26,v21),(27,v22),(28,v24),(29,v25),(30,v26),(31,v27)]), h23⟩)) (
k (.exit 0) ⟨ar 32 (up x [(9,v5)]), h⟩) := by kernel_rfl
theorem c31_2_eq : cK c31_2 32 x h k =
k .ret ⟨ar 32 (up x [(2,(.bool true))]), h⟩ := by kernel_rfl
theorem call31 (a0 : Value) : evC Tryd.prog 31 #[a0] h = cK c31_0 32 (up un [(0,a0)]) (nm h) (retK Tryd.f31 Tryd.prog h) :=
  (evC_call 31 Tryd.f31 c31_0 Tryd.func31 (by kernel_rfl) #[a0] h).trans (by kernel_rfl)
theorem ret31 : retK Tryd.f31 Tryd.prog g .ret ⟨ar 32 x, h⟩ = fin g (some (x 2)) h := by kernel_rfl
end Go.Am
namespace Go.Am
open Go.Proofs
set_option maxRecDepth 100000
variable {β : Type} (x : Nat → Value) (h : Heap) (k : Ex → St → Option β) (r m : List Nat) (g : Heap)
noncomputable def c61_0 : Code := bodyC Tryd.f61 []
theorem c61_0_eq : cK c61_0 7 x h k =
obH (boxV Tryd.prog 65 (x 0) h) fun v0 h1 =>
obH (allocV Tryd.prog 65 h1) fun v2 h3 =>
(fa 65 v0 0).bind fun v4 =>
(ld 63 v4 h3).bind fun v5 =>
obH (ev 52 #[v5] h3) fun v6 h7 =>
(buildV Tryd.prog 65 #[(0, v6)]).bind fun v8 =>
(sto 65 v2 v8 h7).bind fun h9 =>
k .ret ⟨ar 7 (up x [(1,v0),(2,v2),(3,v4),(4,v5),(5,v6),(6,v8)]), h9⟩ := by kernel_rfl
theorem call61 (a0 : Value) : evC Tryd.prog 61 #[a0] h = cK c61_0 7 (up un [(0,a0)]) (nm h) (retK Tryd.f61 Tryd.prog h) :=
  (evC_call 61 Tryd.f61 c61_0 Tryd.func61 (by kernel_rfl) #[a0] h).trans (by kernel_rfl)
theorem ret61 : retK Tryd.f61 Tryd.prog g .ret ⟨ar 7 x, h⟩ = fin g (rvals ((ld 65 (x 2) h).bind fun r0 => some [r0])) h := by kernel_rfl
end Go.Am
namespace Go.Am
open Go.Proofs
set_option maxRecDepth 100000
variable {β : Type} (x : Nat → Value) (h : Heap) (k : Ex → St → Option β) (r m : List Nat) (g : Heap)
noncomputable def c52_0 : Code := bodyC Tryd.f52 []
theorem c52_0_eq : cK c52_0 8 x h k =
(bn .eql 63 (x 0) (.slice Option.none 0 0)).bind fun v0 =>
cnd v0 (
k .ret ⟨ar 8 (up x [(2,(.slice Option.none 0 0)),(3,(x 0)),(4,v0)]), h⟩) (
obH (buildSliceV Tryd.prog 63 0 #[] h) fun v1 h2 =>
obH (ap 63 (some 63) v1 (x 0) h2) fun v3 h4 =>
k .ret ⟨ar 8 (up x [(2,v3),(3,(x 0)),(4,v0),(5,v1),(6,(x 0)),(7,v3)]), h4⟩) := by kernel_rfl
theorem call52 (a0 : Value) : evC Tryd.prog 52 #[a0] h = cK c52_0 8 (up un [(0,a0)]) (nm h) (retK Tryd.f52 Tryd.prog h) :=
  (evC_call 52 Tryd.f52 c52_0 Tryd.func52 (by kernel_rfl) #[a0] h).trans (by kernel_rfl)
theorem ret52 : retK Tryd.f52 Tryd.prog g .ret ⟨ar 8 x, h⟩ = fin g (some (x 2)) h := by kernel_rfl
end Go.Am
namespace Go.Am
open Go.Proofs
set_option maxRecDepth 100000
variable {β : Type} (x : Nat → Value) (h : Heap) (k : Ex → St → Option β) (r m : List Nat) (g : Heap)
end Go.Am
namespace Go.Am
open Go.Proofs
set_option maxRecDepth 100000
variable {β : Type} (x : Nat → Value) (h : Heap) (k : Ex → St → Option β) (r m : List Nat) (g : Heap)
end Go.Am
namespace Go.Am
open Go.Proofs
set_option maxRecDepth 100000
variable {β : Type} (x : Nat → Value) (h : Heap) (k : Ex → St → Option β) (r m : List Nat) (g : Heap)
noncomputable def c62_0 : Code := bodyC Tryd.f62 []
noncomputable def c62_1 : Code := bodyC Tryd.f62 [true, true, true, false, false, false]
noncomputable def c62_2 : Code := bodyC Tryd.f62 [true, true, true, true]
theorem c62_0_eq : cK c62_0 49 x h k =
obH (boxV Tryd.prog 68 (x 1) h) fun v0 h1 =>
(ln 63 (x 0) h1).bind fun v2 =>
lK c62_1 49 (up x [(4,v0),(6,(.int .i64 0)),(7,(.bool false)),(8,v2),(9,(.int .i64 0)),(10,v2),(12,(x 0)),(13,v2),(14,v2)]) h1 (blockK 0 (sK c62_2 k)) := by kernel_rfl
theorem c62_1_eq : cK c62_1 49 x h k =
(bn .lss 3 (x 9) (x 10)).bind fun v3 =>
cnd v3 (
(bn .add 3 (x 9) (x 10)).bind fun v4 =>
obH (cv 3 57 v4 h) fun v5 h6 =>
(bn .shr 57 v5 (.int .u64 1)).bind fun v7 =>
obH (cv 57 3 v7 h6) fun v8 h9 =>
(ia 63 (x 0) v8).bind fun v10 =>
(ld 68 v10 h9).bind fun v11 =>
(ld 68 (x 4) h9).bind fun v12 =>
obH (callV Tryd.prog (evC Tryd.prog) (x 2) #[v11,v12] h9) fun v13 h14 =>
(bn .lss 3 v13 (.int .i64 0)).bind fun v15 =>
cnd v15 (
(bn .add 3 v8 (.int .i64 1)).bind fun v16 =>
k .normal ⟨ar 49 (up x [(9,v16),(11,v8),(15,(x 9)),(16,(x 10)),(17,v3),(18,(x 9)),(19,(x 10)),(20,v4),(21,v5),(22,v7),(23,v8),(24,(x 2)),(25,(x 0)),(26,v8),(27,v10),(28,v11),(29,v12),(30,v13),(31,v15),(32,v8),(33,v16)]), h14⟩) (
k .normal ⟨ar 49 (up x [(10,v8),(11,v8),(15,(x 9)),(16,(x 10)),(17,v3),(18,(x 9)),(19,(x 10)),(20,v4),(21,v5),(22,v7),(23,v8),(24,(x 2)),(25,(x 0)),(26,v8),(27,v10),(28,v11),(29,v12),(30,v13),(31,v15),(34,v8)]), h14⟩)) (
k (.exit 0) ⟨ar 49 (up x [(15,(x 9)),(16,(x 10)),(17,v3)]), h⟩) := by kernel_rfl
theorem c62_2_eq : cK c62_2 49 x h k =
(bn .lss 3 (x 9) (x 8)).bind fun v17 =>
(gd (wt v17 true) (ia 63 (gdV (wt v17 true) (x 0)) (gdV (wt v17 true) (x 9)))).bind fun v18 =>
(gd (wt v17 true) (ld 68 v18 h)).bind fun v19 =>
(gd (wt v17 true) (ld 68 (x 4) h)).bind fun v20 =>
obH (gdH (wt v17 true) h (callV Tryd.prog (evC Tryd.prog) (gdV (wt v17 true) (x 2)) #[v19,v20] h)) fun v21 h22 =>
(gd (wt v17 true) (bn .eql 3 v21 (.int .i64 0))).bind fun v23 =>
(pickV v17 v23 (.bool false)).bind fun v24 =>
k .ret ⟨ar 49 (up x [(6,(x 9)),(7,v24),(35,(x 9)),(36,(x 9)),(37,(x 8)),(38,v17),(39,v17),(40,(gdV (wt v17 true) (x 2))),(41,(gdV (wt v17 true) (x 0))),(42,(gdV (wt v17 true) (x 9))),(43,v18),(44,v19),(45,v20),(46,v21),(47,v23),(48,v24)]), h22⟩ := by kernel_rfl
theorem call62 (a0 a1 a2 : Value) : evC Tryd.prog 62 #[a0,a1,a2] h = cK c62_0 49 (up un [(0,a0),(1,a1),(2,a2)]) (nm h) (retK Tryd.f62 Tryd.prog h) :=
  (evC_call 62 Tryd.f62 c62_0 Tryd.func62 (by kernel_rfl) #[a0,a1,a2] h).trans (by kernel_rfl)
theorem ret62 : retK Tryd.f62 Tryd.prog g .ret ⟨ar 49 x, h⟩ = fin g (some (.tuple #[x 6, (x 7)])) h := by kernel_rfl
end Go.Am
namespace Go.Am
open Go.Proofs
set_option maxRecDepth 100000
variable {β : Type} (x : Nat → Value) (h : Heap) (k : Ex → St → Option β) (r m : List Nat) (g : Heap)
noncomputable def c39_0 : Code := bodyC Tryd.f39 []
theorem c39_0_eq : cK c39_0 39 x h k =
obH (boxV Tryd.prog 65 (x 0) h) fun v0 h1 =>
obH (boxV Tryd.prog 68 (x 1) h1) fun v2 h3 =>
obH (allocV Tryd.prog 65 h3) fun v4 h5 =>
(ld 65 v0 h5).bind fun v6 =>
obH (ev 61 #[v6] h5) fun v7 h8 =>
(sto 65 v0 v7 h8).bind fun h9 =>
(ld 65 v0 h9).bind fun v10 =>
obH (ev 31 #[v10] h9) fun v11 h12 =>
(unV Tryd.prog .not v11).bind fun v13 =>
(gd (wt v13 false) (ld 68 v2 h12)).bind fun v14 =>
obH (gdH (wt v13 false) h12 (ev 54 #[v14] h12)) fun v15 h16 =>
(gd (wt v13 false) (unV Tryd.prog .not v15)).bind fun v17 =>
(pickV v13 (.bool true) v17).bind fun v18 =>
cnd v18 (
(ld 65 v0 h16).bind fun v19 =>
(sto 65 v4 v19 h16).bind fun h20 =>
k .ret ⟨ar 39 (up x [(2,v0),(3,v2),(4,v4),(7,v6),(8,v7),(9,v10),(10,v11),(11,v13),(12,v13),(13,v14),(14,v15),(15,v17),(16,v18),(17,v19)]), h20⟩) (
(fa 65 v0 0).bind fun v21 =>
(ld 63 v21 h16).bind fun v22 =>
(ld 68 v2 h16).bind fun v23 =>
obH (ev 62 #[v22,v23,(.func (.func 55) #[] #[])] h16) fun v24 h25 =>
(extractV v24 0).bind fun v26 =>
(extractV v24 1).bind fun v27 =>
cnd v27 (
(fa 65 v0 0).bind fun v28 =>
(ld 63 v28 h25).bind fun v29 =>
(ld 68 v2 h25).bind fun v30 =>
(ia 63 v29 v26).bind fun v31 =>
(sto 68 v31 v30 h25).bind fun h32 =>
(ld 65 v0 h32).bind fun v33 =>
(sto 65 v4 v33 h32).bind fun h34 =>
k .ret ⟨ar 39 (up x [(2,v0),(3,v2),(4,v4),(5,v26),(6,v27),(7,v6),(8,v7),(9,v10),(10,v11),(11,v13),(12,v13),(13,v14),(14,v15),(15,v17),(16,v18),(18,v24),(19,v21),(20,v22),(21,v23),(22,v24),(23,v26),(24,v27),(25,v27),(26,v28),(27,v29),(28,v26),(29,v30),(30,v31),(38,v33)]), h34⟩) (
(fa 65 v0 0).bind fun v35 =>
(ld 63 v35 h25).bind fun v36 =>
(ld 68 v2 h25).bind fun v37 =>
obH (buildSliceV Tryd.prog 63 1 #[(0, v37)] h25) fun v38 h39 =>
obH (ev 63 #[v36,v26,v38] h39) fun v40 h41 =>
(fa 65 v0 0).bind fun v42 =>
(sto 63 v42 v40 h41).bind fun h43 =>
(ld 65 v0 h43).bind fun v44 =>
(sto 65 v4 v44 h43).bind fun h45 =>
k .ret ⟨ar 39 (up x [(2,v0),(3,v2),(4,v4),(5,v26),(6,v27),(7,v6),(8,v7),(9,v10),(10,v11),(11,v13),(12,v13),(13,v14),(14,v15),(15,v17),(16,v18),(18,v24),(19,v21),(20,v22),(21,v23),(22,v24),(23,v26),(24,v27),(25,v27),(31,v35),(32,v36),(33,v26),(34,v37),(35,v38),(36,v40),(37,v42),(38,v44)]), h45⟩)) := by kernel_rfl
theorem call39 (a0 a1 : Value) : evC Tryd.prog 39 #[a0,a1] h = cK c39_0 39 (up un [(0,a0),(1,a1)]) (nm h) (retK Tryd.f39 Tryd.prog h) :=
  (evC_call 39 Tryd.f39 c39_0 Tryd.func39 (by kernel_rfl) #[a0,a1] h).trans (by kernel_rfl)
theorem ret39 : retK Tryd.f39 Tryd.prog g .ret ⟨ar 39 x, h⟩ = fin g (rvals ((ld 65 (x 4) h).bind fun r0 => some [r0])) h := by kernel_rfl
end Go.Am
namespace Go.Am
open Go.Proofs
set_option maxRecDepth 100000
variable {β : Type} (x : Nat → Value) (h : Heap) (k : Ex → St → Option β) (r m : List Nat) (g : Heap)
end Go.Am
namespace Go.Am
open Go.Proofs
set_option maxRecDepth 100000
variable {β : Type} (x : Nat → Value) (h : Heap) (k : Ex → St → Option β) (r m : List Nat) (g : Heap)
end Go.Am
namespace Go.Am
open Go.Proofs
set_option maxRecDepth 100000
variable {β : Type} (x : Nat → Value) (h : Heap) (k : Ex → St → Option β) (r m : List Nat) (g : Heap)
end Go.Am
namespace Go.Am
open Go.Proofs
set_option maxRecDepth 100000
variable {β : Type} (x : Nat → Value) (h : Heap) (k : Ex → St → Option β) (r m : List Nat) (g : Heap)
noncomputable def c40_0 : Code := bodyC Tryd.f40 []
noncomputable def c40_1 : Code := bodyC Tryd.f40 [true, true, true, false, true, false, false]
noncomputable def c40_2 : Code := bodyC Tryd.f40 [true, true, true, true]
theorem c40_0_eq : cK c40_0 30 x h k =
obH (boxV Tryd.prog 65 (x 0) h) fun v0 h1 =>
obH (allocV Tryd.prog 65 h1) fun v2 h3 =>
(ld 65 v0 h3).bind fun v4 =>
obH (ev 61 #[v4] h3) fun v5 h6 =>
(sto 65 v0 v5 h6).bind fun h7 =>
(ld 65 v0 h7).bind fun v8 =>
obH (ev 31 #[v8] h7) fun v9 h10 =>
(unV Tryd.prog .not v9).bind fun v11 =>
cnd v11 (
(ld 65 v0 h10).bind fun v12 =>
(sto 65 v2 v12 h10).bind fun h13 =>
k .ret ⟨ar 30 (up x [(2,v0),(4,v2),(6,v4),(7,v5),(8,v8),(9,v9),(10,v11),(11,v12)]), h13⟩) (
(fa 65 v0 0).bind fun v14 =>
(ld 63 v14 h10).bind fun v15 =>
(ln 63 v15 h10).bind fun v16 =>
lK c40_1 30 (up x [(2,v0),(4,v2),(6,v4),(7,v5),(8,v8),(9,v9),(10,v11),(12,v14),(13,v15),(14,v16),(15,(.int .i64 0))]) h10 (blockK 0 (sK c40_2 k))) := by kernel_rfl
theorem c40_1_eq : cK c40_1 30 x h k =
(bn .lss 3 (x 15) (x 14)).bind fun v17 =>
cnd v17 (
(fa 65 (x 2) 0).bind fun v18 =>
(ld 63 v18 h).bind fun v19 =>
(ia 63 v19 (x 15)).bind fun v20 =>
(fa 68 v20 2).bind fun v21 =>
(ld 38 v21 h).bind fun v22 =>
(bn .andNot 38 v22 (x 1)).bind fun v23 =>
(ia 63 v19 (x 15)).bind fun v24 =>
(fa 68 v24 2).bind fun v25 =>
(sto 38 v25 v23 h).bind fun h26 =>
(bn .add 3 (x 15) (.int .i64 1)).bind fun v27 =>
k .normal ⟨ar 30 (up x [(5,(x 15)),(15,v27),(16,v17),(17,(x 15)),(18,v18),(19,v19),(20,(x 15)),(21,v20),(22,v21),(23,v22),(24,(x 1)),(25,v23),(26,v24),(27,v25),(28,v27)]), h26⟩) (
k (.exit 0) ⟨ar 30 (up x [(16,v17)]), h⟩) := by kernel_rfl
theorem c40_2_eq : cK c40_2 30 x h k =
(ld 65 (x 2) h).bind fun v28 =>
(sto 65 (x 4) v28 h).bind fun h29 =>
k .ret ⟨ar 30 (up x [(29,v28)]), h29⟩ := by kernel_rfl
theorem call40 (a0 a1 : Value) : evC Tryd.prog 40 #[a0,a1] h = cK c40_0 30 (up un [(0,a0),(1,a1)]) (nm h) (retK Tryd.f40 Tryd.prog h) :=
  (evC_call 40 Tryd.f40 c40_0 Tryd.func40 (by kernel_rfl) #[a0,a1] h).trans (by kernel_rfl)
theorem ret40 : retK Tryd.f40 Tryd.prog g .ret ⟨ar 30 x, h⟩ = fin g (rvals ((ld 65 (x 4) h).bind fun r0 => some [r0])) h := by kernel_rfl
end Go.Am
namespace Go.Am
open Go.Proofs
set_option maxRecDepth 100000
variable {β : Type} (x : Nat → Value) (h : Heap) (k : Ex → St → Option β) (r m : List Nat) (g : Heap)
noncomputable def c38_0 : Code := bodyC Tryd.f38 []
theorem c38_0_eq : cK c38_0 14 x h k =
obH (boxV Tryd.prog 65 (x 0) h) fun v0 h1 =>
obH (allocV Tryd.prog 65 h1) fun v2 h3 =>
(ld 65 v0 h3).bind fun v4 =>
obH (buildSliceV Tryd.prog 41 1 #[(0, (x 2))] h3) fun v5 h6 =>
obH (ev 26 #[v5] (nm h6)) fun v7 h8 =>
(bn .andNot 38 (x 1) v7).bind fun v9 =>
obH (ev 40 #[v4,v9] (am h8 h6)) fun v10 h11 =>
(sto 65 v2 v10 h11).bind fun h12 =>
chk ((rb v0) ++ []) (h8.mods ++ []) (
k .ret ⟨ar 14 (up x [(3,v0),(6,v2),(7,v4),(8,(x 1)),(9,(x 2)),(10,v5),(11,v7),(12,v9),(13,v10)]), h12⟩) := by kernel_rfl
theorem call38 (a0 a1 a2 : Value) : evC Tryd.prog 38 #[a0,a1,a2] h = cK c38_0 14 (up un [(0,a0),(1,a1),(2,a2)]) (nm h) (retK Tryd.f38 Tryd.prog h) :=
  (evC_call 38 Tryd.f38 c38_0 Tryd.func38 (by kernel_rfl) #[a0,a1,a2] h).trans (by kernel_rfl)
theorem ret38 : retK Tryd.f38 Tryd.prog g .ret ⟨ar 14 x, h⟩ = fin g (rvals ((ld 65 (x 6) h).bind fun r0 => some [r0])) h := by kernel_rfl
end Go.Am
namespace Go.Am
open Go.Proofs
set_option maxRecDepth 100000
variable {β : Type} (x : Nat → Value) (h : Heap) (k : Ex → St → Option β) (r m : List Nat) (g : Heap)
noncomputable def c26_0 : Code := bodyC Tryd.f26 []
noncomputable def c26_1 : Code := bodyC Tryd.f26 [true, true, false, true, false, false]
noncomputable def c26_2 : Code := bodyC Tryd.f26 [true, true, true]
theorem c26_0_eq : cK c26_0 24 x h k =
(ln 41 (x 0) h).bind fun v0 =>
lK c26_1 24 (up x [(2,(.int .u64 0)),(3,(.int .u64 0)),(6,(x 0)),(7,v0),(8,(.int .i64 0))]) h (blockK 0 (sK c26_2 k)) := by kernel_rfl
theorem c26_1_eq : cK c26_1 24 x h k =
(bn .lss 3 (x 8) (x 7)).bind fun v1 =>
cnd v1 (
(ia 41 (x 6) (x 8)).bind fun v2 =>
(ld 3 v2 h).bind fun v3 =>
(bn .geq 3 v3 (.int .i64 0)).bind fun v4 =>
(gd (wt v4 true) (bn .lss 3 (gdV (wt v4 true) v3) (.int .i64 64))).bind fun v5 =>
(pickV v4 v5 (.bool false)).bind fun v6 =>
cnd v6 (
(bn .shl 38 (.int .u64 1) v3).bind fun v7 =>
(bn .or 38 (x 3) v7).bind fun v8 =>
(bn .add 3 (x 8) (.int .i64 1)).bind fun v9 =>
k .normal ⟨ar 24 (up x [(3,v8),(5,v3),(8,v9),(9,v1),(10,v2),(11,v3),(12,v3),(13,v4),(14,v4),(15,(gdV (wt v4 true) v3)),(16,v5),(17,v6),(18,(x 3)),(19,v3),(20,v7),(21,v8),(22,v9)]), h⟩) (
(bn .add 3 (x 8) (.int .i64 1)).bind fun v10 =>
k .normal ⟨ar 24 (up x [(5,v3),(8,v10),(9,v1),(10,v2),(11,v3),(12,v3),(13,v4),(14,v4),(15,(gdV (wt v4 true) v3)),(16,v5),(17,v6),(22,v10)]), h⟩)) (
k (.exit 0) ⟨ar 24 (up x [(9,v1)]), h⟩) := by kernel_rfl
theorem c26_2_eq : cK c26_2 24 x h k =
k .ret ⟨ar 24 (up x [(2,(x 3)),(23,(x 3))]), h⟩ := by kernel_rfl
theorem call26 (a0 : Value) : evC Tryd.prog 26 #[a0] h = cK c26_0 24 (up un [(0,a0)]) (nm h) (retK Tryd.f26 Tryd.prog h) :=
  (evC_call 26 Tryd.f26 c26_0 Tryd.func26 (by kernel_rfl) #[a0] h).trans (by kernel_rfl)
theorem ret26 : retK Tryd.f26 Tryd.prog g .ret ⟨ar 24 x, h⟩ = fin g (some (x 2)) h := by kernel_rfl
end Go.Am
namespace Go.Am
open Go.Proofs
set_option maxRecDepth 100000
variable {β : Type} (x : Nat → Value) (h : Heap) (k : Ex → St → Option β) (r m : List Nat) (g : Heap)
noncomputable def c36_0 : Code := bodyC Tryd.f36 []
noncomputable def c36_1 : Code := bodyC Tryd.f36 [true, true, false, false, false]
noncomputable def c36_2 : Code := bodyC Tryd.f36 [true, true, true]
theorem c36_0_eq : cK c36_0 16 x h k =
lK c36_1 16 (up x [(2,(.slice Option.none 0 0)),(3,(.slice Option.none 0 0))]) h (blockK 0 (sK c36_2 k)) := by kernel_rfl
theorem c36_1_eq : cK c36_1 16 x h k =
(bn .neq 38 (x 0) (.int .u64 0)).bind fun v0 =>
cnd v0 (
obH (ev 60 #[x 0] h) fun v1 h2 =>
obH (buildSliceV Tryd.prog 41 1 #[(0, v1)] h2) fun v3 h4 =>
obH (ap 41 (some 41) (x 3) v3 h4) fun v5 h6 =>
(bn .sub 38 (x 0) (.int .u64 1)).bind fun v7 =>
(bn .and 38 (x 0) v7).bind fun v8 =>
k .normal ⟨ar 16 (up x [(0,v8),(3,v5),(4,(x 0)),(5,v0),(6,(x 3)),(7,(x 0)),(8,v1),(9,v3),(10,v5),(11,(x 0)),(12,(x 0)),(13,v7),(14,v8)]), h6⟩) (
k (.exit 0) ⟨ar 16 (up x [(4,(x 0)),(5,v0)]), h⟩) := by kernel_rfl
theorem c36_2_eq : cK c36_2 16 x h k =
k .ret ⟨ar 16 (up x [(2,(x 3)),(15,(x 3))]), h⟩ := by kernel_rfl
theorem call36 (a0 : Value) : evC Tryd.prog 36 #[a0] h = cK c36_0 16 (up un [(0,a0)]) (nm h) (retK Tryd.f36 Tryd.prog h) :=
  (evC_call 36 Tryd.f36 c36_0 Tryd.func36 (by kernel_rfl) #[a0] h).trans (by kernel_rfl)
theorem ret36 : retK Tryd.f36 Tryd.prog g .ret ⟨ar 16 x, h⟩ = fin g (some (x 2)) h := by kernel_rfl
end Go.Am
namespace Go.Am
open Go.Proofs
set_option maxRecDepth 100000
variable {β : Type} (x : Nat → Value) (h : Heap) (k : Ex → St → Option β) (r m : List Nat) (g : Heap)
noncomputable def c63_0 : Code := bodyC Tryd.f63 []
theorem c63_0_eq : cK c63_0 95 x h k =
(sliceV Tryd.prog 63 (x 0) (some (x 1)) none none h).bind fun v0 =>
(ln 63 (x 2) h).bind fun v1 =>
(bn .eql 3 v1 (.int .i64 0)).bind fun v2 =>
cnd v2 (
k .ret ⟨ar 95 (up x [(6,(x 0)),(7,v1),(10,(x 0)),(11,(x 1)),(12,v0),(13,(x 2)),(14,v1),(15,v1),(16,v2),(17,(x 0))]), h⟩) (
(ln 63 (x 0) h).bind fun v3 =>
(bn .eql 3 (x 1) v3).bind fun v4 =>
cnd v4 (
obH (ap 63 (some 63) (x 0) (x 2) h) fun v5 h6 =>
k .ret ⟨ar 95 (up x [(6,v5),(7,v1),(8,v3),(10,(x 0)),(11,(x 1)),(12,v0),(13,(x 2)),(14,v1),(15,v1),(16,v2),(18,(x 0)),(19,v3),(20,(x 1)),(21,v3),(22,v4),(23,(x 0)),(24,(x 2)),(25,v5)]), h6⟩) (
(bn .add 3 v3 v1).bind fun v7 =>
obH (builtinV Tryd.prog .cap #[63] #[x 0] h) fun v8 h9 =>
(bn .gtr 3 v7 v8).bind fun v10 =>
cnd v10 (
(sliceV Tryd.prog 63 (x 0) none (some (x 1)) none h9).bind fun v11 =>
(bn .add 3 v3 v1).bind fun v12 =>
(bn .sub 3 v12 (x 1)).bind fun v13 =>
obH (ap 63 (some 3) v11 v13 h9) fun v14 h15 =>
(sliceV Tryd.prog 63 v14 (some (x 1)) none none h15).bind fun v16 =>
obH (builtinV Tryd.prog .copy #[63, 63] #[v16,x 2] h15) fun v17 h18 =>
(bn .add 3 (x 1) v1).bind fun v19 =>
(sliceV Tryd.prog 63 v14 (some v19) none none h18).bind fun v20 =>
(sliceV Tryd.prog 63 (x 0) (some (x 1)) none none h18).bind fun v21 =>
obH (builtinV Tryd.prog .copy #[63, 63] #[v20,v21] h18) fun v22 h23 =>
k .ret ⟨ar 95 (up x [(6,v14),(7,v1),(8,v3),(9,v14),(10,(x 0)),(11,(x 1)),(12,v0),(13,(x 2)),(14,v1),(15,v1),(16,v2),(18,(x 0)),(19,v3),(20,(x 1)),(21,v3),(22,v4),(26,v3),(27,v1),(28,v7),(29,(x 0)),(30,v8),(31,v10),(32,(x 0)),(33,(x 1)),(34,v11),(35,v3),(36,v1),(37,v12),(38,(x 1)),(39,v13),(40,v14),(41,v14),(42,(x 1)),(43,v16),(44,(x 2)),(45,v17),(46,v14),(47,(x 1)),(48,v1),(49,v19),(50,v20),(51,(x 0)),(52,(x 1)),(53,v21),(54,v22),(55,v14)]), h23⟩) (
(bn .add 3 v3 v1).bind fun v24 =>
(sliceV Tryd.prog 63 (x 0) none (some v24) none h9).bind fun v25 =>
(bn .add 3 (x 1) v1).bind fun v26 =>
(sliceV Tryd.prog 63 v25 (some v26) none none h9).bind fun v27 =>
obH (callV Tryd.prog (evC Tryd.prog) (.func (.func 80) #[] #[]) #[x 2,v27] h9) fun v28 h29 =>
(unV Tryd.prog .not v28).bind fun v30 =>
cnd v30 (
(bn .add 3 (x 1) v1).bind fun v31 =>
(sliceV Tryd.prog 63 v25 (some v31) none none h29).bind fun v32 =>
(sliceV Tryd.prog 63 v25 (some (x 1)) none none h29).bind fun v33 =>
obH (builtinV Tryd.prog .copy #[63, 63] #[v32,v33] h29) fun v34 h35 =>
(sliceV Tryd.prog 63 v25 (some (x 1)) none none h35).bind fun v36 =>
obH (builtinV Tryd.prog .copy #[63, 63] #[v36,x 2] h35) fun v37 h38 =>
k .ret ⟨ar 95 (up x [(0,v25),(6,v25),(7,v1),(8,v3),(10,(x 0)),(11,(x 1)),(12,v0),(13,(x 2)),(14,v1),(15,v1),(16,v2),(18,(x 0)),(19,v3),(20,(x 1)),(21,v3),(22,v4),(26,v3),(27,v1),(28,v7),(29,(x 0)),(30,v8),(31,v10),(56,(x 0)),(57,v3),(58,v1),(59,v24),(60,v25),(61,(x 2)),(62,v25),(63,(x 1)),(64,v1),(65,v26),(66,v27),(67,v28),(68,v30),(69,v25),(70,(x 1)),(71,v1),(72,v31),(73,v32),(74,v25),(75,(x 1)),(76,v33),(77,v34),(78,v25),(79,(x 1)),(80,v36),(81,(x 2)),(82,v37),(83,v25)]), h38⟩) (
(sliceV Tryd.prog 63 v25 (some v3) none none h29).bind fun v39 =>
obH (builtinV Tryd.prog .copy #[63, 63] #[v39,x 2] h29) fun v40 h41 =>
(sliceV Tryd.prog 63 v25 (some (x 1)) none none h41).bind fun v42 =>
obH (ev 81 #[v42,v1] h41) fun v43 h44 =>
k .ret ⟨ar 95 (up x [(0,v25),(6,v25),(7,v1),(8,v3),(10,(x 0)),(11,(x 1)),(12,v0),(13,(x 2)),(14,v1),(15,v1),(16,v2),(18,(x 0)),(19,v3),(20,(x 1)),(21,v3),(22,v4),(26,v3),(27,v1),(28,v7),(29,(x 0)),(30,v8),(31,v10),(56,(x 0)),(57,v3),(58,v1),(59,v24),(60,v25),(61,(x 2)),(62,v25),(63,(x 1)),(64,v1),(65,v26),(66,v27),(67,v28),(68,v30),(84,v25),(85,v3),(86,v39),(87,(x 2)),(88,v40),(89,v25),(90,(x 1)),(91,v42),(92,v1),(93,v43),(94,v25)]), h44⟩)))) := by kernel_rfl
theorem call63 (a0 a1 a2 : Value) : evC Tryd.prog 63 #[a0,a1,a2] h = cK c63_0 95 (up un [(0,a0),(1,a1),(2,a2)]) (nm h) (retK Tryd.f63 Tryd.prog h) :=
  (evC_call 63 Tryd.f63 c63_0 Tryd.func63 (by kernel_rfl) #[a0,a1,a2] h).trans (by kernel_rfl)
theorem ret63 : retK Tryd.f63 Tryd.prog g .ret ⟨ar 95 x, h⟩ = fin g (some (x 6)) h := by kernel_rfl
end Go.Am
namespace Go.Am
open Go.Proofs
set_option maxRecDepth 100000
variable {β : Type} (x : Nat → Value) (h : Heap) (k : Ex → St → Option β) (r m : List Nat) (g : Heap)
noncomputable def c37_0 : Code := bodyC Tryd.f37 []
noncomputable def c37_1 : Code := bodyC Tryd.f37 [true, true, true, true, false, true, false, false]
noncomputable def c37_2 : Code := bodyC Tryd.f37 [true, true, true, true, true]
theorem c37_0_eq : cK c37_0 50 x h k =
obH (boxV Tryd.prog 65 (x 0) h) fun v0 h1 =>
obH (allocV Tryd.prog 65 h1) fun v2 h3 =>
(ld 65 v0 h3).bind fun v4 =>
obH (ev 61 #[v4] h3) fun v5 h6 =>
(sto 65 v0 v5 h6).bind fun h7 =>
(ld 65 v0 h7).bind fun v8 =>
obH (ev 31 #[v8] h7) fun v9 h10 =>
(unV Tryd.prog .not v9).bind fun v11 =>
cnd v11 (
(ld 65 v0 h10).bind fun v12 =>
(sto 65 v2 v12 h10).bind fun h13 =>
k .ret ⟨ar 50 (up x [(1,v0),(2,v2),(6,v4),(7,v5),(8,v8),(9,v9),(10,v11),(11,v12)]), h13⟩) (
(fa 65 v0 0).bind fun v14 =>
(ld 63 v14 h10).bind fun v15 =>
(ln 63 v15 h10).bind fun v16 =>
lK c37_1 50 (up x [(1,v0),(2,v2),(3,(.slice Option.none 0 0)),(6,v4),(7,v5),(8,v8),(9,v9),(10,v11),(12,v14),(13,v15),(14,v16),(15,(.int .i64 0))]) h10 (blockK 0 (sK c37_2 k))) := by kernel_rfl
theorem c37_1_eq : cK c37_1 50 x h k =
(bn .lss 3 (x 15) (x 14)).bind fun v17 =>
cnd v17 (
(ia 63 (x 13) (x 15)).bind fun v18 =>
(ld 68 v18 h).bind fun v19 =>
obH (allocV Tryd.prog 68 h) fun v20 h21 =>
(sto 68 v20 v19 h21).bind fun h22 =>
(fa 68 v20 2).bind fun v23 =>
(ld 38 v23 h22).bind fun v24 =>
(bn .neq 38 v24 (.int .u64 0)).bind fun v25 =>
(gd (wt v25 false) (fa 65 (x 1) 0)).bind fun v26 =>
(gd (wt v25 false) (ld 63 v26 h22)).bind fun v27 =>
(gd (wt v25 false) (ln 63 v27 h22)).bind fun v28 =>
(gd (wt v25 false) (bn .sub 3 v28 (.int .i64 1))).bind fun v29 =>
(gd (wt v25 false) (bn .eql 3 (gdV (wt v25 false) (x 15)) v29)).bind fun v30 =>
(pickV v25 (.bool true) v30).bind fun v31 =>
(gd (wt v31 false) (fa 65 (x 1) 0)).bind fun v32 =>
(gd (wt v31 false) (ld 63 v32 h22)).bind fun v33 =>
(gd (wt v31 false) (bn .add 3 (gdV (wt v31 false) (x 15)) (.int .i64 1))).bind fun v34 =>
(gd (wt v31 false) (ia 63 v33 v34)).bind fun v35 =>
(gd (wt v31 false) (fa 68 v35 0)).bind fun v36 =>
(gd (wt v31 false) (ld 3 v36 h22)).bind fun v37 =>
(gd (wt v31 false) (fa 68 v20 0)).bind fun v38 =>
(gd (wt v31 false) (ld 3 v38 h22)).bind fun v39 =>
(gd (wt v31 false) (bn .neq 3 v37 v39)).bind fun v40 =>
(pickV v31 (.bool true) v40).bind fun v41 =>
cnd v41 (
(ld 68 v20 h22).bind fun v42 =>
obH (buildSliceV Tryd.prog 63 1 #[(0, v42)] h22) fun v43 h44 =>
obH (ap 63 (some 63) (x 3) v43 h44) fun v45 h46 =>
(bn .add 3 (x 15) (.int .i64 1)).bind fun v47 =>
k .normal ⟨ar 50 (up x [(3,v45),(4,(x 15)),(5,v20),(15,v47),(16,v17),(17,(x 15)),(18,v18),(19,v19),(20,v23),(21,v24),(22,v25),(23,v25),(24,(gdV (wt v25 false) (x 15))),(25,v26),(26,v27),(27,v28),(28,v29),(29,v30),(30,v31),(31,v31),(32,v32),(33,v33),(34,(gdV (wt v31 false) (x 15))),(35,v34),(36,v35),(37,v36),(38,v37),(39,v38),(40,v39),(41,v40),(42,v41),(43,(x 3)),(44,v42),(45,v43),(46,v45),(47,v47)]), h46⟩) (
(bn .add 3 (x 15) (.int .i64 1)).bind fun v48 =>
k .normal ⟨ar 50 (up x [(4,(x 15)),(5,v20),(15,v48),(16,v17),(17,(x 15)),(18,v18),(19,v19),(20,v23),(21,v24),(22,v25),(23,v25),(24,(gdV (wt v25 false) (x 15))),(25,v26),(26,v27),(27,v28),(28,v29),(29,v30),(30,v31),(31,v31),(32,v32),(33,v33),(34,(gdV (wt v31 false) (x 15))),(35,v34),(36,v35),(37,v36),(38,v37),(39,v38),(40,v39),(41,v40),(42,v41),(47,v48)]), h22⟩)) (
k (.exit 0) ⟨ar 50 (up x [(16,v17)]), h⟩) := by kernel_rfl
theorem c37_2_eq : cK c37_2 50 x h k =
(buildV Tryd.prog 65 #[(0, (x 3))]).bind fun v49 =>
(sto 65 (x 2) v49 h).bind fun h50 =>
k .ret ⟨ar 50 (up x [(48,(x 3)),(49,v49)]), h50⟩ := by kernel_rfl
theorem call37 (a0 : Value) : evC Tryd.prog 37 #[a0] h = cK c37_0 50 (up un [(0,a0)]) (nm h) (retK Tryd.f37 Tryd.prog h) :=
  (evC_call 37 Tryd.f37 c37_0 Tryd.func37 (by kernel_rfl) #[a0] h).trans (by kernel_rfl)
theorem ret37 : retK Tryd.f37 Tryd.prog g .ret ⟨ar 50 x, h⟩ = fin g (rvals ((ld 65 (x 2) h).bind fun r0 => some [r0])) h := by kernel_rfl
end Go.Am
namespace Go.Am
open Go.Proofs
set_option maxRecDepth 100000
variable {β : Type} (x : Nat → Value) (h : Heap) (k : Ex → St → Option β) (r m : List Nat) (g : Heap)
noncomputable def c32_0 : Code := bodyC Tryd.f32 []
noncomputable def c32_1 : Code := bodyC Tryd.f32 [true, true, true, true, false, true, false, false]
noncomputable def c32_2 : Code := bodyC Tryd.f32 [true, true, true, true, true]
theorem c32_0_eq : cK c32_0 39 x h k =
obH (boxV Tryd.prog 65 (x 0) h) fun v0 h1 =>
(ld 65 v0 h1).bind fun v2 =>
obH (ev 31 #[v2] h1) fun v3 h4 =>
(unV Tryd.prog .not v3).bind fun v5 =>
cnd v5 (
k .ret ⟨ar 39 (up x [(1,v0),(2,(.slice Option.none 0 0)),(6,v2),(7,v3),(8,v5)]), h4⟩) (
obH (ev 56 #[] h4) fun v6 h7 =>
(fa 65 v0 0).bind fun v8 =>
(ld 63 v8 h7).bind fun v9 =>
(ln 63 v9 h7).bind fun v10 =>
obH (cv 3 23 v10 h7) fun v11 h12 =>
obH (ev 57 #[v6,v11] h12) fun v13 h14 =>
(fa 65 v0 0).bind fun v15 =>
(ld 63 v15 h14).bind fun v16 =>
(ln 63 v16 h14).bind fun v17 =>
lK c32_1 39 (up x [(1,v0),(2,(.slice Option.none 0 0)),(3,v6),(6,v2),(7,v3),(8,v5),(9,v6),(10,v6),(11,v8),(12,v9),(13,v10),(14,v11),(15,v13),(16,v15),(17,v16),(18,v17),(19,(.int .i64 0))]) h14 (blockK 0 (sK c32_2 k))) := by kernel_rfl
theorem c32_1_eq : cK c32_1 39 x h k =
(bn .lss 3 (x 19) (x 18)).bind fun v18 =>
cnd v18 (
(ia 63 (x 17) (x 19)).bind fun v19 =>
(ld 68 v19 h).bind fun v20 =>
obH (allocV Tryd.prog 68 h) fun v21 h22 =>
(sto 68 v21 v20 h22).bind fun h23 =>
(fa 68 v21 0).bind fun v24 =>
(ld 3 v24 h23).bind fun v25 =>
obH (cv 3 23 v25 h23) fun v26 h27 =>
obH (ev 57 #[x 3,v26] h27) fun v28 h29 =>
(fa 68 v21 1).bind fun v30 =>
(ld 23 v30 h29).bind fun v31 =>
obH (ev 57 #[x 3,v31] h29) fun v32 h33 =>
(fa 68 v21 2).bind fun v34 =>
(ld 38 v34 h33).bind fun v35 =>
obH (ev 58 #[x 3,v35] h33) fun v36 h37 =>
(bn .add 3 (x 19) (.int .i64 1)).bind fun v38 =>
k .normal ⟨ar 39 (up x [(5,v21),(19,v38),(20,v18),(21,v19),(22,v20),(23,(x 3)),(24,v24),(25,v25),(26,v26),(27,v28),(28,(x 3)),(29,v30),(30,v31),(31,v32),(32,(x 3)),(33,v34),(34,v35),(35,v36),(36,v38)]), h37⟩) (
k (.exit 0) ⟨ar 39 (up x [(20,v18)]), h⟩) := by kernel_rfl
theorem c32_2_eq : cK c32_2 39 x h k =
obH (ev 59 #[x 3] h) fun v39 h40 =>
k .ret ⟨ar 39 (up x [(2,v39),(37,(x 3)),(38,v39)]), h40⟩ := by kernel_rfl
theorem call32 (a0 : Value) : evC Tryd.prog 32 #[a0] h = cK c32_0 39 (up un [(0,a0)]) (nm h) (retK Tryd.f32 Tryd.prog h) :=
  (evC_call 32 Tryd.f32 c32_0 Tryd.func32 (by kernel_rfl) #[a0] h).trans (by kernel_rfl)
theorem ret32 : retK Tryd.f32 Tryd.prog g .ret ⟨ar 39 x, h⟩ = fin g (some (x 2)) h := by kernel_rfl
end Go.Am
namespace Go.Am
open Go.Proofs
set_option maxRecDepth 100000
variable {β : Type} (x : Nat → Value) (h : Heap) (k : Ex → St → Option β) (r m : List Nat) (g : Heap)
noncomputable def c46_0 : Code := bodyC Tryd.f46 []
noncomputable def c46_1 : Code := bodyC Tryd.f46 [true, true, true, false, true, false, false]
noncomputable def c46_2 : Code := bodyC Tryd.f46 [true, true, true, true]
theorem c46_0_eq : cK c46_0 42 x h k =
obH (allocV Tryd.prog 65 h) fun v0 h1 =>
obH (ev 67 #[x 0] h1) fun v2 h3 =>
obH (allocV Tryd.prog 65 h3) fun v4 h5 =>
(ln 40 (x 0) h5).bind fun v6 =>
obH (cv 3 23 v6 h5) fun v7 h8 =>
obH (ev 68 #[v2,v7] h8) fun v9 h10 =>
lK c46_1 42 (up x [(2,v0),(3,(.bool false)),(4,v2),(5,v4),(6,v9),(7,(x 0)),(8,v2),(9,v2),(10,(x 0)),(11,v6),(12,v7),(13,v9)]) h10 (blockK 0 (sK c46_2 k)) := by kernel_rfl
theorem c46_1_eq : cK c46_1 42 x h k =
(bn .gtr 23 (x 6) (.int .u64 0)).bind fun v11 =>
cnd v11 (
(fa 65 (x 5) 0).bind fun v12 =>
(ld 63 v12 h).bind fun v13 =>
obH (ev 68 #[x 4,(.int .u64 16)] (nm h)) fun v14 h15 =>
obH (cv 23 3 v14 (am h15 h)) fun v16 h17 =>
obH (ev 68 #[x 4,(.int .u64 18446744073709551615)] (nm h17)) fun v18 h19 =>
obH (ev 35 #[(.int .i64 16)] (nm (am h19 h17))) fun v20 h21 =>
obH (ev 70 #[x 4,v20] (nm (am h21 (am h19 h17)))) fun v22 h23 =>
(buildV Tryd.prog 68 #[(0, v16), (1, v18), (2, v22)]).bind fun v24 =>
obH (buildSliceV Tryd.prog 63 1 #[(0, v24)] (am h23 (am h21 (am h19 h17)))) fun v25 h26 =>
obH (ap 63 (some 63) v13 v25 h26) fun v27 h28 =>
(fa 65 (x 5) 0).bind fun v29 =>
(sto 63 v29 v27 h28).bind fun h30 =>
chk ((rb v12) ++ []) (h23.mods ++ (h21.mods ++ (h19.mods ++ (h15.mods ++ [])))) (
(bn .sub 23 (x 6) (.int .u64 1)).bind fun v31 =>
k .normal ⟨ar 42 (up x [(6,v31),(14,(x 6)),(15,v11),(16,(x 6)),(17,v31),(18,v12),(19,v13),(20,(x 4)),(21,v14),(22,v16),(23,(x 4)),(24,v18),(25,(x 4)),(26,v20),(27,v22),(28,v24),(29,v25),(30,v27),(31,v29)]), h30⟩)) (
k (.exit 0) ⟨ar 42 (up x [(14,(x 6)),(15,v11)]), h⟩) := by kernel_rfl
theorem c46_2_eq : cK c46_2 42 x h k =
obH (ev 69 #[x 4] h) fun v32 h33 =>
(unV Tryd.prog .not v32).bind fun v34 =>
(gd (wt v34 false) (ld 65 (x 5) h33)).bind fun v35 =>
obH (gdH (wt v34 false) h33 (ev 31 #[v35] h33)) fun v36 h37 =>
(gd (wt v34 false) (unV Tryd.prog .not v36)).bind fun v38 =>
(pickV v34 (.bool true) v38).bind fun v39 =>
cnd v39 (
(buildV Tryd.prog 65 #[]).bind fun v40 =>
(sto 65 (x 2) v40 h37).bind fun h41 =>
k .ret ⟨ar 42 (up x [(3,(.bool false)),(32,(x 4)),(33,v32),(34,v34),(35,v34),(36,v35),(37,v36),(38,v38),(39,v39),(40,v40)]), h41⟩) (
(ld 65 (x 5) h37).bind fun v42 =>
(sto 65 (x 2) v42 h37).bind fun h43 =>
k .ret ⟨ar 42 (up x [(3,(.bool true)),(32,(x 4)),(33,v32),(34,v34),(35,v34),(36,v35),(37,v36),(38,v38),(39,v39),(41,v42)]), h43⟩) := by kernel_rfl
theorem call46 (a0 : Value) : evC Tryd.prog 46 #[a0] h = cK c46_0 42 (up un [(0,a0)]) (nm h) (retK Tryd.f46 Tryd.prog h) :=
  (evC_call 46 Tryd.f46 c46_0 Tryd.func46 (by kernel_rfl) #[a0] h).trans (by kernel_rfl)
theorem ret46 : retK Tryd.f46 Tryd.prog g .ret ⟨ar 42 x, h⟩ = fin g (rvals ((ld 65 (x 2) h).bind fun r0 => some [r0, (x 3)])) h := by kernel_rfl
end Go.Am
namespace Go.Am
open Go.Proofs
set_option maxRecDepth 100000
variable {β : Type} (x : Nat → Value) (h : Heap) (k : Ex → St → Option β) (r m : List Nat) (g : Heap)
noncomputable def c34_0 : Code := bodyC Tryd.f34 []
theorem c34_0_eq : cK c34_0 7 x h k =
obH (builtinV Tryd.prog .max #[3, 3] #[x 0,(.int .i64 0)] h) fun v0 h1 =>
obH (builtinV Tryd.prog .min #[3, 3] #[v0,(.int .i64 64)] h1) fun v2 h3 =>
obH (makeSliceV Tryd.prog 73 v2 v2 h3) fun v4 h5 =>
k .ret ⟨ar 7 (up x [(2,v4),(3,(x 0)),(4,v0),(5,v2),(6,v4)]), h5⟩ := by kernel_rfl
theorem call34 (a0 : Value) : evC Tryd.prog 34 #[a0] h = cK c34_0 7 (up un [(0,a0)]) (nm h) (retK Tryd.f34 Tryd.prog h) :=
  (evC_call 34 Tryd.f34 c34_0 Tryd.func34 (by kernel_rfl) #[a0] h).trans (by kernel_rfl)
theorem ret34 : retK Tryd.f34 Tryd.prog g .ret ⟨ar 7 x, h⟩ = fin g (some (x 2)) h := by kernel_rfl
end Go.Am
namespace Go.Am
open Go.Proofs
set_option maxRecDepth 100000
variable {β : Type} (x : Nat → Value) (h : Heap) (k : Ex → St → Option β) (r m : List Nat) (g : Heap)
noncomputable def c49_0 : Code := bodyC Tryd.f49 []
theorem c49_0_eq : cK c49_0 17 x h k =
(bn .lss 3 (x 1) (.int .i64 0)).bind fun v0 =>
(gd (wt v0 false) (ln 73 (gdV (wt v0 false) (x 0)) h)).bind fun v1 =>
(gd (wt v0 false) (bn .geq 3 (gdV (wt v0 false) (x 1)) v1)).bind fun v2 =>
(pickV v0 (.bool true) v2).bind fun v3 =>
cnd v3 (
k .ret ⟨ar 17 (up x [(4,(.int .u64 0)),(5,(x 1)),(6,v0),(7,v0),(8,(gdV (wt v0 false) (x 1))),(9,(gdV (wt v0 false) (x 0))),(10,v1),(11,v2),(12,v3)]), h⟩) (
(ia 73 (x 0) (x 1)).bind fun v4 =>
(ld 23 v4 h).bind fun v5 =>
k .ret ⟨ar 17 (up x [(4,v5),(5,(x 1)),(6,v0),(7,v0),(8,(gdV (wt v0 false) (x 1))),(9,(gdV (wt v0 false) (x 0))),(10,v1),(11,v2),(12,v3),(13,(x 0)),(14,(x 1)),(15,v4),(16,v5)]), h⟩) := by kernel_rfl
theorem call49 (a0 a1 : Value) : evC Tryd.prog 49 #[a0,a1] h = cK c49_0 17 (up un [(0,a0),(1,a1)]) (nm h) (retK Tryd.f49 Tryd.prog h) :=
  (evC_call 49 Tryd.f49 c49_0 Tryd.func49 (by kernel_rfl) #[a0,a1] h).trans (by kernel_rfl)
theorem ret49 : retK Tryd.f49 Tryd.prog g .ret ⟨ar 17 x, h⟩ = fin g (some (x 4)) h := by kernel_rfl
end Go.Am
namespace Go.Am
open Go.Proofs
set_option maxRecDepth 100000
variable {β : Type} (x : Nat → Value) (h : Heap) (k : Ex → St → Option β) (r m : List Nat) (g : Heap)
noncomputable def c11_0 : Code := bodyC Tryd.f11 []
theorem c11_0_eq : cK c11_0 27 x h k =
(bn .lss 3 (x 0) (.int .i64 1)).bind fun v0 =>
(gd (wt v0 false) (bn .gtr 3 (gdV (wt v0 false) (x 0)) (.int .i64 16))).bind fun v1 =>
(pickV v0 (.bool true) v1).bind fun v2 =>
(gd (wt v2 false) (bn .lss 3 (gdV (wt v2 false) (x 1)) (.int .i64 0))).bind fun v3 =>
(pickV v2 (.bool true) v3).bind fun v4 =>
(gd (wt v4 false) (bn .geq 3 (gdV (wt v4 false) (x 1)) (gdV (wt v4 false) (x 0)))).bind fun v5 =>
(pickV v4 (.bool true) v5).bind fun v6 =>
cnd v6 (
k .ret ⟨ar 27 (up x [(4,(.pointer Option.none)),(5,(.int .i64 1)),(6,(x 0)),(7,v0),(8,v0),(9,(gdV (wt v0 false) (x 0))),(10,v1),(11,v2),(12,v2),(13,(gdV (wt v2 false) (x 1))),(14,v3),(15,v4),(16,v4),(17,(gdV (wt v4 false) (x 1))),(18,(gdV (wt v4 false) (x 0))),(19,v5),(20,v6)]), h⟩) (
obH (ev 34 #[x 0] h) fun v7 h8 =>
(buildV Tryd.prog 96 #[(0, (x 0)), (1, (x 1)), (4, v7)]).bind fun v9 =>
obH (boxV Tryd.prog 96 v9 h8) fun v10 h11 =>
k .ret ⟨ar 27 (up x [(4,v10),(5,(.int .i64 0)),(6,(x 0)),(7,v0),(8,v0),(9,(gdV (wt v0 false) (x 0))),(10,v1),(11,v2),(12,v2),(13,(gdV (wt v2 false) (x 1))),(14,v3),(15,v4),(16,v4),(17,(gdV (wt v4 false) (x 1))),(18,(gdV (wt v4 false) (x 0))),(19,v5),(20,v6),(21,(x 0)),(22,(x 1)),(23,(x 0)),(24,v7),(25,v9),(26,v10)]), h11⟩) := by kernel_rfl
theorem call11 (a0 a1 : Value) : evC Tryd.prog 11 #[a0,a1] h = cK c11_0 27 (up un [(0,a0),(1,a1)]) (nm h) (retK Tryd.f11 Tryd.prog h) :=
  (evC_call 11 Tryd.f11 c11_0 Tryd.func11 (by kernel_rfl) #[a0,a1] h).trans (by kernel_rfl)
theorem ret11 : retK Tryd.f11 Tryd.prog g .ret ⟨ar 27 x, h⟩ = fin g (some (.tuple #[x 4, (x 5)])) h := by kernel_rfl
end Go.Am
namespace Go.Am
open Go.Proofs
set_option maxRecDepth 100000
variable {β : Type} (x : Nat → Value) (h : Heap) (k : Ex → St → Option β) (r m : List Nat) (g : Heap)
noncomputable def c16_0 : Code := bodyC Tryd.f16 []
theorem c16_0_eq : cK c16_0 47 x h k =
obH (boxV Tryd.prog 33 (x 0) h) fun v0 h1 =>
obH (ev 46 #[x 3] h1) fun v2 h3 =>
(extractV v2 0).bind fun v4 =>
(extractV v2 1).bind fun v5 =>
obH (allocV Tryd.prog 65 h3) fun v6 h7 =>
(sto 65 v6 v4 h7).bind fun h8 =>
(unV Tryd.prog .not v5).bind fun v9 =>
(gd (wt v9 false) (bn .lss 3 (gdV (wt v9 false) (x 1)) (.int .i64 0))).bind fun v10 =>
(pickV v9 (.bool true) v10).bind fun v11 =>
(gd (wt v11 false) (ld 33 v0 h8)).bind fun v12 =>
(gd (wt v11 false) (nilCheckV Tryd.prog v12)).bind fun v13 =>
(gd (wt v11 false) (fa 96 v13 0)).bind fun v14 =>
(gd (wt v11 false) (ld 3 v14 h8)).bind fun v15 =>
(gd (wt v11 false) (bn .geq 3 (gdV (wt v11 false) (x 1)) v15)).bind fun v16 =>
(pickV v11 (.bool true) v16).bind fun v17 =>
(gd (wt v17 false) (ld 33 v0 h8)).bind fun v18 =>
(gd (wt v17 false) (nilCheckV Tryd.prog v18)).bind fun v19 =>
(gd (wt v17 false) (fa 96 v19 1)).bind fun v20 =>
(gd (wt v17 false) (ld 3 v20 h8)).bind fun v21 =>
(gd (wt v17 false) (bn .eql 3 (gdV (wt v17 false) (x 1)) v21)).bind fun v22 =>
(pickV v17 (.bool true) v22).bind fun v23 =>
(gd (wt v23 false) (bn .lss 23 (gdV (wt v23 false) (x 2)) (.int .u64 1))).bind fun v24 =>
(pickV v23 (.bool true) v24).bind fun v25 =>
cnd v25 (
k .ret ⟨ar 47 (up x [(4,v0),(8,(.bool false)),(9,v6),(10,v5),(11,v2),(12,(x 3)),(13,v2),(14,v4),(15,v5),(16,v5),(17,v9),(18,v9),(19,(gdV (wt v9 false) (x 1))),(20,v10),(21,v11),(22,v11),(23,(gdV (wt v11 false) (x 1))),(24,v12),(25,v13),(26,v14),(27,v15),(28,v16),(29,v17),(30,v17),(31,(gdV (wt v17 false) (x 1))),(32,v18),(33,v19),(34,v20),(35,v21),(36,v22),(37,v23),(38,v23),(39,(gdV (wt v23 false) (x 2))),(40,v24),(41,v25)]), h8⟩) (
(fa 65 v6 0).bind fun v26 =>
(ld 63 v26 h8).bind fun v27 =>
obH (ev 47 #[v27,(.func (Go.Fn.func 48) #[] #[v0])] h8) fun v28 h29 =>
(unV Tryd.prog .not v28).bind fun v30 =>
k .ret ⟨ar 47 (up x [(4,v0),(8,v30),(9,v6),(10,v5),(11,v2),(12,(x 3)),(13,v2),(14,v4),(15,v5),(16,v5),(17,v9),(18,v9),(19,(gdV (wt v9 false) (x 1))),(20,v10),(21,v11),(22,v11),(23,(gdV (wt v11 false) (x 1))),(24,v12),(25,v13),(26,v14),(27,v15),(28,v16),(29,v17),(30,v17),(31,(gdV (wt v17 false) (x 1))),(32,v18),(33,v19),(34,v20),(35,v21),(36,v22),(37,v23),(38,v23),(39,(gdV (wt v23 false) (x 2))),(40,v24),(41,v25),(42,v26),(43,v27),(44,(.func (Go.Fn.func 48) #[] #[v0])),(45,v28),(46,v30)]), h29⟩) := by kernel_rfl
theorem call16 (a0 a1 a2 a3 : Value) : evC Tryd.prog 16 #[a0,a1,a2,a3] h = cK c16_0 47 (up un [(0,a0),(1,a1),(2,a2),(3,a3)]) (nm h) (retK Tryd.f16 Tryd.prog h) :=
  (evC_call 16 Tryd.f16 c16_0 Tryd.func16 (by kernel_rfl) #[a0,a1,a2,a3] h).trans (by kernel_rfl)
theorem ret16 : retK Tryd.f16 Tryd.prog g .ret ⟨ar 47 x, h⟩ = fin g (some (x 8)) h := by kernel_rfl
end Go.Am
namespace Go.Am
open Go.Proofs
set_option maxRecDepth 100000
variable {β : Type} (x : Nat → Value) (h : Heap) (k : Ex → St → Option β) (r m : List Nat) (g : Heap)
noncomputable def c48_0 : Code := bodyC Tryd.f48 []
noncomputable def c48_1 : Code := bodyC Tryd.f48 [false]
noncomputable def c48_2 : Code := bodyC Tryd.f48 [true]
noncomputable def d48_0 : Array Oper := opsC (bodyC Tryd.f48 [true, false])
noncomputable def c48_3 : Code := bodyC Tryd.f48 [true, false]
noncomputable def c48_4 : Code := bodyC Tryd.f48 [true, true]
theorem c48_0_eq : cK c48_0 32 x h k =
cK c48_1 32 x h (sK c48_2 k) := codeK_seq _ _ _ _ _ (by kernel_rfl) _ _
theorem c48_1_eq : cK c48_1 32 x h k =
obH (boxV Tryd.prog 68 (x 0) h) fun v0 h1 =>
k .normal ⟨ar 32 (up x [(2,v0),(3,(.bool false))]), h1⟩ := by kernel_rfl
theorem c48_2_eq : cK c48_2 32 x h k =
cK c48_3 32 x h (sK c48_4 k) := codeK_seq _ _ _ _ _ (by kernel_rfl) _ _
theorem d48_0_0 (k : St → Option β) : rD d48_0 0 32 x h r m k =
(fa 68 (x 2) 2).bind fun v2 =>
rD d48_0 1 32 (up x [(4,v2)]) h r m k := (regD_step _ _ d48_0 0 (by kernel_rfl) _ _ _ _).trans (by kernel_rfl)
theorem d48_0_1 (k : St → Option β) : rD d48_0 1 32 x h r m k =
(ld 38 (x 4) h).bind fun v3 =>
rD d48_0 2 32 (up x [(5,v3)]) h r m k := (regD_step _ _ d48_0 1 (by kernel_rfl) _ _ _ _).trans (by kernel_rfl)
theorem d48_0_2 (k : St → Option β) : rD d48_0 2 32 x h r m k =
(ld 33 (x 1) h).bind fun v4 =>
rD d48_0 3 32 (up x [(6,v4)]) h r m k := (regD_step _ _ d48_0 2 (by kernel_rfl) _ _ _ _).trans (by kernel_rfl)
theorem d48_0_3 (k : St → Option β) : rD d48_0 3 32 x h r m k =
(nilCheckV Tryd.prog (x 6)).bind fun v5 =>
rD d48_0 4 32 (up x [(7,v5)]) h r m k := (regD_step _ _ d48_0 3 (by kernel_rfl) _ _ _ _).trans (by kernel_rfl)
theorem d48_0_4 (k : St → Option β) : rD d48_0 4 32 x h r m k =
(fa 96 (x 7) 1).bind fun v6 =>
rD d48_0 5 32 (up x [(8,v6)]) h r m k := (regD_step _ _ d48_0 4 (by kernel_rfl) _ _ _ _).trans (by kernel_rfl)
theorem d48_0_5 (k : St → Option β) : rD d48_0 5 32 x h r m k =
(ld 3 (x 8) h).bind fun v7 =>
rD d48_0 6 32 (up x [(9,v7)]) h r m k := (regD_step _ _ d48_0 5 (by kernel_rfl) _ _ _ _).trans (by kernel_rfl)
theorem d48_0_6 (k : St → Option β) : rD d48_0 6 32 x h r m k =
obH (ev 25 #[x 5,x 9] h) fun v8 h9 =>
rD d48_0 7 32 (up x [(10,v8)]) h9 r m k := (regD_step _ _ d48_0 6 (by kernel_rfl) _ _ _ _).trans (by kernel_rfl)
theorem d48_0_7 (k : St → Option β) : rD d48_0 7 32 x h r m k =
rD d48_0 8 32 (up x [(11,(x 10))]) h r m k := regD_move _ _ d48_0 7 (by kernel_rfl) (by kernel_rfl) (by kernel_rfl) _ _ _ _ _ _ (by kernel_rfl) (by kernel_rfl)
theorem d48_0_8 (k : St → Option β) : rD d48_0 8 32 x h r m k =
(gd (wt (x 11) true) (fa 68 (x 2) 0)).bind fun v10 =>
rD d48_0 9 32 (up x [(12,v10)]) h r m k := (regD_step _ _ d48_0 8 (by kernel_rfl) _ _ _ _).trans (by kernel_rfl)
theorem d48_0_9 (k : St → Option β) : rD d48_0 9 32 x h r m k =
(gd (wt (x 11) true) (ld 3 (x 12) h)).bind fun v11 =>
rD d48_0 10 32 (up x [(13,v11)]) h r m k := (regD_step _ _ d48_0 9 (by kernel_rfl) _ _ _ _).trans (by kernel_rfl)
theorem d48_0_10 (k : St → Option β) : rD d48_0 10 32 x h r m k =
(gd (wt (x 11) true) (ld 33 (x 1) h)).bind fun v12 =>
rD d48_0 11 32 (up x [(14,v12)]) h r m k := (regD_step _ _ d48_0 10 (by kernel_rfl) _ _ _ _).trans (by kernel_rfl)
theorem d48_0_11 (k : St → Option β) : rD d48_0 11 32 x h r m k =
(gd (wt (x 11) true) (nilCheckV Tryd.prog (x 14))).bind fun v13 =>
rD d48_0 12 32 (up x [(15,v13)]) h r m k := (regD_step _ _ d48_0 11 (by kernel_rfl) _ _ _ _).trans (by kernel_rfl)
theorem d48_0_12 (k : St → Option β) : rD d48_0 12 32 x h r m k =
(gd (wt (x 11) true) (fa 96 (x 15) 1)).bind fun v14 =>
rD d48_0 13 32 (up x [(16,v14)]) h r m k := (regD_step _ _ d48_0 12 (by kernel_rfl) _ _ _ _).trans (by kernel_rfl)
theorem d48_0_13 (k : St → Option β) : rD d48_0 13 32 x h r m k =
(gd (wt (x 11) true) (ld 3 (x 16) h)).bind fun v15 =>
rD d48_0 14 32 (up x [(17,v15)]) h r m k := (regD_step _ _ d48_0 13 (by kernel_rfl) _ _ _ _).trans (by kernel_rfl)
theorem d48_0_14 (k : St → Option β) : rD d48_0 14 32 x h r m k =
(gd (wt (x 11) true) (bn .neq 3 (x 13) (x 17))).bind fun v16 =>
rD d48_0 15 32 (up x [(18,v16)]) h r m k := (regD_step _ _ d48_0 14 (by kernel_rfl) _ _ _ _).trans (by kernel_rfl)
theorem d48_0_15 (k : St → Option β) : rD d48_0 15 32 x h r m k =
(pickV (x 11) (x 18) (.bool false)).bind fun v17 =>
rD d48_0 16 32 (up x [(19,v17)]) h r m k := (regD_step _ _ d48_0 15 (by kernel_rfl) _ _ _ _).trans (by kernel_rfl)
theorem d48_0_16 (k : St → Option β) : rD d48_0 16 32 x h r m k =
rD d48_0 17 32 (up x [(20,(x 19))]) h r m k := regD_move _ _ d48_0 16 (by kernel_rfl) (by kernel_rfl) (by kernel_rfl) _ _ _ _ _ _ (by kernel_rfl) (by kernel_rfl)
theorem d48_0_17 (k : St → Option β) : rD d48_0 17 32 x h r m k =
(gd (wt (x 20) true) (ld 33 (x 1) h)).bind fun v18 =>
rD d48_0 18 32 (up x [(21,v18)]) h r m k := (regD_step _ _ d48_0 17 (by kernel_rfl) _ _ _ _).trans (by kernel_rfl)
theorem d48_0_18 (k : St → Option β) : rD d48_0 18 32 x h r m k =
(gd (wt (x 20) true) (nilCheckV Tryd.prog (x 21))).bind fun v19 =>
rD d48_0 19 32 (up x [(22,v19)]) h r m k := (regD_step _ _ d48_0 18 (by kernel_rfl) _ _ _ _).trans (by kernel_rfl)
theorem d48_0_19 (k : St → Option β) : rD d48_0 19 32 x h r m k =
(gd (wt (x 20) true) (fa 96 (x 22) 4)).bind fun v20 =>
rD d48_0 20 32 (up x [(23,v20)]) h r m k := (regD_step _ _ d48_0 19 (by kernel_rfl) _ _ _ _).trans (by kernel_rfl)
theorem d48_0_20 (k : St → Option β) : rD d48_0 20 32 x h r m k =
(gd (wt (x 20) true) (ld 73 (x 23) h)).bind fun v21 =>
rD d48_0 21 32 (up x [(24,v21)]) h r m k := (regD_step _ _ d48_0 20 (by kernel_rfl) _ _ _ _).trans (by kernel_rfl)
theorem d48_0_21 (k : St → Option β) : rD d48_0 21 32 x h r m k =
(gd (wt (x 20) true) (fa 68 (x 2) 0)).bind fun v22 =>
rD d48_0 22 32 (up x [(25,v22)]) h r m k := (regD_step _ _ d48_0 21 (by kernel_rfl) _ _ _ _).trans (by kernel_rfl)
theorem d48_0_22 (k : St → Option β) : rD d48_0 22 32 x h r m k =
(gd (wt (x 20) true) (ld 3 (x 25) h)).bind fun v23 =>
rD d48_0 23 32 (up x [(26,v23)]) h r m k := (regD_step _ _ d48_0 22 (by kernel_rfl) _ _ _ _).trans (by kernel_rfl)
theorem d48_0_23 (k : St → Option β) : rD d48_0 23 32 x h r m k =
obH (gdH (wt (x 20) true) (nm h) (ev 49 #[x 24,x 26] (nm h))) fun v24 h25 =>
rD d48_0 24 32 (up x [(27,v24)]) (am h25 h) r (h25.mods ++ m) k := (regD_step _ _ d48_0 23 (by kernel_rfl) _ _ _ _).trans (by kernel_rfl)
theorem d48_0_24 (k : St → Option β) : rD d48_0 24 32 x h r m k =
(gd (wt (x 20) true) (fa 68 (x 2) 1)).bind fun v26 =>
rD d48_0 25 32 (up x [(28,v26)]) h r m k := (regD_step _ _ d48_0 24 (by kernel_rfl) _ _ _ _).trans (by kernel_rfl)
theorem d48_0_25 (k : St → Option β) : rD d48_0 25 32 x h r m k =
(gd (wt (x 20) true) (ld 23 (x 28) h)).bind fun v27 =>
rD d48_0 26 32 (up x [(29,v27)]) h (rdL (wt (x 20) true) (rb (x 28)) ++ r) m k := (regD_step _ _ d48_0 25 (by kernel_rfl) _ _ _ _).trans (by kernel_rfl)
theorem d48_0_26 (k : St → Option β) : rD d48_0 26 32 x h r m k =
(gd (wt (x 20) true) (bn .lss 23 (x 27) (x 29))).bind fun v28 =>
rD d48_0 27 32 (up x [(30,v28)]) h r m k := (regD_step _ _ d48_0 26 (by kernel_rfl) _ _ _ _).trans (by kernel_rfl)
theorem d48_0_27 (k : St → Option β) : rD d48_0 27 32 x h r m k =
(pickV (x 20) (x 30) (.bool false)).bind fun v29 =>
rD d48_0 28 32 (up x [(31,v29)]) h r m k := (regD_step _ _ d48_0 27 (by kernel_rfl) _ _ _ _).trans (by kernel_rfl)
theorem d48_0_28 (k : St → Option β) : rD d48_0 28 32 x h r m k =
rD d48_0 29 32 (up x [(3,(x 31))]) h r m k := regD_move _ _ d48_0 28 (by kernel_rfl) (by kernel_rfl) (by kernel_rfl) _ _ _ _ _ _ (by kernel_rfl) (by kernel_rfl)
theorem d48_0_29 (k : St → Option β) : rD d48_0 29 32 x h r m k =
chk r m (k ⟨ar 32 x, h⟩) := by kernel_rfl
theorem c48_3_eq : cK c48_3 32 x h k =
rD d48_0 0 32 x h [] [] (fun s => k .normal s) := by kernel_rfl
theorem c48_4_eq : cK c48_4 32 x h k =
k .ret ⟨ar 32 x, h⟩ := by kernel_rfl
theorem ret48 : retK Tryd.f48 Tryd.prog g .ret ⟨ar 32 x, h⟩ = fin g (some (x 3)) h := by kernel_rfl
end Go.Am
namespace Go.Am
open Go.Proofs
set_option maxRecDepth 100000
variable {β : Type} (x : Nat → Value) (h : Heap) (k : Ex → St → Option β) (r m : List Nat) (g : Heap)
noncomputable def c47_0 : Code := bodyC Tryd.f47 []
theorem c47_0_eq : cK c47_0 9 x h k =
obH (ev 71 #[x 0,x 1] h) fun v0 h1 =>
(bn .geq 3 v0 (.int .i64 0)).bind fun v2 =>
k .ret ⟨ar 9 (up x [(4,v2),(5,(x 0)),(6,(x 1)),(7,v0),(8,v2)]), h1⟩ := by kernel_rfl
theorem call47 (a0 a1 : Value) : evC Tryd.prog 47 #[a0,a1] h = cK c47_0 9 (up un [(0,a0),(1,a1)]) (nm h) (retK Tryd.f47 Tryd.prog h) :=
  (evC_call 47 Tryd.f47 c47_0 Tryd.func47 (by kernel_rfl) #[a0,a1] h).trans (by kernel_rfl)
theorem ret47 : retK Tryd.f47 Tryd.prog g .ret ⟨ar 9 x, h⟩ = fin g (some (x 4)) h := by kernel_rfl
end Go.Am
namespace Go.Am
open Go.Proofs
set_option maxRecDepth 100000
variable {β : Type} (x : Nat → Value) (h : Heap) (k : Ex → St → Option β) (r m : List Nat) (g : Heap)
noncomputable def c71_0 : Code := bodyC Tryd.f71 []
noncomputable def c71_1 : Code := bodyC Tryd.f71 [true, false, true, false, false]
noncomputable def c71_2 : Code := bodyC Tryd.f71 [true, true]
theorem c71_0_eq : cK c71_0 19 x h k =
(ln 63 (x 0) h).bind fun v0 =>
lK c71_1 19 (up x [(4,(.int .i64 0)),(6,(x 0)),(7,v0),(8,(.int .i64 0))]) h (blockK 0 (sK c71_2 k)) := by kernel_rfl
theorem c71_1_eq : cK c71_1 19 x h k =
(bn .lss 3 (x 8) (x 7)).bind fun v1 =>
cnd v1 (
(ia 63 (x 0) (x 8)).bind fun v2 =>
(ld 68 v2 h).bind fun v3 =>
obH (callV Tryd.prog (evC Tryd.prog) (x 1) #[v3] h) fun v4 h5 =>
cnd v4 (
k .ret ⟨ar 19 (up x [(4,(x 8)),(5,(x 8)),(9,v1),(10,(x 8)),(11,(x 1)),(12,(x 0)),(13,(x 8)),(14,v2),(15,v3),(16,v4),(17,(x 8))]), h5⟩) (
(bn .add 3 (x 8) (.int .i64 1)).bind fun v6 =>
k .normal ⟨ar 19 (up x [(5,(x 8)),(8,v6),(9,v1),(10,(x 8)),(11,(x 1)),(12,(x 0)),(13,(x 8)),(14,v2),(15,v3),(16,v4),(18,v6)]), h5⟩)) (
k (.exit 0) ⟨ar 19 (up x [(9,v1)]), h⟩) := by kernel_rfl
theorem c71_2_eq : cK c71_2 19 x h k =
k .ret ⟨ar 19 (up x [(4,(.int .i64 (-1)))]), h⟩ := by kernel_rfl
theorem call71 (a0 a1 : Value) : evC Tryd.prog 71 #[a0,a1] h = cK c71_0 19 (up un [(0,a0),(1,a1)]) (nm h) (retK Tryd.f71 Tryd.prog h) :=
  (evC_call 71 Tryd.f71 c71_0 Tryd.func71 (by kernel_rfl) #[a0,a1] h).trans (by kernel_rfl)
theorem ret71 : retK Tryd.f71 Tryd.prog g .ret ⟨ar 19 x, h⟩ = fin g (some (x 4)) h := by kernel_rfl
end Go.Am
namespace Go.Am
open Go.Proofs
set_option maxRecDepth 100000
variable {β : Type} (x : Nat → Value) (h : Heap) (k : Ex → St → Option β) (r m : List Nat) (g : Heap)
end Go.Am
namespace Go.Am
open Go.Proofs
set_option maxRecDepth 100000
variable {β : Type} (x : Nat → Value) (h : Heap) (k : Ex → St → Option β) (r m : List Nat) (g : Heap)
end Go.Am
namespace Go.Am
open Go.Proofs
set_option maxRecDepth 100000
variable {β : Type} (x : Nat → Value) (h : Heap) (k : Ex → St → Option β) (r m : List Nat) (g : Heap)
noncomputable def c53_0 : Code := bodyC Tryd.f53 []
theorem c53_0_eq : cK c53_0 8 x h k =
(bn .eql 73 (x 0) (.slice Option.none 0 0)).bind fun v0 =>
cnd v0 (
k .ret ⟨ar 8 (up x [(2,(.slice Option.none 0 0)),(3,(x 0)),(4,v0)]), h⟩) (
obH (buildSliceV Tryd.prog 73 0 #[] h) fun v1 h2 =>
obH (ap 73 (some 73) v1 (x 0) h2) fun v3 h4 =>
k .ret ⟨ar 8 (up x [(2,v3),(3,(x 0)),(4,v0),(5,v1),(6,(x 0)),(7,v3)]), h4⟩) := by kernel_rfl
theorem call53 (a0 : Value) : evC Tryd.prog 53 #[a0] h = cK c53_0 8 (up un [(0,a0)]) (nm h) (retK Tryd.f53 Tryd.prog h) :=
  (evC_call 53 Tryd.f53 c53_0 Tryd.func53 (by kernel_rfl) #[a0] h).trans (by kernel_rfl)
theorem ret53 : retK Tryd.f53 Tryd.prog g .ret ⟨ar 8 x, h⟩ = fin g (some (x 2)) h := by kernel_rfl
end Go.Am
namespace Go.Am
open Go.Proofs
set_option maxRecDepth 100000
variable {β : Type} (x : Nat → Value) (h : Heap) (k : Ex → St → Option β) (r m : List Nat) (g : Heap)
noncomputable def c12_0 : Code := bodyC Tryd.f12 []
noncomputable def c12_1 : Code := bodyC Tryd.f12 [true, true, true, true, false, true, false, false]
noncomputable def c12_2 : Code := bodyC Tryd.f12 [true, true, true, true, true]
theorem c12_0_eq : cK c12_0 71 x h k =
(nilCheckV Tryd.prog (x 0)).bind fun v0 =>
(fa 96 v0 0).bind fun v1 =>
(ld 3 v1 h).bind fun v2 =>
obH (ev 35 #[v2] (nm h)) fun v3 h4 =>
(nilCheckV Tryd.prog (x 0)).bind fun v5 =>
(fa 96 v5 1).bind fun v6 =>
(ld 3 v6 (am h4 h)).bind fun v7 =>
obH (buildSliceV Tryd.prog 41 1 #[(0, v7)] (am h4 h)) fun v8 h9 =>
obH (ev 26 #[v8] h9) fun v10 h11 =>
(bn .andNot 38 v3 v10).bind fun v12 =>
(bn .and 38 (x 1) v12).bind fun v13 =>
chk ([(am h4 h).blks.length] ++ ((rb v6) ++ [])) (h4.mods ++ []) (
(nilCheckV Tryd.prog (x 0)).bind fun v14 =>
(fa 96 v14 3).bind fun v15 =>
(ld 23 v15 h11).bind fun v16 =>
(bn .add 23 v16 (.int .u64 1)).bind fun v17 =>
(nilCheckV Tryd.prog (x 0)).bind fun v18 =>
(fa 96 v18 3).bind fun v19 =>
(sto 23 v19 v17 h11).bind fun h20 =>
obH (ev 36 #[v13] h20) fun v21 h22 =>
(ln 41 v21 h22).bind fun v23 =>
lK c12_1 71 (up x [(1,v13),(4,(.slice Option.none 0 0)),(5,(.slice Option.none 0 0)),(8,(x 1)),(9,(x 0)),(10,v0),(11,v1),(12,v2),(13,v3),(14,(x 0)),(15,v5),(16,v6),(17,v7),(18,v8),(19,v10),(20,v12),(21,v13),(22,(x 0)),(23,v14),(24,v15),(25,v16),(26,v17),(27,v18),(28,v19),(29,v13),(30,v21),(31,v23),(32,(.int .i64 0))]) h22 (blockK 0 (sK c12_2 k))) := by kernel_rfl
theorem c12_1_eq : cK c12_1 71 x h k =
(bn .lss 3 (x 32) (x 31)).bind fun v24 =>
cnd v24 (
(ia 41 (x 30) (x 32)).bind fun v25 =>
(ld 3 v25 h).bind fun v26 =>
(nilCheckV Tryd.prog (x 0)).bind fun v27 =>
(fa 96 v27 2).bind fun v28 =>
(ld 65 v28 h).bind fun v29 =>
obH (ev 38 #[v29,x 1,v26] h) fun v30 h31 =>
obH (ev 37 #[v30] h31) fun v32 h33 =>
obH (ev 32 #[v32] h33) fun v34 h35 =>
obH (buildSliceV Tryd.prog 36 1 #[(0, v34)] h35) fun v36 h37 =>
obH (ap 36 (some 36) (x 5) v36 h37) fun v38 h39 =>
(bn .add 3 (x 32) (.int .i64 1)).bind fun v40 =>
k .normal ⟨ar 71 (up x [(5,v38),(7,v26),(32,v40),(33,v24),(34,v25),(35,v26),(36,(x 5)),(37,(x 0)),(38,v27),(39,v28),(40,v29),(41,(x 1)),(42,v26),(43,v30),(44,v32),(45,v34),(46,v36),(47,v38),(48,v40)]), h39⟩) (
k (.exit 0) ⟨ar 71 (up x [(33,v24)]), h⟩) := by kernel_rfl
theorem c12_2_eq : cK c12_2 71 x h k =
(nilCheckV Tryd.prog (x 0)).bind fun v41 =>
(fa 96 v41 2).bind fun v42 =>
(ld 65 v42 h).bind fun v43 =>
obH (ev 40 #[v43,x 1] (nm h)) fun v44 h45 =>
(nilCheckV Tryd.prog (x 0)).bind fun v46 =>
(fa 96 v46 1).bind fun v47 =>
(ld 3 v47 (am h45 h)).bind fun v48 =>
(nilCheckV Tryd.prog (x 0)).bind fun v49 =>
(fa 96 v49 3).bind fun v50 =>
(ld 23 v50 (am h45 h)).bind fun v51 =>
(buildV Tryd.prog 68 #[(0, v48), (1, v51), (2, (x 1))]).bind fun v52 =>
obH (ev 39 #[v44,v52] (am h45 h)) fun v53 h54 =>
obH (ev 37 #[v53] h54) fun v55 h56 =>
(nilCheckV Tryd.prog (x 0)).bind fun v57 =>
(fa 96 v57 2).bind fun v58 =>
(sto 65 v58 v55 h56).bind fun h59 =>
chk ((rb v50) ++ ((rb v47) ++ [])) (h45.mods ++ []) (
k .ret ⟨ar 71 (up x [(4,(x 5)),(49,(x 0)),(50,(x 0)),(51,v41),(52,v42),(53,v43),(54,(x 1)),(55,v44),(56,(x 0)),(57,v46),(58,v47),(59,v48),(60,(x 0)),(61,v49),(62,v50),(63,v51),(64,(x 1)),(65,v52),(66,v53),(67,v55),(68,v57),(69,v58),(70,(x 5))]), h59⟩) := by kernel_rfl
theorem call12 (a0 a1 : Value) : evC Tryd.prog 12 #[a0,a1] h = cK c12_0 71 (up un [(0,a0),(1,a1)]) (nm h) (retK Tryd.f12 Tryd.prog h) :=
  (evC_call 12 Tryd.f12 c12_0 Tryd.func12 (by kernel_rfl) #[a0,a1] h).trans (by kernel_rfl)
theorem ret12 : retK Tryd.f12 Tryd.prog g .ret ⟨ar 71 x, h⟩ = fin g (some (x 4)) h := by kernel_rfl
end Go.Am
namespace Go.Am
open Go.Proofs
set_option maxRecDepth 100000
variable {β : Type} (x : Nat → Value) (h : Heap) (k : Ex → St → Option β) (r m : List Nat) (g : Heap)
end Go.Am
namespace Go.Am
open Go.Proofs
set_option maxRecDepth 100000
variable {β : Type} (x : Nat → Value) (h : Heap) (k : Ex → St → Option β) (r m : List Nat) (g : Heap)
end Go.Am
namespace Go.Am
open Go.Proofs
set_option maxRecDepth 100000
variable {β : Type} (x : Nat → Value) (h : Heap) (k : Ex → St → Option β) (r m : List Nat) (g : Heap)
end Go.Am
namespace Go.Am
open Go.Proofs
set_option maxRecDepth 100000
variable (Aa Ab Ac Ad Ae Af Ag Ah Ai Aj Ak Al An Ao Ap Aq Ar As Au Av Aw Ax Ay Az Ba Bb : Value)
noncomputable def c33_0 : Code := bodyC Tryd.f33 []
noncomputable def c33_1 : Code := bodyC Tryd.f33 [true, true, true, false, true, false, false]
noncomputable def c33_2 : Code := bodyC Tryd.f33 [true, true, true, true]
theorem c33_0_eq {β : Type} (h : Heap) (k : Ex → St → Option β) : codeK Tryd.prog (evC Tryd.prog) loopL c33_0 ⟨#[Aa,Ab,Ac,Ad,Ae,Af,Ag,Ah,Ai,Aj,Ak,Al,An,Ao,Ap,Aq,Ar,As,Au,Av,Aw,Ax,Ay,Az,Ba,Bb], h⟩ k =
obH (allocV Tryd.prog 89 h) fun t2_0 h1 =>
(binV Tryd.prog .lss 3 (.tmp 5) (.const (Go.Value.int Go.IntKind.i64 1)) Aa (Go.Value.int Go.IntKind.i64 1)).bind fun t6_2 =>
(gd (wt t6_2 false) (binV Tryd.prog .gtr 3 (.tmp 8) (.const (Go.Value.int Go.IntKind.i64 16)) (gdV (wt t6_2 false) Aa) (Go.Value.int Go.IntKind.i64 16))).bind fun t9_3 =>
(pickV t6_2 (Go.Value.bool Bool.true) t9_3).bind fun t10_4 =>
cnd t10_4 (
(buildV Tryd.prog 89 #[]).bind fun t11_5 =>
(storeV Tryd.prog 89 t2_0 t11_5 h1).bind fun h6 =>
k .ret ⟨#[Aa,Ab, t2_0, (Go.Value.int Go.IntKind.i64 1),Ae,Aa, t6_2, t6_2, (gdV (wt t6_2 false) Aa), t9_3, t10_4, t11_5,An,Ao,Ap,Aq,Ar,As,Au,Av,Aw,Ax,Ay,Az,Ba,Bb], h6⟩) (
(buildV Tryd.prog 89 #[(0,Aa)]).bind fun t13_7 =>
obH (allocV Tryd.prog 89 h1) fun t4_8 h9 =>
(storeV Tryd.prog 89 t4_8 t13_7 h9).bind fun h10 =>
loopK Tryd.prog (evC Tryd.prog) c33_1 ⟨#[Aa,Ab, t2_0, (Go.Value.int Go.IntKind.i64 0), t4_8,Aa, t6_2, t6_2, (gdV (wt t6_2 false) Aa), t9_3, t10_4,Al,Aa, t13_7,Aa, (Go.Value.int Go.IntKind.i64 0),Ar,As,Au,Av,Aw,Ax,Ay,Az,Ba,Bb], h10⟩ (blockK 0 (seqK Tryd.prog (evC Tryd.prog) c33_2 k))) := by kernel_rfl
theorem c33_1_eq {β : Type} (h : Heap) (k : Ex → St → Option β) : codeK Tryd.prog (evC Tryd.prog) loopL c33_1 ⟨#[Aa,Ab,Ac,Ad,Ae,Af,Ag,Ah,Ai,Aj,Ak,Al,An,Ao,Ap,Aq,Ar,As,Au,Av,Aw,Ax,Ay,Az,Ba,Bb], h⟩ k =
(binV Tryd.prog .lss 3 (.tmp 15) (.tmp 14) Aq Ap).bind fun t16_11 =>
cnd t16_11 (
(fieldAddrV Tryd.prog 89 Ae 1).bind fun t17_12 =>
(loadV Tryd.prog 87 t17_12 h).bind fun t18_13 =>
obH (evC Tryd.prog 34 #[Aa] (nm h)) fun t20_14 h15 =>
obH (buildSliceV Tryd.prog 87 1 #[(0, t20_14)] (am h15 h)) fun t21_16 h17 =>
obH (appendV Tryd.prog 87 (some 87) t18_13 t21_16 h17) fun t22_18 h19 =>
(fieldAddrV Tryd.prog 89 Ae 1).bind fun t23_20 =>
(storeV Tryd.prog 87 t23_20 t22_18 h19).bind fun h21 =>
chk ((rb t17_12) ++ []) (h15.mods ++ []) (
(binV Tryd.prog .add 3 (.tmp 15) (.const (Go.Value.int Go.IntKind.i64 1)) Aq (Go.Value.int Go.IntKind.i64 1)).bind fun t24_22 =>
k .normal ⟨#[Aa,Ab,Ac,Ad,Ae,Af,Ag,Ah,Ai,Aj,Ak,Al,An,Ao,Ap, t24_22, t16_11, t17_12, t18_13,Aa, t20_14, t21_16, t22_18, t23_20, t24_22,Bb], h21⟩)) (
k (.exit 0) ⟨#[Aa,Ab,Ac,Ad,Ae,Af,Ag,Ah,Ai,Aj,Ak,Al,An,Ao,Ap,Aq, t16_11,As,Au,Av,Aw,Ax,Ay,Az,Ba,Bb], h⟩) := by kernel_rfl
theorem c33_2_eq {β : Type} (h : Heap) (k : Ex → St → Option β) : codeK Tryd.prog (evC Tryd.prog) loopL c33_2 ⟨#[Aa,Ab,Ac,Ad,Ae,Af,Ag,Ah,Ai,Aj,Ak,Al,An,Ao,Ap,Aq,Ar,As,Au,Av,Aw,Ax,Ay,Az,Ba,Bb], h⟩ k =
(loadV Tryd.prog 89 Ae h).bind fun t25_23 =>
(storeV Tryd.prog 89 Ac t25_23 h).bind fun h24 =>
k .ret ⟨#[Aa,Ab,Ac, (Go.Value.int Go.IntKind.i64 0),Ae,Af,Ag,Ah,Ai,Aj,Ak,Al,An,Ao,Ap,Aq,Ar,As,Au,Av,Aw,Ax,Ay,Az,Ba, t25_23], h24⟩ := by kernel_rfl
theorem call33 (h : Heap) : evC Tryd.prog 33 #[Aa] h = codeK Tryd.prog (evC Tryd.prog) loopL c33_0 ⟨#[Aa, undef, undef, undef, undef, undef, undef, undef, undef, undef, undef, undef, undef, undef, undef, undef, undef, undef, undef, undef, undef, undef, undef, undef, undef, undef], nm h⟩ (retK Tryd.f33 Tryd.prog h) :=
  (evC_call 33 Tryd.f33 c33_0 Tryd.func33 (by kernel_rfl) #[Aa] h).trans (by kernel_rfl)
theorem ret33 (h0 h : Heap) : retK Tryd.f33 Tryd.prog h0 .ret ⟨#[Aa,Ab,Ac,Ad,Ae,Af,Ag,Ah,Ai,Aj,Ak,Al,An,Ao,Ap,Aq,Ar,As,Au,Av,Aw,Ax,Ay,Az,Ba,Bb], h⟩ = fin h0 (rvals ((loadV Tryd.prog 89 Ac h).bind fun r0 => some [r0,Ad])) h := by kernel_rfl
end Go.Am
namespace Go.Am
open Go.Proofs
set_option maxRecDepth 100000
variable (Aa Ab Ac Ad Ae Af Ag Ah Ai Aj Ak Al An Ao Ap Aq Ar As Au Av Aw Ax Ay Az : Value)
noncomputable def c65_0 : Code := bodyC Tryd.f65 []
theorem c65_0_eq {β : Type} (h : Heap) (k : Ex → St → Option β) : codeK Tryd.prog (evC Tryd.prog) loopL c65_0 ⟨#[Aa,Ab,Ac,Ad,Ae,Af,Ag,Ah,Ai,Aj,Ak,Al,An,Ao,Ap,Aq,Ar,As,Au,Av,Aw,Ax,Ay,Az], h⟩ k =
obH (boxV Tryd.prog 89 Aa h) fun t1_0 h1 =>
(fieldAddrV Tryd.prog 89 t1_0 0).bind fun t3_2 =>
(loadV Tryd.prog 3 t3_2 h1).bind fun t4_3 =>
(binV Tryd.prog .lss 3 (.tmp 4) (.const (Go.Value.int Go.IntKind.i64 1)) t4_3 (Go.Value.int Go.IntKind.i64 1)).bind fun t5_4 =>
(gd (wt t5_4 false) (fieldAddrV Tryd.prog 89 t1_0 0)).bind fun t7_5 =>
(gd (wt t5_4 false) (loadV Tryd.prog 3 t7_5 h1)).bind fun t8_6 =>
(gd (wt t5_4 false) (binV Tryd.prog .gtr 3 (.tmp 8) (.const (Go.Value.int Go.IntKind.i64 16)) t8_6 (Go.Value.int Go.IntKind.i64 16))).bind fun t9_7 =>
(pickV t5_4 (Go.Value.bool Bool.true) t9_7).bind fun t10_8 =>
(gd (wt t10_8 false) (fieldAddrV Tryd.prog 89 t1_0 1)).bind fun t12_9 =>
(gd (wt t10_8 false) (loadV Tryd.prog 87 t12_9 h1)).bind fun t13_10 =>
(gd (wt t10_8 false) (lenV Tryd.prog 87 t13_10 h1)).bind fun t14_11 =>
(gd (wt t10_8 false) (fieldAddrV Tryd.prog 89 t1_0 0)).bind fun t15_12 =>
(gd (wt t10_8 false) (loadV Tryd.prog 3 t15_12 h1)).bind fun t16_13 =>
(gd (wt t10_8 false) (binV Tryd.prog .neq 3 (.tmp 14) (.tmp 16) t14_11 t16_13)).bind fun t17_14 =>
(pickV t10_8 (Go.Value.bool Bool.true) t17_14).bind fun t18_15 =>
cnd t18_15 (
k .ret ⟨#[Aa, t1_0, (Go.Value.bool Bool.false), t3_2, t4_3, t5_4, t5_4, t7_5, t8_6, t9_7, t10_8, t10_8, t12_9, t13_10, t14_11, t15_12, t16_13, t17_14, t18_15,Av,Aw,Ax,Ay,Az], h1⟩) (
(fieldAddrV Tryd.prog 89 t1_0 1).bind fun t19_16 =>
(loadV Tryd.prog 87 t19_16 h1).bind fun t20_17 =>
obH (evC Tryd.prog 82 #[t20_17, (.func (Go.Fn.func 83) #[] #[t1_0])] h1) fun t22_18 h19 =>
(unV Tryd.prog .not t22_18).bind fun t23_20 =>
k .ret ⟨#[Aa, t1_0, t23_20, t3_2, t4_3, t5_4, t5_4, t7_5, t8_6, t9_7, t10_8, t10_8, t12_9, t13_10, t14_11, t15_12, t16_13, t17_14, t18_15, t19_16, t20_17, (.func (Go.Fn.func 83) #[] #[t1_0]), t22_18, t23_20], h19⟩) := by kernel_rfl
theorem call65 (h : Heap) : evC Tryd.prog 65 #[Aa] h = codeK Tryd.prog (evC Tryd.prog) loopL c65_0 ⟨#[Aa, undef, undef, undef, undef, undef, undef, undef, undef, undef, undef, undef, undef, undef, undef, undef, undef, undef, undef, undef, undef, undef, undef, undef], nm h⟩ (retK Tryd.f65 Tryd.prog h) :=
  (evC_call 65 Tryd.f65 c65_0 Tryd.func65 (by kernel_rfl) #[Aa] h).trans (by kernel_rfl)
theorem ret65 (h0 h : Heap) : retK Tryd.f65 Tryd.prog h0 .ret ⟨#[Aa,Ab,Ac,Ad,Ae,Af,Ag,Ah,Ai,Aj,Ak,Al,An,Ao,Ap,Aq,Ar,As,Au,Av,Aw,Ax,Ay,Az], h⟩ = fin h0 (some Ac) h := by kernel_rfl
end Go.Am
namespace Go.Am
open Go.Proofs
set_option maxRecDepth 100000
variable (Aa Ab Ac Ad Ae Af Ag Ah Ai : Value)
noncomputable def c83_0 : Code := bodyC Tryd.f83 []
theorem c83_0_eq {β : Type} (h : Heap) (k : Ex → St → Option β) : codeK Tryd.prog (evC Tryd.prog) loopL c83_0 ⟨#[Aa,Ab,Ac,Ad,Ae,Af,Ag,Ah,Ai], h⟩ k =
(lenV Tryd.prog 73 Aa h).bind fun t5_0 =>
(fieldAddrV Tryd.prog 89 Ab 0).bind fun t6_1 =>
(loadV Tryd.prog 3 t6_1 h).bind fun t7_2 =>
(binV Tryd.prog .neq 3 (.tmp 5) (.tmp 7) t5_0 t7_2).bind fun t8_3 =>
k .ret ⟨#[Aa,Ab,Ac, t8_3,Aa, t5_0, t6_1, t7_2, t8_3], h⟩ := by kernel_rfl
theorem ret83 (h0 h : Heap) : retK Tryd.f83 Tryd.prog h0 .ret ⟨#[Aa,Ab,Ac,Ad,Ae,Af,Ag,Ah,Ai], h⟩ = fin h0 (some Ad) h := by kernel_rfl
end Go.Am
namespace Go.Am
open Go.Proofs
set_option maxRecDepth 100000
variable (Aa Ab Ac Ad Ae Af Ag Ah Ai : Value)
noncomputable def c82_0 : Code := bodyC Tryd.f82 []
theorem c82_0_eq {β : Type} (h : Heap) (k : Ex → St → Option β) : codeK Tryd.prog (evC Tryd.prog) loopL c82_0 ⟨#[Aa,Ab,Ac,Ad,Ae,Af,Ag,Ah,Ai], h⟩ k =
obH (evC Tryd.prog 92 #[Aa,Ab] h) fun t7_0 h1 =>
(binV Tryd.prog .geq 3 (.tmp 7) (.const (Go.Value.int Go.IntKind.i64 0)) t7_0 (Go.Value.int Go.IntKind.i64 0)).bind fun t8_2 =>
k .ret ⟨#[Aa,Ab,Ac,Ad, t8_2,Aa,Ab, t7_0, t8_2], h1⟩ := by kernel_rfl
theorem call82 (h : Heap) : evC Tryd.prog 82 #[Aa,Ab] h = codeK Tryd.prog (evC Tryd.prog) loopL c82_0 ⟨#[Aa,Ab, undef, undef, undef, undef, undef, undef, undef], nm h⟩ (retK Tryd.f82 Tryd.prog h) :=
  (evC_call 82 Tryd.f82 c82_0 Tryd.func82 (by kernel_rfl) #[Aa,Ab] h).trans (by kernel_rfl)
theorem ret82 (h0 h : Heap) : retK Tryd.f82 Tryd.prog h0 .ret ⟨#[Aa,Ab,Ac,Ad,Ae,Af,Ag,Ah,Ai], h⟩ = fin h0 (some Ae) h := by kernel_rfl
end Go.Am
namespace Go.Am
open Go.Proofs
set_option maxRecDepth 100000
variable (Aa Ab Ac Ad Ae Af Ag Ah Ai Aj Ak Al An Ao Ap Aq Ar As Au : Value)
noncomputable def c92_0 : Code := bodyC Tryd.f92 []
noncomputable def c92_1 : Code := bodyC Tryd.f92 [true, false, true, false, false]
noncomputable def c92_2 : Code := bodyC Tryd.f92 [true, true]
theorem c92_0_eq {β : Type} (h : Heap) (k : Ex → St → Option β) : codeK Tryd.prog (evC Tryd.prog) loopL c92_0 ⟨#[Aa,Ab,Ac,Ad,Ae,Af,Ag,Ah,Ai,Aj,Ak,Al,An,Ao,Ap,Aq,Ar,As,Au], h⟩ k =
(lenV Tryd.prog 87 Aa h).bind fun t7_0 =>
loopK Tryd.prog (evC Tryd.prog) c92_1 ⟨#[Aa,Ab,Ac,Ad, (Go.Value.int Go.IntKind.i64 0),Af,Aa, t7_0, (Go.Value.int Go.IntKind.i64 0),Aj,Ak,Al,An,Ao,Ap,Aq,Ar,As,Au], h⟩ (blockK 0 (seqK Tryd.prog (evC Tryd.prog) c92_2 k)) := by kernel_rfl
theorem c92_1_eq {β : Type} (h : Heap) (k : Ex → St → Option β) : codeK Tryd.prog (evC Tryd.prog) loopL c92_1 ⟨#[Aa,Ab,Ac,Ad,Ae,Af,Ag,Ah,Ai,Aj,Ak,Al,An,Ao,Ap,Aq,Ar,As,Au], h⟩ k =
(binV Tryd.prog .lss 3 (.tmp 8) (.tmp 7) Ai Ah).bind fun t9_1 =>
cnd t9_1 (
(indexAddrV Tryd.prog 87 Aa Ai).bind fun t14_2 =>
(loadV Tryd.prog 73 t14_2 h).bind fun t15_3 =>
obH (callV Tryd.prog (evC Tryd.prog) Ab #[t15_3] h) fun t16_4 h5 =>
cnd t16_4 (
k .ret ⟨#[Aa,Ab,Ac,Ad,Ai,Ai,Ag,Ah,Ai, t9_1,Ai,Ab,Aa,Ai, t14_2, t15_3, t16_4,Ai,Au], h5⟩) (
(binV Tryd.prog .add 3 (.tmp 8) (.const (Go.Value.int Go.IntKind.i64 1)) Ai (Go.Value.int Go.IntKind.i64 1)).bind fun t18_6 =>
k .normal ⟨#[Aa,Ab,Ac,Ad,Ae,Ai,Ag,Ah, t18_6, t9_1,Ai,Ab,Aa,Ai, t14_2, t15_3, t16_4,As, t18_6], h5⟩)) (
k (.exit 0) ⟨#[Aa,Ab,Ac,Ad,Ae,Af,Ag,Ah,Ai, t9_1,Ak,Al,An,Ao,Ap,Aq,Ar,As,Au], h⟩) := by kernel_rfl
theorem c92_2_eq {β : Type} (h : Heap) (k : Ex → St → Option β) : codeK Tryd.prog (evC Tryd.prog) loopL c92_2 ⟨#[Aa,Ab,Ac,Ad,Ae,Af,Ag,Ah,Ai,Aj,Ak,Al,An,Ao,Ap,Aq,Ar,As,Au], h⟩ k =
k .ret ⟨#[Aa,Ab,Ac,Ad, (Go.Value.int Go.IntKind.i64 (-1)),Af,Ag,Ah,Ai,Aj,Ak,Al,An,Ao,Ap,Aq,Ar,As,Au], h⟩ := by kernel_rfl
theorem call92 (h : Heap) : evC Tryd.prog 92 #[Aa,Ab] h = codeK Tryd.prog (evC Tryd.prog) loopL c92_0 ⟨#[Aa,Ab, undef, undef, undef, undef, undef, undef, undef, undef, undef, undef, undef, undef, undef, undef, undef, undef, undef], nm h⟩ (retK Tryd.f92 Tryd.prog h) :=
  (evC_call 92 Tryd.f92 c92_0 Tryd.func92 (by kernel_rfl) #[Aa,Ab] h).trans (by kernel_rfl)
theorem ret92 (h0 h : Heap) : retK Tryd.f92 Tryd.prog h0 .ret ⟨#[Aa,Ab,Ac,Ad,Ae,Af,Ag,Ah,Ai,Aj,Ak,Al,An,Ao,Ap,Aq,Ar,As,Au], h⟩ = fin h0 (some Ae) h := by kernel_rfl
end Go.Am
namespace Go.Am
open Go.Proofs
set_option maxRecDepth 100000
variable (Aa Ab Ac Ad Ae Af Ag Ah Ai Aj Ak Al An Ao Ap Aq Ar As Au Av Aw Ax Ay Az Ba : Value)
noncomputable def c66_0 : Code := bodyC Tryd.f66 []
noncomputable def c66_1 : Code := bodyC Tryd.f66 [true, true, false, true, false, false]
noncomputable def c66_2 : Code := bodyC Tryd.f66 [true, true, true]
theorem c66_0_eq {β : Type} (h : Heap) (k : Ex → St → Option β) : codeK Tryd.prog (evC Tryd.prog) loopL c66_0 ⟨#[Aa,Ab,Ac,Ad,Ae,Af,Ag,Ah,Ai,Aj,Ak,Al,An,Ao,Ap,Aq,Ar,As,Au,Av,Aw,Ax,Ay,Az,Ba], h⟩ k =
obH (boxV Tryd.prog 89 Aa h) fun t1_0 h1 =>
obH (allocV Tryd.prog 89 h1) fun t2_2 h3 =>
(fieldAddrV Tryd.prog 89 t1_0 0).bind fun t6_4 =>
(loadV Tryd.prog 3 t6_4 h3).bind fun t7_5 =>
(buildV Tryd.prog 89 #[(0, t7_5)]).bind fun t8_6 =>
obH (allocV Tryd.prog 89 h3) fun t3_7 h8 =>
(storeV Tryd.prog 89 t3_7 t8_6 h8).bind fun h9 =>
(fieldAddrV Tryd.prog 89 t1_0 1).bind fun t9_10 =>
(loadV Tryd.prog 87 t9_10 h9).bind fun t10_11 =>
(lenV Tryd.prog 87 t10_11 h9).bind fun t11_12 =>
loopK Tryd.prog (evC Tryd.prog) c66_1 ⟨#[Aa, t1_0, t2_2, t3_7,Ae,Af, t6_4, t7_5, t8_6, t9_10, t10_11, t11_12, (Go.Value.int Go.IntKind.i64 0),Ao,Ap,Aq,Ar,As,Au,Av,Aw,Ax,Ay,Az,Ba], h9⟩ (blockK 0 (seqK Tryd.prog (evC Tryd.prog) c66_2 k)) := by kernel_rfl
theorem c66_1_eq {β : Type} (h : Heap) (k : Ex → St → Option β) : codeK Tryd.prog (evC Tryd.prog) loopL c66_1 ⟨#[Aa,Ab,Ac,Ad,Ae,Af,Ag,Ah,Ai,Aj,Ak,Al,An,Ao,Ap,Aq,Ar,As,Au,Av,Aw,Ax,Ay,Az,Ba], h⟩ k =
(binV Tryd.prog .lss 3 (.tmp 12) (.tmp 11) An Al).bind fun t13_13 =>
cnd t13_13 (
(indexAddrV Tryd.prog 87 Ak An).bind fun t14_14 =>
(loadV Tryd.prog 73 t14_14 h).bind fun t15_15 =>
(fieldAddrV Tryd.prog 89 Ad 1).bind fun t16_16 =>
(loadV Tryd.prog 87 t16_16 h).bind fun t17_17 =>
obH (evC Tryd.prog 53 #[t15_15] (nm h)) fun t19_18 h19 =>
obH (buildSliceV Tryd.prog 87 1 #[(0, t19_18)] (am h19 h)) fun t20_20 h21 =>
obH (appendV Tryd.prog 87 (some 87) t17_17 t20_20 h21) fun t21_22 h23 =>
(fieldAddrV Tryd.prog 89 Ad 1).bind fun t22_24 =>
(storeV Tryd.prog 87 t22_24 t21_22 h23).bind fun h25 =>
chk ((rb t16_16) ++ []) (h19.mods ++ []) (
(binV Tryd.prog .add 3 (.tmp 12) (.const (Go.Value.int Go.IntKind.i64 1)) An (Go.Value.int Go.IntKind.i64 1)).bind fun t23_26 =>
k .normal ⟨#[Aa,Ab,Ac,Ad,Ae, t15_15,Ag,Ah,Ai,Aj,Ak,Al, t23_26, t13_13, t14_14, t15_15, t16_16, t17_17, t15_15, t19_18, t20_20, t21_22, t22_24, t23_26,Ba], h25⟩)) (
k (.exit 0) ⟨#[Aa,Ab,Ac,Ad,Ae,Af,Ag,Ah,Ai,Aj,Ak,Al,An, t13_13,Ap,Aq,Ar,As,Au,Av,Aw,Ax,Ay,Az,Ba], h⟩) := by kernel_rfl
theorem c66_2_eq {β : Type} (h : Heap) (k : Ex → St → Option β) : codeK Tryd.prog (evC Tryd.prog) loopL c66_2 ⟨#[Aa,Ab,Ac,Ad,Ae,Af,Ag,Ah,Ai,Aj,Ak,Al,An,Ao,Ap,Aq,Ar,As,Au,Av,Aw,Ax,Ay,Az,Ba], h⟩ k =
(loadV Tryd.prog 89 Ad h).bind fun t24_27 =>
(storeV Tryd.prog 89 Ac t24_27 h).bind fun h28 =>
k .ret ⟨#[Aa,Ab,Ac,Ad,Ae,Af,Ag,Ah,Ai,Aj,Ak,Al,An,Ao,Ap,Aq,Ar,As,Au,Av,Aw,Ax,Ay,Az, t24_27], h28⟩ := by kernel_rfl
theorem call66 (h : Heap) : evC Tryd.prog 66 #[Aa] h = codeK Tryd.prog (evC Tryd.prog) loopL c66_0 ⟨#[Aa, undef, undef, undef, undef, undef, undef, undef, undef, undef, undef, undef, undef, undef, undef, undef, undef, undef, undef, undef, undef, undef, undef, undef, undef], nm h⟩ (retK Tryd.f66 Tryd.prog h) :=
  (evC_call 66 Tryd.f66 c66_0 Tryd.func66 (by kernel_rfl) #[Aa] h).trans (by kernel_rfl)
theorem ret66 (h0 h : Heap) : retK Tryd.f66 Tryd.prog h0 .ret ⟨#[Aa,Ab,Ac,Ad,Ae,Af,Ag,Ah,Ai,Aj,Ak,Al,An,Ao,Ap,Aq,Ar,As,Au,Av,Aw,Ax,Ay,Az,Ba], h⟩ = fin h0 (rvals ((loadV Tryd.prog 89 Ac h).bind fun r0 => some [r0])) h := by kernel_rfl
end Go.Am
namespace Go.Am
open Go.Proofs
set_option maxRecDepth 100000
variable (Aa Ab Ac Ad Ae Af Ag Ah Ai Aj Ak Al An Ao Ap Aq Ar As Au Av Aw Ax Ay Az Ba Bb Bc Bd Be Bf Bg Bh Bi Bj Bk Bl Bm Bn Bo Bp Bq Br Bs Bt Bu Bv Bw Bx By Bz Ca Cb Cc Cd Ce Cf : Value)
noncomputable def c43_0 : Code := bodyC Tryd.f43 []
noncomputable def c43_1 : Code := bodyC Tryd.f43 [true, true, true, false, true, false, false]
noncomputable def c43_2 : Code := bodyC Tryd.f43 [true, true, true, true]
theorem c43_0_eq {β : Type} (h : Heap) (k : Ex → St → Option β) : codeK Tryd.prog (evC Tryd.prog) loopL c43_0 ⟨#[Aa,Ab,Ac,Ad,Ae,Af,Ag,Ah,Ai,Aj,Ak,Al,An,Ao,Ap,Aq,Ar,As,Au,Av,Aw,Ax,Ay,Az,Ba,Bb,Bc,Bd,Be,Bf,Bg,Bh,Bi,Bj,Bk,Bl,Bm,Bn,Bo,Bp,Bq,Br,Bs,Bt,Bu,Bv,Bw,Bx,By,Bz,Ca,Cb,Cc,Cd,Ce,Cf], h⟩ k =
obH (boxV Tryd.prog 89 Aa h) fun t3_0 h1 =>
obH (allocV Tryd.prog 89 h1) fun t6_2 h3 =>
(loadV Tryd.prog 89 t3_0 h3).bind fun t10_4 =>
obH (evC Tryd.prog 66 #[t10_4] h3) fun t11_5 h6 =>
obH (allocV Tryd.prog 89 h6) fun t7_7 h8 =>
(storeV Tryd.prog 89 t7_7 t11_5 h8).bind fun h9 =>
(loadV Tryd.prog 89 t3_0 h9).bind fun t12_10 =>
obH (evC Tryd.prog 65 #[t12_10] h9) fun t13_11 h12 =>
(unV Tryd.prog .not t13_11).bind fun t14_13 =>
(gd (wt t14_13 false) (binV Tryd.prog .lss 3 (.tmp 16) (.const (Go.Value.int Go.IntKind.i64 0)) (gdV (wt t14_13 false) Ab) (Go.Value.int Go.IntKind.i64 0))).bind fun t17_14 =>
(pickV t14_13 (Go.Value.bool Bool.true) t17_14).bind fun t18_15 =>
(gd (wt t18_15 false) (fieldAddrV Tryd.prog 89 t3_0 0)).bind fun t21_16 =>
(gd (wt t18_15 false) (loadV Tryd.prog 3 t21_16 h12)).bind fun t22_17 =>
(gd (wt t18_15 false) (binV Tryd.prog .geq 3 (.tmp 20) (.tmp 22) (gdV (wt t18_15 false) Ab) t22_17)).bind fun t23_18 =>
(pickV t18_15 (Go.Value.bool Bool.true) t23_18).bind fun t24_19 =>
cnd t24_19 (
(loadV Tryd.prog 89 t7_7 h12).bind fun t25_20 =>
(storeV Tryd.prog 89 t6_2 t25_20 h12).bind fun h21 =>
k .ret ⟨#[Aa,Ab,Ac, t3_0,Ae,Af, t6_2, t7_7,Ai,Aj, t10_4, t11_5, t12_10, t13_11, t14_13, t14_13, (gdV (wt t14_13 false) Ab), t17_14, t18_15, t18_15, (gdV (wt t18_15 false) Ab), t21_16, t22_17, t23_18, t24_19, t25_20,Bc,Bd,Be,Bf,Bg,Bh,Bi,Bj,Bk,Bl,Bm,Bn,Bo,Bp,Bq,Br,Bs,Bt,Bu,Bv,Bw,Bx,By,Bz,Ca,Cb,Cc,Cd,Ce,Cf], h21⟩) (
(fieldAddrV Tryd.prog 89 t7_7 1).bind fun t26_22 =>
(loadV Tryd.prog 87 t26_22 h12).bind fun t27_23 =>
(indexAddrV Tryd.prog 87 t27_23 Ab).bind fun t29_24 =>
(loadV Tryd.prog 73 t29_24 h12).bind fun t30_25 =>
(lenV Tryd.prog 73 t30_25 h12).bind fun t31_26 =>
loopK Tryd.prog (evC Tryd.prog) c43_1 ⟨#[Aa,Ab,Ac, t3_0,Ae,Af, t6_2, t7_7,Ai,Aj, t10_4, t11_5, t12_10, t13_11, t14_13, t14_13, (gdV (wt t14_13 false) Ab), t17_14, t18_15, t18_15, (gdV (wt t18_15 false) Ab), t21_16, t22_17, t23_18, t24_19,Bb, t26_22, t27_23,Ab, t29_24, t30_25, t31_26, (Go.Value.int Go.IntKind.i64 0),Bj,Bk,Bl,Bm,Bn,Bo,Bp,Bq,Br,Bs,Bt,Bu,Bv,Bw,Bx,By,Bz,Ca,Cb,Cc,Cd,Ce,Cf], h12⟩ (blockK 0 (seqK Tryd.prog (evC Tryd.prog) c43_2 k))) := by kernel_rfl
theorem c43_1_eq {β : Type} (h : Heap) (k : Ex → St → Option β) : codeK Tryd.prog (evC Tryd.prog) loopL c43_1 ⟨#[Aa,Ab,Ac,Ad,Ae,Af,Ag,Ah,Ai,Aj,Ak,Al,An,Ao,Ap,Aq,Ar,As,Au,Av,Aw,Ax,Ay,Az,Ba,Bb,Bc,Bd,Be,Bf,Bg,Bh,Bi,Bj,Bk,Bl,Bm,Bn,Bo,Bp,Bq,Br,Bs,Bt,Bu,Bv,Bw,Bx,By,Bz,Ca,Cb,Cc,Cd,Ce,Cf], h⟩ k =
(binV Tryd.prog .lss 3 (.tmp 32) (.tmp 31) Bi Bh).bind fun t33_27 =>
cnd t33_27 (
(indexAddrV Tryd.prog 73 Bg Bi).bind fun t35_28 =>
(loadV Tryd.prog 23 t35_28 h).bind fun t36_29 =>
obH (evC Tryd.prog 25 #[Ac,Bi] h) fun t39_30 h31 =>
(gd (wt t39_30 true) (binV Tryd.prog .lss 23 (.tmp 41) (.const (Go.Value.int Go.IntKind.u64 18446744073709551615)) (gdV (wt t39_30 true) t36_29) (Go.Value.int Go.IntKind.u64 18446744073709551615))).bind fun t42_32 =>
(pickV t39_30 t42_32 (Go.Value.bool Bool.false)).bind fun t43_33 =>
cnd t43_33 (
(fieldAddrV Tryd.prog 89 Ah 1).bind fun t44_34 =>
(loadV Tryd.prog 87 t44_34 h31).bind fun t45_35 =>
(indexAddrV Tryd.prog 87 t45_35 Ab).bind fun t47_36 =>
(loadV Tryd.prog 73 t47_36 h31).bind fun t48_37 =>
(indexAddrV Tryd.prog 73 t48_37 Bi).bind fun t50_38 =>
(loadV Tryd.prog 23 t50_38 h31).bind fun t51_39 =>
(binV Tryd.prog .add 23 (.tmp 51) (.const (Go.Value.int Go.IntKind.u64 1)) t51_39 (Go.Value.int Go.IntKind.u64 1)).bind fun t52_40 =>
(indexAddrV Tryd.prog 73 t48_37 Bi).bind fun t53_41 =>
(storeV Tryd.prog 23 t53_41 t52_40 h31).bind fun h42 =>
(binV Tryd.prog .add 3 (.tmp 32) (.const (Go.Value.int Go.IntKind.i64 1)) Bi (Go.Value.int Go.IntKind.i64 1)).bind fun t54_43 =>
k .normal ⟨#[Aa,Ab,Ac,Ad,Ae,Af,Ag,Ah,Bi, t36_29,Ak,Al,An,Ao,Ap,Aq,Ar,As,Au,Av,Aw,Ax,Ay,Az,Ba,Bb,Bc,Bd,Be,Bf,Bg,Bh, t54_43, t33_27,Bi, t35_28, t36_29,Ac,Bi, t39_30, t39_30, (gdV (wt t39_30 true) t36_29), t42_32, t43_33, t44_34, t45_35,Ab, t47_36, t48_37,Bi, t50_38, t51_39, t52_40, t53_41, t54_43,Cf], h42⟩) (
(binV Tryd.prog .add 3 (.tmp 32) (.const (Go.Value.int Go.IntKind.i64 1)) Bi (Go.Value.int Go.IntKind.i64 1)).bind fun t54_44 =>
k .normal ⟨#[Aa,Ab,Ac,Ad,Ae,Af,Ag,Ah,Bi, t36_29,Ak,Al,An,Ao,Ap,Aq,Ar,As,Au,Av,Aw,Ax,Ay,Az,Ba,Bb,Bc,Bd,Be,Bf,Bg,Bh, t54_44, t33_27,Bi, t35_28, t36_29,Ac,Bi, t39_30, t39_30, (gdV (wt t39_30 true) t36_29), t42_32, t43_33,Bu,Bv,Bw,Bx,By,Bz,Ca,Cb,Cc,Cd, t54_44,Cf], h31⟩)) (
k (.exit 0) ⟨#[Aa,Ab,Ac,Ad,Ae,Af,Ag,Ah,Ai,Aj,Ak,Al,An,Ao,Ap,Aq,Ar,As,Au,Av,Aw,Ax,Ay,Az,Ba,Bb,Bc,Bd,Be,Bf,Bg,Bh,Bi, t33_27,Bk,Bl,Bm,Bn,Bo,Bp,Bq,Br,Bs,Bt,Bu,Bv,Bw,Bx,By,Bz,Ca,Cb,Cc,Cd,Ce,Cf], h⟩) := by kernel_rfl
theorem c43_2_eq {β : Type} (h : Heap) (k : Ex → St → Option β) : codeK Tryd.prog (evC Tryd.prog) loopL c43_2 ⟨#[Aa,Ab,Ac,Ad,Ae,Af,Ag,Ah,Ai,Aj,Ak,Al,An,Ao,Ap,Aq,Ar,As,Au,Av,Aw,Ax,Ay,Az,Ba,Bb,Bc,Bd,Be,Bf,Bg,Bh,Bi,Bj,Bk,Bl,Bm,Bn,Bo,Bp,Bq,Br,Bs,Bt,Bu,Bv,Bw,Bx,By,Bz,Ca,Cb,Cc,Cd,Ce,Cf], h⟩ k =
(loadV Tryd.prog 89 Ah h).bind fun t55_45 =>
(storeV Tryd.prog 89 Ag t55_45 h).bind fun h46 =>
k .ret ⟨#[Aa,Ab,Ac,Ad,Ae,Af,Ag,Ah,Ai,Aj,Ak,Al,An,Ao,Ap,Aq,Ar,As,Au,Av,Aw,Ax,Ay,Az,Ba,Bb,Bc,Bd,Be,Bf,Bg,Bh,Bi,Bj,Bk,Bl,Bm,Bn,Bo,Bp,Bq,Br,Bs,Bt,Bu,Bv,Bw,Bx,By,Bz,Ca,Cb,Cc,Cd,Ce, t55_45], h46⟩ := by kernel_rfl
theorem call43 (h : Heap) : evC Tryd.prog 43 #[Aa,Ab,Ac] h = codeK Tryd.prog (evC Tryd.prog) loopL c43_0 ⟨#[Aa,Ab,Ac, undef, undef, undef, undef, undef, undef, undef, undef, undef, undef, undef, undef, undef, undef, undef, undef, undef, undef, undef, undef, undef, undef, undef, undef, undef, undef, undef, undef, undef, undef, undef, undef, undef, undef, undef, undef, undef, undef, undef, undef, undef, undef, undef, undef, undef, undef, undef, undef, undef, undef, undef, undef, undef], nm h⟩ (retK Tryd.f43 Tryd.prog h) :=
  (evC_call 43 Tryd.f43 c43_0 Tryd.func43 (by kernel_rfl) #[Aa,Ab,Ac] h).trans (by kernel_rfl)
theorem ret43 (h0 h : Heap) : retK Tryd.f43 Tryd.prog h0 .ret ⟨#[Aa,Ab,Ac,Ad,Ae,Af,Ag,Ah,Ai,Aj,Ak,Al,An,Ao,Ap,Aq,Ar,As,Au,Av,Aw,Ax,Ay,Az,Ba,Bb,Bc,Bd,Be,Bf,Bg,Bh,Bi,Bj,Bk,Bl,Bm,Bn,Bo,Bp,Bq,Br,Bs,Bt,Bu,Bv,Bw,Bx,By,Bz,Ca,Cb,Cc,Cd,Ce,Cf], h⟩ = fin h0 (rvals ((loadV Tryd.prog 89 Ag h).bind fun r0 => some [r0])) h := by kernel_rfl
end Go.Am
namespace Go.Am
open Go.Proofs
set_option maxRecDepth 100000
variable (Aa Ab Ac Ad Ae Af Ag Ah Ai Aj Ak Al An Ao Ap Aq Ar As Au Av Aw Ax Ay Az Ba Bb Bc Bd Be Bf Bg Bh Bi Bj Bk Bl Bm : Value)
noncomputable def c45_0 : Code := bodyC Tryd.f45 []
noncomputable def c45_1 : Code := bodyC Tryd.f45 [true, true, true, false, true, false, false]
noncomputable def c45_2 : Code := bodyC Tryd.f45 [true, true, true, true]
theorem c45_0_eq {β : Type} (h : Heap) (k : Ex → St → Option β) : codeK Tryd.prog (evC Tryd.prog) loopL c45_0 ⟨#[Aa,Ab,Ac,Ad,Ae,Af,Ag,Ah,Ai,Aj,Ak,Al,An,Ao,Ap,Aq,Ar,As,Au,Av,Aw,Ax,Ay,Az,Ba,Bb,Bc,Bd,Be,Bf,Bg,Bh,Bi,Bj,Bk,Bl,Bm], h⟩ k =
obH (boxV Tryd.prog 89 Aa h) fun t2_0 h1 =>
(loadV Tryd.prog 89 t2_0 h1).bind fun t8_2 =>
obH (evC Tryd.prog 65 #[t8_2] h1) fun t9_3 h4 =>
(unV Tryd.prog .not t9_3).bind fun t10_5 =>
(gd (wt t10_5 false) (binV Tryd.prog .lss 3 (.tmp 12) (.const (Go.Value.int Go.IntKind.i64 0)) (gdV (wt t10_5 false) Ab) (Go.Value.int Go.IntKind.i64 0))).bind fun t13_6 =>
(pickV t10_5 (Go.Value.bool Bool.true) t13_6).bind fun t14_7 =>
(gd (wt t14_7 false) (fieldAddrV Tryd.prog 89 t2_0 0)).bind fun t17_8 =>
(gd (wt t14_7 false) (loadV Tryd.prog 3 t17_8 h4)).bind fun t18_9 =>
(gd (wt t14_7 false) (binV Tryd.prog .geq 3 (.tmp 16) (.tmp 18) (gdV (wt t14_7 false) Ab) t18_9)).bind fun t19_10 =>
(pickV t14_7 (Go.Value.bool Bool.true) t19_10).bind fun t20_11 =>
cnd t20_11 (
k .ret ⟨#[Aa,Ab, t2_0,Ad, (Go.Value.slice Option.none 0 0),Af,Ag,Ah, t8_2, t9_3, t10_5, t10_5, (gdV (wt t10_5 false) Ab), t13_6, t14_7, t14_7, (gdV (wt t14_7 false) Ab), t17_8, t18_9, t19_10, t20_11,Ax,Ay,Az,Ba,Bb,Bc,Bd,Be,Bf,Bg,Bh,Bi,Bj,Bk,Bl,Bm], h4⟩) (
(fieldAddrV Tryd.prog 89 t2_0 1).bind fun t21_12 =>
(loadV Tryd.prog 87 t21_12 h4).bind fun t22_13 =>
(lenV Tryd.prog 87 t22_13 h4).bind fun t23_14 =>
loopK Tryd.prog (evC Tryd.prog) c45_1 ⟨#[Aa,Ab, t2_0,Ad, (Go.Value.slice Option.none 0 0), (Go.Value.slice Option.none 0 0),Ag,Ah, t8_2, t9_3, t10_5, t10_5, (gdV (wt t10_5 false) Ab), t13_6, t14_7, t14_7, (gdV (wt t14_7 false) Ab), t17_8, t18_9, t19_10, t20_11, t21_12, t22_13, t23_14, (Go.Value.int Go.IntKind.i64 0),Bb,Bc,Bd,Be,Bf,Bg,Bh,Bi,Bj,Bk,Bl,Bm], h4⟩ (blockK 0 (seqK Tryd.prog (evC Tryd.prog) c45_2 k))) := by kernel_rfl
theorem c45_1_eq {β : Type} (h : Heap) (k : Ex → St → Option β) : codeK Tryd.prog (evC Tryd.prog) loopL c45_1 ⟨#[Aa,Ab,Ac,Ad,Ae,Af,Ag,Ah,Ai,Aj,Ak,Al,An,Ao,Ap,Aq,Ar,As,Au,Av,Aw,Ax,Ay,Az,Ba,Bb,Bc,Bd,Be,Bf,Bg,Bh,Bi,Bj,Bk,Bl,Bm], h⟩ k =
(binV Tryd.prog .lss 3 (.tmp 24) (.tmp 23) Ba Az).bind fun t25_15 =>
cnd t25_15 (
(indexAddrV Tryd.prog 87 Ay Ba).bind fun t26_16 =>
(loadV Tryd.prog 73 t26_16 h).bind fun t27_17 =>
(indexAddrV Tryd.prog 73 t27_17 Ab).bind fun t31_18 =>
(loadV Tryd.prog 23 t31_18 h).bind fun t32_19 =>
obH (buildSliceV Tryd.prog 73 1 #[(0, t32_19)] h) fun t33_20 h21 =>
obH (appendV Tryd.prog 73 (some 73) Af t33_20 h21) fun t34_22 h23 =>
(binV Tryd.prog .add 3 (.tmp 24) (.const (Go.Value.int Go.IntKind.i64 1)) Ba (Go.Value.int Go.IntKind.i64 1)).bind fun t35_24 =>
k .normal ⟨#[Aa,Ab,Ac,Ad,Ae, t34_22,Ag, t27_17,Ai,Aj,Ak,Al,An,Ao,Ap,Aq,Ar,As,Au,Av,Aw,Ax,Ay,Az, t35_24, t25_15, t26_16, t27_17,Af, t27_17,Ab, t31_18, t32_19, t33_20, t34_22, t35_24,Bm], h23⟩) (
k (.exit 0) ⟨#[Aa,Ab,Ac,Ad,Ae,Af,Ag,Ah,Ai,Aj,Ak,Al,An,Ao,Ap,Aq,Ar,As,Au,Av,Aw,Ax,Ay,Az,Ba, t25_15,Bc,Bd,Be,Bf,Bg,Bh,Bi,Bj,Bk,Bl,Bm], h⟩) := by kernel_rfl
theorem c45_2_eq {β : Type} (h : Heap) (k : Ex → St → Option β) : codeK Tryd.prog (evC Tryd.prog) loopL c45_2 ⟨#[Aa,Ab,Ac,Ad,Ae,Af,Ag,Ah,Ai,Aj,Ak,Al,An,Ao,Ap,Aq,Ar,As,Au,Av,Aw,Ax,Ay,Az,Ba,Bb,Bc,Bd,Be,Bf,Bg,Bh,Bi,Bj,Bk,Bl,Bm], h⟩ k =
k .ret ⟨#[Aa,Ab,Ac,Ad,Af,Af,Ag,Ah,Ai,Aj,Ak,Al,An,Ao,Ap,Aq,Ar,As,Au,Av,Aw,Ax,Ay,Az,Ba,Bb,Bc,Bd,Be,Bf,Bg,Bh,Bi,Bj,Bk,Bl,Af], h⟩ := by kernel_rfl
theorem call45 (h : Heap) : evC Tryd.prog 45 #[Aa,Ab] h = codeK Tryd.prog (evC Tryd.prog) loopL c45_0 ⟨#[Aa,Ab, undef, undef, undef, undef, undef, undef, undef, undef, undef, undef, undef, undef, undef, undef, undef, undef, undef, undef, undef, undef, undef, undef, undef, undef, undef, undef, undef, undef, undef, undef, undef, undef, undef, undef, undef], nm h⟩ (retK Tryd.f45 Tryd.prog h) :=
  (evC_call 45 Tryd.f45 c45_0 Tryd.func45 (by kernel_rfl) #[Aa,Ab] h).trans (by kernel_rfl)
theorem ret45 (h0 h : Heap) : retK Tryd.f45 Tryd.prog h0 .ret ⟨#[Aa,Ab,Ac,Ad,Ae,Af,Ag,Ah,Ai,Aj,Ak,Al,An,Ao,Ap,Aq,Ar,As,Au,Av,Aw,Ax,Ay,Az,Ba,Bb,Bc,Bd,Be,Bf,Bg,Bh,Bi,Bj,Bk,Bl,Bm], h⟩ = fin h0 (some Ae) h := by kernel_rfl
end Go.Am
namespace Go.Am
open Go.Proofs
set_option maxRecDepth 100000
variable (Aa Ab Ac Ad Ae Af Ag Ah Ai Aj Ak Al An Ao Ap Aq Ar As Au Av Aw Ax Ay Az Ba Bb Bc Bd Be Bf Bg Bh : Value)
noncomputable def c42_0 : Code := bodyC Tryd.f42 []
noncomputable def c42_1 : Code := bodyC Tryd.f42 [true, true, true, false, true, false, false]
noncomputable def c42_2 : Code := bodyC Tryd.f42 [true, true, true, true]
noncomputable def c42_3 : Code := bodyC Tryd.f42 [true, true, true, false, true, false, false, true, true, false, false, true, true, false, false]
noncomputable def c42_4 : Code := bodyC Tryd.f42 [true, true, true, false, true, false, false, true, true, true]
theorem c42_0_eq {β : Type} (h : Heap) (k : Ex → St → Option β) : codeK Tryd.prog (evC Tryd.prog) loopL c42_0 ⟨#[Aa,Ab,Ac,Ad,Ae,Af,Ag,Ah,Ai,Aj,Ak,Al,An,Ao,Ap,Aq,Ar,As,Au,Av,Aw,Ax,Ay,Az,Ba,Bb,Bc,Bd,Be,Bf,Bg,Bh], h⟩ k =
obH (boxV Tryd.prog 89 Aa h) fun t1_0 h1 =>
(loadV Tryd.prog 89 t1_0 h1).bind fun t8_2 =>
obH (evC Tryd.prog 65 #[t8_2] h1) fun t9_3 h4 =>
(unV Tryd.prog .not t9_3).bind fun t10_5 =>
cnd t10_5 (
k .ret ⟨#[Aa, t1_0, (Go.Value.slice Option.none 0 0),Ad,Ae,Af,Ag,Ah, t8_2, t9_3, t10_5,Al,An,Ao,Ap,Aq,Ar,As,Au,Av,Aw,Ax,Ay,Az,Ba,Bb,Bc,Bd,Be,Bf,Bg,Bh], h4⟩) (
obH (evC Tryd.prog 56 #[] h4) fun t11_6 h7 =>
(fieldAddrV Tryd.prog 89 t1_0 1).bind fun t12_8 =>
(loadV Tryd.prog 87 t12_8 h7).bind fun t13_9 =>
(lenV Tryd.prog 87 t13_9 h7).bind fun t14_10 =>
loopK Tryd.prog (evC Tryd.prog) c42_1 ⟨#[Aa, t1_0, (Go.Value.slice Option.none 0 0), t11_6,Ae,Af,Ag,Ah, t8_2, t9_3, t10_5, t11_6, t12_8, t13_9, t14_10, (Go.Value.int Go.IntKind.i64 0),Ar,As,Au,Av,Aw,Ax,Ay,Az,Ba,Bb,Bc,Bd,Be,Bf,Bg,Bh], h7⟩ (blockK 0 (seqK Tryd.prog (evC Tryd.prog) c42_2 k))) := by kernel_rfl
theorem c42_1_eq {β : Type} (h : Heap) (k : Ex → St → Option β) : codeK Tryd.prog (evC Tryd.prog) loopL c42_1 ⟨#[Aa,Ab,Ac,Ad,Ae,Af,Ag,Ah,Ai,Aj,Ak,Al,An,Ao,Ap,Aq,Ar,As,Au,Av,Aw,Ax,Ay,Az,Ba,Bb,Bc,Bd,Be,Bf,Bg,Bh], h⟩ k =
(binV Tryd.prog .lss 3 (.tmp 15) (.tmp 14) Aq Ap).bind fun t16_11 =>
cnd t16_11 (
(indexAddrV Tryd.prog 87 Ao Aq).bind fun t17_12 =>
(loadV Tryd.prog 73 t17_12 h).bind fun t18_13 =>
(lenV Tryd.prog 73 t18_13 h).bind fun t20_14 =>
loopK Tryd.prog (evC Tryd.prog) c42_3 ⟨#[Aa,Ab,Ac,Ad,Ae, t18_13,Ag,Ah,Ai,Aj,Ak,Al,An,Ao,Ap,Aq, t16_11, t17_12, t18_13, t18_13, t20_14, (Go.Value.int Go.IntKind.i64 0),Ay,Az,Ba,Bb,Bc,Bd,Be,Bf,Bg,Bh], h⟩ (blockK 2 (blockK 1 (seqK Tryd.prog (evC Tryd.prog) c42_4 k)))) (
k (.exit 0) ⟨#[Aa,Ab,Ac,Ad,Ae,Af,Ag,Ah,Ai,Aj,Ak,Al,An,Ao,Ap,Aq, t16_11,As,Au,Av,Aw,Ax,Ay,Az,Ba,Bb,Bc,Bd,Be,Bf,Bg,Bh], h⟩) := by kernel_rfl
theorem c42_2_eq {β : Type} (h : Heap) (k : Ex → St → Option β) : codeK Tryd.prog (evC Tryd.prog) loopL c42_2 ⟨#[Aa,Ab,Ac,Ad,Ae,Af,Ag,Ah,Ai,Aj,Ak,Al,An,Ao,Ap,Aq,Ar,As,Au,Av,Aw,Ax,Ay,Az,Ba,Bb,Bc,Bd,Be,Bf,Bg,Bh], h⟩ k =
obH (evC Tryd.prog 59 #[Ad] h) fun t31_15 h16 =>
k .ret ⟨#[Aa,Ab, t31_15,Ad,Ae,Af,Ag,Ah,Ai,Aj,Ak,Al,An,Ao,Ap,Aq,Ar,As,Au,Av,Aw,Ax,Ay,Az,Ba,Bb,Bc,Bd,Be,Bf,Ad, t31_15], h16⟩ := by kernel_rfl
theorem c42_3_eq {β : Type} (h : Heap) (k : Ex → St → Option β) : codeK Tryd.prog (evC Tryd.prog) loopL c42_3 ⟨#[Aa,Ab,Ac,Ad,Ae,Af,Ag,Ah,Ai,Aj,Ak,Al,An,Ao,Ap,Aq,Ar,As,Au,Av,Aw,Ax,Ay,Az,Ba,Bb,Bc,Bd,Be,Bf,Bg,Bh], h⟩ k =
(binV Tryd.prog .lss 3 (.tmp 21) (.tmp 20) Ax Aw).bind fun t22_17 =>
cnd t22_17 (
(indexAddrV Tryd.prog 73 Av Ax).bind fun t23_18 =>
(loadV Tryd.prog 23 t23_18 h).bind fun t24_19 =>
obH (evC Tryd.prog 57 #[Ad, t24_19] h) fun t27_20 h21 =>
(binV Tryd.prog .add 3 (.tmp 21) (.const (Go.Value.int Go.IntKind.i64 1)) Ax (Go.Value.int Go.IntKind.i64 1)).bind fun t28_22 =>
k .normal ⟨#[Aa,Ab,Ac,Ad,Ae,Af,Ag, t24_19,Ai,Aj,Ak,Al,An,Ao,Ap,Aq,Ar,As,Au,Av,Aw, t28_22, t22_17, t23_18, t24_19,Ad, t24_19, t27_20, t28_22,Bf,Bg,Bh], h21⟩) (
k (.exit 2) ⟨#[Aa,Ab,Ac,Ad,Ae,Af,Ag,Ah,Ai,Aj,Ak,Al,An,Ao,Ap,Aq,Ar,As,Au,Av,Aw,Ax, t22_17,Az,Ba,Bb,Bc,Bd,Be,Bf,Bg,Bh], h⟩) := by kernel_rfl
theorem c42_4_eq {β : Type} (h : Heap) (k : Ex → St → Option β) : codeK Tryd.prog (evC Tryd.prog) loopL c42_4 ⟨#[Aa,Ab,Ac,Ad,Ae,Af,Ag,Ah,Ai,Aj,Ak,Al,An,Ao,Ap,Aq,Ar,As,Au,Av,Aw,Ax,Ay,Az,Ba,Bb,Bc,Bd,Be,Bf,Bg,Bh], h⟩ k =
(binV Tryd.prog .add 3 (.tmp 15) (.const (Go.Value.int Go.IntKind.i64 1)) Aq (Go.Value.int Go.IntKind.i64 1)).bind fun t29_23 =>
k .normal ⟨#[Aa,Ab,Ac,Ad,Ae,Af,Ag,Ah,Ai,Aj,Ak,Al,An,Ao,Ap, t29_23,Ar,As,Au,Av,Aw,Ax,Ay,Az,Ba,Bb,Bc,Bd,Be, t29_23,Bg,Bh], h⟩ := by kernel_rfl
theorem call42 (h : Heap) : evC Tryd.prog 42 #[Aa] h = codeK Tryd.prog (evC Tryd.prog) loopL c42_0 ⟨#[Aa, undef, undef, undef, undef, undef, undef, undef, undef, undef, undef, undef, undef, undef, undef, undef, undef, undef, undef, undef, undef, undef, undef, undef, undef, undef, undef, undef, undef, undef, undef, undef], nm h⟩ (retK Tryd.f42 Tryd.prog h) :=
  (evC_call 42 Tryd.f42 c42_0 Tryd.func42 (by kernel_rfl) #[Aa] h).trans (by kernel_rfl)
theorem ret42 (h0 h : Heap) : retK Tryd.f42 Tryd.prog h0 .ret ⟨#[Aa,Ab,Ac,Ad,Ae,Af,Ag,Ah,Ai,Aj,Ak,Al,An,Ao,Ap,Aq,Ar,As,Au,Av,Aw,Ax,Ay,Az,Ba,Bb,Bc,Bd,Be,Bf,Bg,Bh], h⟩ = fin h0 (some Ac) h := by kernel_rfl
end Go.Am
namespace Go.Am
open Go.Proofs
set_option maxRecDepth 100000
variable (Aa Ab Ac Ad Ae Af Ag Ah Ai Aj Ak Al An Ao Ap Aq Ar As Au Av Aw Ax Ay Az Ba Bb Bc Bd Be Bf Bg Bh Bi Bj Bk Bl Bm Bn Bo Bp Bq Br Bs Bt Bu Bv : Value)
noncomputable def c44_0 : Code := bodyC Tryd.f44 []
noncomputable def c44_1 : Code := bodyC Tryd.f44 [true, true, true, true, false, true, false, false]
noncomputable def c44_2 : Code := bodyC Tryd.f44 [true, true, true, true, true]
noncomputable def c44_3 : Code := bodyC Tryd.f44 [true, true, true, true, false, true, false, false, true, true, false, false, true, true, false, false]
noncomputable def c44_4 : Code := bodyC Tryd.f44 [true, true, true, true, false, true, false, false, true, true, true]
theorem c44_0_eq {β : Type} (h : Heap) (k : Ex → St → Option β) : codeK Tryd.prog (evC Tryd.prog) loopL c44_0 ⟨#[Aa,Ab,Ac,Ad,Ae,Af,Ag,Ah,Ai,Aj,Ak,Al,An,Ao,Ap,Aq,Ar,As,Au,Av,Aw,Ax,Ay,Az,Ba,Bb,Bc,Bd,Be,Bf,Bg,Bh,Bi,Bj,Bk,Bl,Bm,Bn,Bo,Bp,Bq,Br,Bs,Bt,Bu,Bv], h⟩ k =
obH (allocV Tryd.prog 89 h) fun t4_0 h1 =>
obH (evC Tryd.prog 33 #[Aa] h1) fun t14_2 h3 =>
(extractV t14_2 0).bind fun t15_4 =>
(extractV t14_2 1).bind fun t16_5 =>
obH (allocV Tryd.prog 89 h3) fun t6_6 h7 =>
(storeV Tryd.prog 89 t6_6 t15_4 h7).bind fun h8 =>
(binV Tryd.prog .neq 27 (.tmp 17) (.const (Go.Value.int Go.IntKind.i64 0)) t16_5 (Go.Value.int Go.IntKind.i64 0)).bind fun t18_9 =>
cnd t18_9 (
(buildV Tryd.prog 89 #[]).bind fun t19_10 =>
(storeV Tryd.prog 89 t4_0 t19_10 h8).bind fun h11 =>
k .ret ⟨#[Aa,Ab,Ac,Ad, t4_0, (Go.Value.bool Bool.false), t6_6, t16_5,Ai,Aj,Ak,Al, t14_2,Aa, t14_2, t15_4, t16_5, t16_5, t18_9, t19_10,Aw,Ax,Ay,Az,Ba,Bb,Bc,Bd,Be,Bf,Bg,Bh,Bi,Bj,Bk,Bl,Bm,Bn,Bo,Bp,Bq,Br,Bs,Bt,Bu,Bv], h11⟩) (
obH (evC Tryd.prog 67 #[Ab] h8) fun t21_12 h13 =>
(fieldAddrV Tryd.prog 89 t6_6 1).bind fun t22_14 =>
(loadV Tryd.prog 87 t22_14 h13).bind fun t23_15 =>
(lenV Tryd.prog 87 t23_15 h13).bind fun t24_16 =>
loopK Tryd.prog (evC Tryd.prog) c44_1 ⟨#[Aa,Ab,Ac,Ad, t4_0, (Go.Value.bool Bool.false), t6_6, t16_5, t21_12,Aj,Ak,Al, t14_2,Aa, t14_2, t15_4, t16_5, t16_5, t18_9,Av,Ab, t21_12, t22_14, t23_15, t24_16, (Go.Value.int Go.IntKind.i64 0),Bc,Bd,Be,Bf,Bg,Bh,Bi,Bj,Bk,Bl,Bm,Bn,Bo,Bp,Bq,Br,Bs,Bt,Bu,Bv], h13⟩ (blockK 0 (seqK Tryd.prog (evC Tryd.prog) c44_2 k))) := by kernel_rfl
theorem c44_1_eq {β : Type} (h : Heap) (k : Ex → St → Option β) : codeK Tryd.prog (evC Tryd.prog) loopL c44_1 ⟨#[Aa,Ab,Ac,Ad,Ae,Af,Ag,Ah,Ai,Aj,Ak,Al,An,Ao,Ap,Aq,Ar,As,Au,Av,Aw,Ax,Ay,Az,Ba,Bb,Bc,Bd,Be,Bf,Bg,Bh,Bi,Bj,Bk,Bl,Bm,Bn,Bo,Bp,Bq,Br,Bs,Bt,Bu,Bv], h⟩ k =
(binV Tryd.prog .lss 3 (.tmp 25) (.tmp 24) Bb Ba).bind fun t26_17 =>
cnd t26_17 (
(indexAddrV Tryd.prog 87 Az Bb).bind fun t27_18 =>
(loadV Tryd.prog 73 t27_18 h).bind fun t28_19 =>
(lenV Tryd.prog 73 t28_19 h).bind fun t30_20 =>
loopK Tryd.prog (evC Tryd.prog) c44_3 ⟨#[Aa,Ab,Ac,Ad,Ae,Af,Ag,Ah,Ai,Aj, t28_19,Al,An,Ao,Ap,Aq,Ar,As,Au,Av,Aw,Ax,Ay,Az,Ba,Bb, t26_17, t27_18, t28_19, t28_19, t30_20, (Go.Value.int Go.IntKind.i64 0),Bi,Bj,Bk,Bl,Bm,Bn,Bo,Bp,Bq,Br,Bs,Bt,Bu,Bv], h⟩ (blockK 2 (blockK 1 (seqK Tryd.prog (evC Tryd.prog) c44_4 k)))) (
k (.exit 0) ⟨#[Aa,Ab,Ac,Ad,Ae,Af,Ag,Ah,Ai,Aj,Ak,Al,An,Ao,Ap,Aq,Ar,As,Au,Av,Aw,Ax,Ay,Az,Ba,Bb, t26_17,Bd,Be,Bf,Bg,Bh,Bi,Bj,Bk,Bl,Bm,Bn,Bo,Bp,Bq,Br,Bs,Bt,Bu,Bv], h⟩) := by kernel_rfl
theorem c44_2_eq {β : Type} (h : Heap) (k : Ex → St → Option β) : codeK Tryd.prog (evC Tryd.prog) loopL c44_2 ⟨#[Aa,Ab,Ac,Ad,Ae,Af,Ag,Ah,Ai,Aj,Ak,Al,An,Ao,Ap,Aq,Ar,As,Au,Av,Aw,Ax,Ay,Az,Ba,Bb,Bc,Bd,Be,Bf,Bg,Bh,Bi,Bj,Bk,Bl,Bm,Bn,Bo,Bp,Bq,Br,Bs,Bt,Bu,Bv], h⟩ k =
obH (evC Tryd.prog 69 #[Ai] h) fun t42_21 h22 =>
(unV Tryd.prog .not t42_21).bind fun t43_23 =>
cnd t43_23 (
(buildV Tryd.prog 89 #[]).bind fun t44_24 =>
(storeV Tryd.prog 89 Ae t44_24 h22).bind fun h25 =>
k .ret ⟨#[Aa,Ab,Ac,Ad,Ae, (Go.Value.bool Bool.false),Ag,Ah,Ai,Aj,Ak,Al,An,Ao,Ap,Aq,Ar,As,Au,Av,Aw,Ax,Ay,Az,Ba,Bb,Bc,Bd,Be,Bf,Bg,Bh,Bi,Bj,Bk,Bl,Bm,Bn,Bo,Bp,Bq,Ai, t42_21, t43_23, t44_24,Bv], h25⟩) (
(loadV Tryd.prog 89 Ag h22).bind fun t45_26 =>
(storeV Tryd.prog 89 Ae t45_26 h22).bind fun h27 =>
k .ret ⟨#[Aa,Ab,Ac,Ad,Ae, (Go.Value.bool Bool.true),Ag,Ah,Ai,Aj,Ak,Al,An,Ao,Ap,Aq,Ar,As,Au,Av,Aw,Ax,Ay,Az,Ba,Bb,Bc,Bd,Be,Bf,Bg,Bh,Bi,Bj,Bk,Bl,Bm,Bn,Bo,Bp,Bq,Ai, t42_21, t43_23,Bu, t45_26], h27⟩) := by kernel_rfl
theorem c44_3_eq {β : Type} (h : Heap) (k : Ex → St → Option β) : codeK Tryd.prog (evC Tryd.prog) loopL c44_3 ⟨#[Aa,Ab,Ac,Ad,Ae,Af,Ag,Ah,Ai,Aj,Ak,Al,An,Ao,Ap,Aq,Ar,As,Au,Av,Aw,Ax,Ay,Az,Ba,Bb,Bc,Bd,Be,Bf,Bg,Bh,Bi,Bj,Bk,Bl,Bm,Bn,Bo,Bp,Bq,Br,Bs,Bt,Bu,Bv], h⟩ k =
(binV Tryd.prog .lss 3 (.tmp 31) (.tmp 30) Bh Bg).bind fun t32_28 =>
cnd t32_28 (
obH (evC Tryd.prog 68 #[Ai, (Go.Value.int Go.IntKind.u64 18446744073709551615)] h) fun t37_29 h30 =>
(indexAddrV Tryd.prog 73 Ak Bh).bind fun t38_31 =>
(storeV Tryd.prog 23 t38_31 t37_29 h30).bind fun h32 =>
(binV Tryd.prog .add 3 (.tmp 31) (.const (Go.Value.int Go.IntKind.i64 1)) Bh (Go.Value.int Go.IntKind.i64 1)).bind fun t39_33 =>
k .normal ⟨#[Aa,Ab,Ac,Ad,Ae,Af,Ag,Ah,Ai,Aj,Ak,Bh,An,Ao,Ap,Aq,Ar,As,Au,Av,Aw,Ax,Ay,Az,Ba,Bb,Bc,Bd,Be,Bf,Bg, t39_33, t32_28,Bh,Ak,Bh,Ai, t37_29, t38_31, t39_33,Bq,Br,Bs,Bt,Bu,Bv], h32⟩) (
k (.exit 2) ⟨#[Aa,Ab,Ac,Ad,Ae,Af,Ag,Ah,Ai,Aj,Ak,Al,An,Ao,Ap,Aq,Ar,As,Au,Av,Aw,Ax,Ay,Az,Ba,Bb,Bc,Bd,Be,Bf,Bg,Bh, t32_28,Bj,Bk,Bl,Bm,Bn,Bo,Bp,Bq,Br,Bs,Bt,Bu,Bv], h⟩) := by kernel_rfl
theorem c44_4_eq {β : Type} (h : Heap) (k : Ex → St → Option β) : codeK Tryd.prog (evC Tryd.prog) loopL c44_4 ⟨#[Aa,Ab,Ac,Ad,Ae,Af,Ag,Ah,Ai,Aj,Ak,Al,An,Ao,Ap,Aq,Ar,As,Au,Av,Aw,Ax,Ay,Az,Ba,Bb,Bc,Bd,Be,Bf,Bg,Bh,Bi,Bj,Bk,Bl,Bm,Bn,Bo,Bp,Bq,Br,Bs,Bt,Bu,Bv], h⟩ k =
(binV Tryd.prog .add 3 (.tmp 25) (.const (Go.Value.int Go.IntKind.i64 1)) Bb (Go.Value.int Go.IntKind.i64 1)).bind fun t40_34 =>
k .normal ⟨#[Aa,Ab,Ac,Ad,Ae,Af,Ag,Ah,Ai,Aj,Ak,Al,An,Ao,Ap,Aq,Ar,As,Au,Av,Aw,Ax,Ay,Az,Ba, t40_34,Bc,Bd,Be,Bf,Bg,Bh,Bi,Bj,Bk,Bl,Bm,Bn,Bo,Bp, t40_34,Br,Bs,Bt,Bu,Bv], h⟩ := by kernel_rfl
theorem call44 (h : Heap) : evC Tryd.prog 44 #[Aa,Ab] h = codeK Tryd.prog (evC Tryd.prog) loopL c44_0 ⟨#[Aa,Ab, undef, undef, undef, undef, undef, undef, undef, undef, undef, undef, undef, undef, undef, undef, undef, undef, undef, undef, undef, undef, undef, undef, undef, undef, undef, undef, undef, undef, undef, undef, undef, undef, undef, undef, undef, undef, undef, undef, undef, undef, undef, undef, undef, undef], nm h⟩ (retK Tryd.f44 Tryd.prog h) :=
  (evC_call 44 Tryd.f44 c44_0 Tryd.func44 (by kernel_rfl) #[Aa,Ab] h).trans (by kernel_rfl)
theorem ret44 (h0 h : Heap) : retK Tryd.f44 Tryd.prog h0 .ret ⟨#[Aa,Ab,Ac,Ad,Ae,Af,Ag,Ah,Ai,Aj,Ak,Al,An,Ao,Ap,Aq,Ar,As,Au,Av,Aw,Ax,Ay,Az,Ba,Bb,Bc,Bd,Be,Bf,Bg,Bh,Bi,Bj,Bk,Bl,Bm,Bn,Bo,Bp,Bq,Br,Bs,Bt,Bu,Bv], h⟩ = fin h0 (rvals ((loadV Tryd.prog 89 Ae h).bind fun r0 => some [r0,Af])) h := by kernel_rfl
end Go.Am
namespace Go.Am
open Go.Proofs
set_option maxRecDepth 100000
variable (Aa Ab Ac Ad Ae : Value)
noncomputable def c41_0 : Code := bodyC Tryd.f41 []
theorem c41_0_eq {β : Type} (h : Heap) (k : Ex → St → Option β) : codeK Tryd.prog (evC Tryd.prog) loopL c41_0 ⟨#[Aa,Ab,Ac,Ad,Ae], h⟩ k =
obH (evC Tryd.prog 64 #[Aa] h) fun t4_0 h1 =>
k .ret ⟨#[Aa,Ab, t4_0,Aa, t4_0], h1⟩ := by kernel_rfl
theorem call41 (h : Heap) : evC Tryd.prog 41 #[Aa] h = codeK Tryd.prog (evC Tryd.prog) loopL c41_0 ⟨#[Aa, undef, undef, undef, undef], nm h⟩ (retK Tryd.f41 Tryd.prog h) :=
  (evC_call 41 Tryd.f41 c41_0 Tryd.func41 (by kernel_rfl) #[Aa] h).trans (by kernel_rfl)
theorem ret41 (h0 h : Heap) : retK Tryd.f41 Tryd.prog h0 .ret ⟨#[Aa,Ab,Ac,Ad,Ae], h⟩ = fin h0 (some Ac) h := by kernel_rfl
end Go.Am
namespace Go.Am
open Go.Proofs
set_option maxRecDepth 100000
variable (Aa Ab Ac Ad Ae Af Ag Ah Ai Aj Ak Al An Ao Ap Aq Ar As Au Av Aw Ax Ay Az Ba Bb Bc Bd Be Bf Bg Bh Bi Bj Bk : Value)
noncomputable def c64_0 : Code := bodyC Tryd.f64 []
theorem c64_0_eq {β : Type} (h : Heap) (k : Ex → St → Option β) : codeK Tryd.prog (evC Tryd.prog) loopL c64_0 ⟨#[Aa,Ab,Ac,Ad,Ae,Af,Ag,Ah,Ai,Aj,Ak,Al,An,Ao,Ap,Aq,Ar,As,Au,Av,Aw,Ax,Ay,Az,Ba,Bb,Bc,Bd,Be,Bf,Bg,Bh,Bi,Bj,Bk], h⟩ k =
(binV Tryd.prog .shr 23 (.tmp 3) (.const (Go.Value.int Go.IntKind.u64 1)) Aa (Go.Value.int Go.IntKind.u64 1)).bind fun t4_0 =>
(binV Tryd.prog .and 23 (.tmp 4) (.const (Go.Value.int Go.IntKind.u64 6148914691236517205)) t4_0 (Go.Value.int Go.IntKind.u64 6148914691236517205)).bind fun t5_1 =>
(binV Tryd.prog .and 23 (.tmp 6) (.const (Go.Value.int Go.IntKind.u64 6148914691236517205)) Aa (Go.Value.int Go.IntKind.u64 6148914691236517205)).bind fun t7_2 =>
(binV Tryd.prog .add 23 (.tmp 5) (.tmp 7) t5_1 t7_2).bind fun t8_3 =>
(binV Tryd.prog .shr 23 (.tmp 9) (.const (Go.Value.int Go.IntKind.u64 2)) t8_3 (Go.Value.int Go.IntKind.u64 2)).bind fun t10_4 =>
(binV Tryd.prog .and 23 (.tmp 10) (.const (Go.Value.int Go.IntKind.u64 3689348814741910323)) t10_4 (Go.Value.int Go.IntKind.u64 3689348814741910323)).bind fun t11_5 =>
(binV Tryd.prog .and 23 (.tmp 12) (.const (Go.Value.int Go.IntKind.u64 3689348814741910323)) t8_3 (Go.Value.int Go.IntKind.u64 3689348814741910323)).bind fun t13_6 =>
(binV Tryd.prog .add 23 (.tmp 11) (.tmp 13) t11_5 t13_6).bind fun t14_7 =>
(binV Tryd.prog .shr 23 (.tmp 15) (.const (Go.Value.int Go.IntKind.u64 4)) t14_7 (Go.Value.int Go.IntKind.u64 4)).bind fun t16_8 =>
(binV Tryd.prog .add 23 (.tmp 16) (.tmp 17) t16_8 t14_7).bind fun t18_9 =>
(binV Tryd.prog .and 23 (.tmp 18) (.const (Go.Value.int Go.IntKind.u64 1085102592571150095)) t18_9 (Go.Value.int Go.IntKind.u64 1085102592571150095)).bind fun t19_10 =>
(binV Tryd.prog .shr 23 (.tmp 21) (.const (Go.Value.int Go.IntKind.u64 8)) t19_10 (Go.Value.int Go.IntKind.u64 8)).bind fun t22_11 =>
(binV Tryd.prog .add 23 (.tmp 20) (.tmp 22) t19_10 t22_11).bind fun t23_12 =>
(binV Tryd.prog .shr 23 (.tmp 25) (.const (Go.Value.int Go.IntKind.u64 16)) t23_12 (Go.Value.int Go.IntKind.u64 16)).bind fun t26_13 =>
(binV Tryd.prog .add 23 (.tmp 24) (.tmp 26) t23_12 t26_13).bind fun t27_14 =>
(binV Tryd.prog .shr 23 (.tmp 29) (.const (Go.Value.int Go.IntKind.u64 32)) t27_14 (Go.Value.int Go.IntKind.u64 32)).bind fun t30_15 =>
(binV Tryd.prog .add 23 (.tmp 28) (.tmp 30) t27_14 t30_15).bind fun t31_16 =>
obH (convV Tryd.prog 23 3 t31_16 h) fun t33_17 h18 =>
(binV Tryd.prog .and 3 (.tmp 33) (.const (Go.Value.int Go.IntKind.i64 127)) t33_17 (Go.Value.int Go.IntKind.i64 127)).bind fun t34_19 =>
k .ret ⟨#[t31_16,Ab, t34_19,Aa, t4_0, t5_1,Aa, t7_2, t8_3, t8_3, t10_4, t11_5, t8_3, t13_6, t14_7, t14_7, t16_8, t14_7, t18_9, t19_10, t19_10, t19_10, t22_11, t23_12, t23_12, t23_12, t26_13, t27_14, t27_14, t27_14, t30_15, t31_16, t31_16, t33_17, t34_19], h18⟩ := by kernel_rfl
theorem call64 (h : Heap) : evC Tryd.prog 64 #[Aa] h = codeK Tryd.prog (evC Tryd.prog) loopL c64_0 ⟨#[Aa, undef, undef, undef, undef, undef, undef, undef, undef, undef, undef, undef, undef, undef, undef, undef, undef, undef, undef, undef, undef, undef, undef, undef, undef, undef, undef, undef, undef, undef, undef, undef, undef, undef, undef], nm h⟩ (retK Tryd.f64 Tryd.prog h) :=
  (evC_call 64 Tryd.f64 c64_0 Tryd.func64 (by kernel_rfl) #[Aa] h).trans (by kernel_rfl)
theorem ret64 (h0 h : Heap) : retK Tryd.f64 Tryd.prog h0 .ret ⟨#[Aa,Ab,Ac,Ad,Ae,Af,Ag,Ah,Ai,Aj,Ak,Al,An,Ao,Ap,Aq,Ar,As,Au,Av,Aw,Ax,Ay,Az,Ba,Bb,Bc,Bd,Be,Bf,Bg,Bh,Bi,Bj,Bk], h⟩ = fin h0 (some Ac) h := by kernel_rfl
end Go.Am
namespace Go.Am
open Go.Proofs
set_option maxRecDepth 100000
variable (Aa Ab Ac Ad Ae Af Ag Ah Ai Aj Ak Al An Ao Ap Aq Ar As Au Av Aw Ax Ay Az Ba Bb Bc Bd Be Bf Bg : Value)
noncomputable def c10_0 : Code := bodyC Tryd.f10 []
theorem c10_0_eq {β : Type} (h : Heap) (k : Ex → St → Option β) : codeK Tryd.prog (evC Tryd.prog) loopL c10_0 ⟨#[Aa,Ab,Ac,Ad,Ae,Af,Ag,Ah,Ai,Aj,Ak,Al,An,Ao,Ap,Aq,Ar,As,Au,Av,Aw,Ax,Ay,Az,Ba,Bb,Bc,Bd,Be,Bf,Bg], h⟩ k =
obH (evC Tryd.prog 33 #[Aa] h) fun t10_0 h1 =>
(extractV t10_0 0).bind fun t11_2 =>
(extractV t10_0 1).bind fun t12_3 =>
obH (allocV Tryd.prog 89 h1) fun t6_4 h5 =>
(storeV Tryd.prog 89 t6_4 t11_2 h5).bind fun h6 =>
(binV Tryd.prog .neq 27 (.tmp 13) (.const (Go.Value.int Go.IntKind.i64 0)) t12_3 (Go.Value.int Go.IntKind.i64 0)).bind fun t14_7 =>
(gd (wt t14_7 false) (binV Tryd.prog .lss 3 (.tmp 16) (.const (Go.Value.int Go.IntKind.i64 0)) (gdV (wt t14_7 false) Ab) (Go.Value.int Go.IntKind.i64 0))).bind fun t17_8 =>
(pickV t14_7 (Go.Value.bool Bool.true) t17_8).bind fun t18_9 =>
(gd (wt t18_9 false) (binV Tryd.prog .geq 3 (.tmp 20) (.tmp 21) (gdV (wt t18_9 false) Ab) (gdV (wt t18_9 false) Aa))).bind fun t22_10 =>
(pickV t18_9 (Go.Value.bool Bool.true) t22_10).bind fun t23_11 =>
cnd t23_11 (
k .ret ⟨#[Aa,Ab,Ac,Ad, (Go.Value.pointer Option.none), (Go.Value.int Go.IntKind.i64 1), t6_4, t12_3, t10_0,Aa, t10_0, t11_2, t12_3, t12_3, t14_7, t14_7, (gdV (wt t14_7 false) Ab), t17_8, t18_9, t18_9, (gdV (wt t18_9 false) Ab), (gdV (wt t18_9 false) Aa), t22_10, t23_11,Ba,Bb,Bc,Bd,Be,Bf,Bg], h6⟩) (
(loadV Tryd.prog 89 t6_4 h6).bind fun t26_12 =>
obH (evC Tryd.prog 34 #[Aa] (nm h6)) fun t28_13 h14 =>
(buildV Tryd.prog 94 #[(0,Aa), (1,Ab), (2, t26_12), (3, t28_13)]).bind fun t29_15 =>
obH (boxV Tryd.prog 94 t29_15 (am h14 h6)) fun t30_16 h17 =>
chk ((rb t6_4) ++ []) (h14.mods ++ []) (
k .ret ⟨#[Aa,Ab,Ac,Ad, t30_16, (Go.Value.int Go.IntKind.i64 0), t6_4, t12_3, t10_0,Aa, t10_0, t11_2, t12_3, t12_3, t14_7, t14_7, (gdV (wt t14_7 false) Ab), t17_8, t18_9, t18_9, (gdV (wt t18_9 false) Ab), (gdV (wt t18_9 false) Aa), t22_10, t23_11,Aa,Ab, t26_12,Aa, t28_13, t29_15, t30_16], h17⟩)) := by kernel_rfl
theorem call10 (h : Heap) : evC Tryd.prog 10 #[Aa,Ab] h = codeK Tryd.prog (evC Tryd.prog) loopL c10_0 ⟨#[Aa,Ab, undef, undef, undef, undef, undef, undef, undef, undef, undef, undef, undef, undef, undef, undef, undef, undef, undef, undef, undef, undef, undef, undef, undef, undef, undef, undef, undef, undef, undef], nm h⟩ (retK Tryd.f10 Tryd.prog h) :=
  (evC_call 10 Tryd.f10 c10_0 Tryd.func10 (by kernel_rfl) #[Aa,Ab] h).trans (by kernel_rfl)
theorem ret10 (h0 h : Heap) : retK Tryd.f10 Tryd.prog h0 .ret ⟨#[Aa,Ab,Ac,Ad,Ae,Af,Ag,Ah,Ai,Aj,Ak,Al,An,Ao,Ap,Aq,Ar,As,Au,Av,Aw,Ax,Ay,Az,Ba,Bb,Bc,Bd,Be,Bf,Bg], h⟩ = fin h0 (some (.tuple #[Ae,Af])) h := by kernel_rfl
end Go.Am
namespace Go.Am
open Go.Proofs
set_option maxRecDepth 100000
end Go.Am
namespace Go.Am
open Go.Proofs
set_option maxRecDepth 100000
variable (Aa Ab Ac Ad Ae Af Ag Ah Ai Aj Ak Al An Ao Ap Aq Ar As Au Av Aw Ax Ay Az Ba Bb Bc Bd Be Bf Bg Bh Bi Bj Bk Bl Bm Bn Bo Bp Bq Br Bs Bt Bu Bv Bw : Value)
noncomputable def c13_0 : Code := bodyC Tryd.f13 []
noncomputable def c13_1 : Code := bodyC Tryd.f13 [true, true, true, false, true, false, false]
noncomputable def c13_2 : Code := bodyC Tryd.f13 [true, true, true, true]
theorem c13_0_eq {β : Type} (h : Heap) (k : Ex → St → Option β) : codeK Tryd.prog (evC Tryd.prog) loopL c13_0 ⟨#[Aa,Ab,Ac,Ad,Ae,Af,Ag,Ah,Ai,Aj,Ak,Al,An,Ao,Ap,Aq,Ar,As,Au,Av,Aw,Ax,Ay,Az,Ba,Bb,Bc,Bd,Be,Bf,Bg,Bh,Bi,Bj,Bk,Bl,Bm,Bn,Bo,Bp,Bq,Br,Bs,Bt,Bu,Bv,Bw], h⟩ k =
(nilCheckV Tryd.prog Aa).bind fun t8_0 =>
(fieldAddrV Tryd.prog 94 t8_0 0).bind fun t9_1 =>
(loadV Tryd.prog 3 t9_1 h).bind fun t10_2 =>
obH (evC Tryd.prog 35 #[t10_2] (nm h)) fun t11_3 h4 =>
(nilCheckV Tryd.prog Aa).bind fun t13_5 =>
(fieldAddrV Tryd.prog 94 t13_5 1).bind fun t14_6 =>
(loadV Tryd.prog 3 t14_6 (am h4 h)).bind fun t15_7 =>
obH (buildSliceV Tryd.prog 41 1 #[(0, t15_7)] (am h4 h)) fun t16_8 h9 =>
obH (evC Tryd.prog 26 #[t16_8] h9) fun t17_10 h11 =>
(binV Tryd.prog .andNot 38 (.tmp 11) (.tmp 17) t11_3 t17_10).bind fun t18_12 =>
(binV Tryd.prog .and 38 (.tmp 6) (.tmp 18) Ab t18_12).bind fun t19_13 =>
chk ([(am h4 h).blks.length] ++ ((rb t14_6) ++ [])) (h4.mods ++ []) (
obH (evC Tryd.prog 41 #[t19_13] h11) fun t21_14 h15 =>
loopK Tryd.prog (evC Tryd.prog) c13_1 ⟨#[Aa, t19_13,Ac,Ad, (Go.Value.slice Option.none 0 0), (Go.Value.slice Option.none 0 0),Ab,Aa, t8_0, t9_1, t10_2, t11_3,Aa, t13_5, t14_6, t15_7, t16_8, t17_10, t18_12, t19_13, t19_13, t21_14, (Go.Value.int Go.IntKind.i64 0),Az,Ba,Bb,Bc,Bd,Be,Bf,Bg,Bh,Bi,Bj,Bk,Bl,Bm,Bn,Bo,Bp,Bq,Br,Bs,Bt,Bu,Bv,Bw], h15⟩ (blockK 0 (seqK Tryd.prog (evC Tryd.prog) c13_2 k))) := by kernel_rfl
theorem c13_1_eq {β : Type} (h : Heap) (k : Ex → St → Option β) : codeK Tryd.prog (evC Tryd.prog) loopL c13_1 ⟨#[Aa,Ab,Ac,Ad,Ae,Af,Ag,Ah,Ai,Aj,Ak,Al,An,Ao,Ap,Aq,Ar,As,Au,Av,Aw,Ax,Ay,Az,Ba,Bb,Bc,Bd,Be,Bf,Bg,Bh,Bi,Bj,Bk,Bl,Bm,Bn,Bo,Bp,Bq,Br,Bs,Bt,Bu,Bv,Bw], h⟩ k =
(binV Tryd.prog .lss 3 (.tmp 22) (.tmp 21) Ay Ax).bind fun t23_16 =>
cnd t23_16 (
(nilCheckV Tryd.prog Aa).bind fun t26_17 =>
(fieldAddrV Tryd.prog 94 t26_17 2).bind fun t27_18 =>
(loadV Tryd.prog 89 t27_18 h).bind fun t28_19 =>
obH (evC Tryd.prog 42 #[t28_19] h) fun t29_20 h21 =>
obH (buildSliceV Tryd.prog 36 1 #[(0, t29_20)] h21) fun t30_22 h23 =>
obH (appendV Tryd.prog 36 (some 36) Af t30_22 h23) fun t31_24 h25 =>
(binV Tryd.prog .add 3 (.tmp 22) (.const (Go.Value.int Go.IntKind.i64 1)) Ay (Go.Value.int Go.IntKind.i64 1)).bind fun t32_26 =>
k .normal ⟨#[Aa,Ab,Ac,Ad,Ae, t31_24,Ag,Ah,Ai,Aj,Ak,Al,An,Ao,Ap,Aq,Ar,As,Au,Av,Aw,Ax, t32_26, t23_16,Af,Aa, t26_17, t27_18, t28_19, t29_20, t30_22, t31_24, t32_26,Bj,Bk,Bl,Bm,Bn,Bo,Bp,Bq,Br,Bs,Bt,Bu,Bv,Bw], h25⟩) (
k (.exit 0) ⟨#[Aa,Ab,Ac,Ad,Ae,Af,Ag,Ah,Ai,Aj,Ak,Al,An,Ao,Ap,Aq,Ar,As,Au,Av,Aw,Ax,Ay, t23_16,Ba,Bb,Bc,Bd,Be,Bf,Bg,Bh,Bi,Bj,Bk,Bl,Bm,Bn,Bo,Bp,Bq,Br,Bs,Bt,Bu,Bv,Bw], h⟩) := by kernel_rfl
theorem c13_2_eq {β : Type} (h : Heap) (k : Ex → St → Option β) : codeK Tryd.prog (evC Tryd.prog) loopL c13_2 ⟨#[Aa,Ab,Ac,Ad,Ae,Af,Ag,Ah,Ai,Aj,Ak,Al,An,Ao,Ap,Aq,Ar,As,Au,Av,Aw,Ax,Ay,Az,Ba,Bb,Bc,Bd,Be,Bf,Bg,Bh,Bi,Bj,Bk,Bl,Bm,Bn,Bo,Bp,Bq,Br,Bs,Bt,Bu,Bv,Bw], h⟩ k =
(nilCheckV Tryd.prog Aa).bind fun t35_27 =>
(fieldAddrV Tryd.prog 94 t35_27 2).bind fun t36_28 =>
(loadV Tryd.prog 89 t36_28 h).bind fun t37_29 =>
(nilCheckV Tryd.prog Aa).bind fun t39_30 =>
(fieldAddrV Tryd.prog 94 t39_30 1).bind fun t40_31 =>
(loadV Tryd.prog 3 t40_31 h).bind fun t41_32 =>
obH (evC Tryd.prog 43 #[t37_29, t41_32,Ab] h) fun t43_33 h34 =>
(nilCheckV Tryd.prog Aa).bind fun t44_35 =>
(fieldAddrV Tryd.prog 94 t44_35 2).bind fun t45_36 =>
(storeV Tryd.prog 89 t45_36 t43_33 h34).bind fun h37 =>
k .ret ⟨#[Aa,Ab,Ac,Ad,Af,Af,Ag,Ah,Ai,Aj,Ak,Al,An,Ao,Ap,Aq,Ar,As,Au,Av,Aw,Ax,Ay,Az,Ba,Bb,Bc,Bd,Be,Bf,Bg,Bh,Bi,Aa,Aa, t35_27, t36_28, t37_29,Aa, t39_30, t40_31, t41_32,Ab, t43_33, t44_35, t45_36,Af], h37⟩ := by kernel_rfl
theorem call13 (h : Heap) : evC Tryd.prog 13 #[Aa,Ab] h = codeK Tryd.prog (evC Tryd.prog) loopL c13_0 ⟨#[Aa,Ab, undef, undef, undef, undef, undef, undef, undef, undef, undef, undef, undef, undef, undef, undef, undef, undef, undef, undef, undef, undef, undef, undef, undef, undef, undef, undef, undef, undef, undef, undef, undef, undef, undef, undef, undef, undef, undef, undef, undef, undef, undef, undef, undef, undef, undef], nm h⟩ (retK Tryd.f13 Tryd.prog h) :=
  (evC_call 13 Tryd.f13 c13_0 Tryd.func13 (by kernel_rfl) #[Aa,Ab] h).trans (by kernel_rfl)
theorem ret13 (h0 h : Heap) : retK Tryd.f13 Tryd.prog h0 .ret ⟨#[Aa,Ab,Ac,Ad,Ae,Af,Ag,Ah,Ai,Aj,Ak,Al,An,Ao,Ap,Aq,Ar,As,Au,Av,Aw,Ax,Ay,Az,Ba,Bb,Bc,Bd,Be,Bf,Bg,Bh,Bi,Bj,Bk,Bl,Bm,Bn,Bo,Bp,Bq,Br,Bs,Bt,Bu,Bv,Bw], h⟩ = fin h0 (some Ae) h := by kernel_rfl
end Go.Am
namespace Go.Am
open Go.Proofs
set_option maxRecDepth 100000
variable (Aa Ab Ac Ad Ae Af Ag Ah Ai Aj Ak Al An Ao Ap Aq Ar As Au Av Aw Ax Ay Az Ba Bb Bc Bd Be Bf Bg Bh Bi Bj Bk Bl Bm Bn Bo Bp Bq Br Bs Bt Bu Bv Bw Bx By Bz Ca Cb Cc Cd Ce Cf Cg Ch Ci Cj Ck Cl Cm Cn Co Cp : Value)
noncomputable def c15_0 : Code := bodyC Tryd.f15 []
noncomputable def c15_1 : Code := bodyC Tryd.f15 [true, true, true, false, true, false, false]
noncomputable def c15_2 : Code := bodyC Tryd.f15 [true, true, true, true]
theorem c15_0_eq {β : Type} (h : Heap) (k : Ex → St → Option β) : codeK Tryd.prog (evC Tryd.prog) loopL c15_0 ⟨#[Aa,Ab,Ac,Ad,Ae,Af,Ag,Ah,Ai,Aj,Ak,Al,An,Ao,Ap,Aq,Ar,As,Au,Av,Aw,Ax,Ay,Az,Ba,Bb,Bc,Bd,Be,Bf,Bg,Bh,Bi,Bj,Bk,Bl,Bm,Bn,Bo,Bp,Bq,Br,Bs,Bt,Bu,Bv,Bw,Bx,By,Bz,Ca,Cb,Cc,Cd,Ce,Cf,Cg,Ch,Ci,Cj,Ck,Cl,Cm,Cn,Co,Cp], h⟩ k =
(nilCheckV Tryd.prog Aa).bind fun t15_0 =>
(fieldAddrV Tryd.prog 94 t15_0 0).bind fun t16_1 =>
(loadV Tryd.prog 3 t16_1 h).bind fun t17_2 =>
obH (evC Tryd.prog 44 #[t17_2,Ad] h) fun t19_3 h4 =>
(extractV t19_3 0).bind fun t20_5 =>
(extractV t19_3 1).bind fun t21_6 =>
obH (allocV Tryd.prog 89 h4) fun t9_7 h8 =>
(storeV Tryd.prog 89 t9_7 t20_5 h8).bind fun h9 =>
(unV Tryd.prog .not t21_6).bind fun t23_10 =>
(gd (wt t23_10 false) (binV Tryd.prog .lss 3 (.tmp 25) (.const (Go.Value.int Go.IntKind.i64 0)) (gdV (wt t23_10 false) Ab) (Go.Value.int Go.IntKind.i64 0))).bind fun t26_11 =>
(pickV t23_10 (Go.Value.bool Bool.true) t26_11).bind fun t27_12 =>
(gd (wt t27_12 false) (nilCheckV Tryd.prog (gdV (wt t27_12 false) Aa))).bind fun t31_13 =>
(gd (wt t27_12 false) (fieldAddrV Tryd.prog 94 t31_13 0)).bind fun t32_14 =>
(gd (wt t27_12 false) (loadV Tryd.prog 3 t32_14 h9)).bind fun t33_15 =>
(gd (wt t27_12 false) (binV Tryd.prog .geq 3 (.tmp 29) (.tmp 33) (gdV (wt t27_12 false) Ab) t33_15)).bind fun t34_16 =>
(pickV t27_12 (Go.Value.bool Bool.true) t34_16).bind fun t35_17 =>
(gd (wt t35_17 false) (nilCheckV Tryd.prog (gdV (wt t35_17 false) Aa))).bind fun t39_18 =>
(gd (wt t35_17 false) (fieldAddrV Tryd.prog 94 t39_18 1)).bind fun t40_19 =>
(gd (wt t35_17 false) (loadV Tryd.prog 3 t40_19 h9)).bind fun t41_20 =>
(gd (wt t35_17 false) (binV Tryd.prog .eql 3 (.tmp 37) (.tmp 41) (gdV (wt t35_17 false) Ab) t41_20)).bind fun t42_21 =>
(pickV t35_17 (Go.Value.bool Bool.true) t42_21).bind fun t43_22 =>
cnd t43_22 (
k .ret ⟨#[Aa,Ab,Ac,Ad,Ae,Af,Ag,Ah, (Go.Value.bool Bool.false), t9_7, t21_6,Al,An, t19_3,Aa, t15_0, t16_1, t17_2,Ad, t19_3, t20_5, t21_6, t21_6, t23_10, t23_10, (gdV (wt t23_10 false) Ab), t26_11, t27_12, t27_12, (gdV (wt t27_12 false) Ab), (gdV (wt t27_12 false) Aa), t31_13, t32_14, t33_15, t34_16, t35_17, t35_17, (gdV (wt t35_17 false) Ab), (gdV (wt t35_17 false) Aa), t39_18, t40_19, t41_20, t42_21, t43_22,Bu,Bv,Bw,Bx,By,Bz,Ca,Cb,Cc,Cd,Ce,Cf,Cg,Ch,Ci,Cj,Ck,Cl,Cm,Cn,Co,Cp], h9⟩) (
(loadV Tryd.prog 89 t9_7 h9).bind fun t44_23 =>
(nilCheckV Tryd.prog Aa).bind fun t46_24 =>
(fieldAddrV Tryd.prog 94 t46_24 1).bind fun t47_25 =>
(loadV Tryd.prog 3 t47_25 h9).bind fun t48_26 =>
obH (evC Tryd.prog 45 #[t44_23, t48_26] h9) fun t49_27 h28 =>
(lenV Tryd.prog 73 t49_27 h28).bind fun t50_29 =>
loopK Tryd.prog (evC Tryd.prog) c15_1 ⟨#[Aa,Ab,Ac,Ad,Ae,Af,Ag,Ah, (Go.Value.bool Bool.false), t9_7, t21_6,Al,An, t19_3,Aa, t15_0, t16_1, t17_2,Ad, t19_3, t20_5, t21_6, t21_6, t23_10, t23_10, (gdV (wt t23_10 false) Ab), t26_11, t27_12, t27_12, (gdV (wt t27_12 false) Ab), (gdV (wt t27_12 false) Aa), t31_13, t32_14, t33_15, t34_16, t35_17, t35_17, (gdV (wt t35_17 false) Ab), (gdV (wt t35_17 false) Aa), t39_18, t40_19, t41_20, t42_21, t43_22, t44_23,Aa, t46_24, t47_25, t48_26, t49_27, t50_29, (Go.Value.int Go.IntKind.i64 0),Cc,Cd,Ce,Cf,Cg,Ch,Ci,Cj,Ck,Cl,Cm,Cn,Co,Cp], h28⟩ (blockK 0 (seqK Tryd.prog (evC Tryd.prog) c15_2 k))) := by kernel_rfl
theorem c15_1_eq {β : Type} (h : Heap) (k : Ex → St → Option β) : codeK Tryd.prog (evC Tryd.prog) loopL c15_1 ⟨#[Aa,Ab,Ac,Ad,Ae,Af,Ag,Ah,Ai,Aj,Ak,Al,An,Ao,Ap,Aq,Ar,As,Au,Av,Aw,Ax,Ay,Az,Ba,Bb,Bc,Bd,Be,Bf,Bg,Bh,Bi,Bj,Bk,Bl,Bm,Bn,Bo,Bp,Bq,Br,Bs,Bt,Bu,Bv,Bw,Bx,By,Bz,Ca,Cb,Cc,Cd,Ce,Cf,Cg,Ch,Ci,Cj,Ck,Cl,Cm,Cn,Co,Cp], h⟩ k =
(binV Tryd.prog .lss 3 (.tmp 51) (.tmp 50) Cb Ca).bind fun t52_30 =>
cnd t52_30 (
(indexAddrV Tryd.prog 73 Bz Cb).bind fun t54_31 =>
(loadV Tryd.prog 23 t54_31 h).bind fun t55_32 =>
(nilCheckV Tryd.prog Aa).bind fun t57_33 =>
(fieldAddrV Tryd.prog 94 t57_33 3).bind fun t58_34 =>
(loadV Tryd.prog 73 t58_34 h).bind fun t59_35 =>
(indexAddrV Tryd.prog 73 t59_35 Cb).bind fun t61_36 =>
(loadV Tryd.prog 23 t61_36 h).bind fun t62_37 =>
(binV Tryd.prog .lss 23 (.tmp 62) (.tmp 63) t62_37 t55_32).bind fun t64_38 =>
cnd t64_38 (
k .ret ⟨#[Aa,Ab,Ac,Ad,Ae,Af,Ag,Ah, (Go.Value.bool Bool.false),Aj,Ak,Cb, t55_32,Ao,Ap,Aq,Ar,As,Au,Av,Aw,Ax,Ay,Az,Ba,Bb,Bc,Bd,Be,Bf,Bg,Bh,Bi,Bj,Bk,Bl,Bm,Bn,Bo,Bp,Bq,Br,Bs,Bt,Bu,Bv,Bw,Bx,By,Bz,Ca,Cb, t52_30,Cb, t54_31, t55_32,Aa, t57_33, t58_34, t59_35,Cb, t61_36, t62_37, t55_32, t64_38,Cp], h⟩) (
(binV Tryd.prog .add 3 (.tmp 51) (.const (Go.Value.int Go.IntKind.i64 1)) Cb (Go.Value.int Go.IntKind.i64 1)).bind fun t65_39 =>
k .normal ⟨#[Aa,Ab,Ac,Ad,Ae,Af,Ag,Ah,Ai,Aj,Ak,Cb, t55_32,Ao,Ap,Aq,Ar,As,Au,Av,Aw,Ax,Ay,Az,Ba,Bb,Bc,Bd,Be,Bf,Bg,Bh,Bi,Bj,Bk,Bl,Bm,Bn,Bo,Bp,Bq,Br,Bs,Bt,Bu,Bv,Bw,Bx,By,Bz,Ca, t65_39, t52_30,Cb, t54_31, t55_32,Aa, t57_33, t58_34, t59_35,Cb, t61_36, t62_37, t55_32, t64_38, t65_39], h⟩)) (
k (.exit 0) ⟨#[Aa,Ab,Ac,Ad,Ae,Af,Ag,Ah,Ai,Aj,Ak,Al,An,Ao,Ap,Aq,Ar,As,Au,Av,Aw,Ax,Ay,Az,Ba,Bb,Bc,Bd,Be,Bf,Bg,Bh,Bi,Bj,Bk,Bl,Bm,Bn,Bo,Bp,Bq,Br,Bs,Bt,Bu,Bv,Bw,Bx,By,Bz,Ca,Cb, t52_30,Cd,Ce,Cf,Cg,Ch,Ci,Cj,Ck,Cl,Cm,Cn,Co,Cp], h⟩) := by kernel_rfl
theorem c15_2_eq {β : Type} (h : Heap) (k : Ex → St → Option β) : codeK Tryd.prog (evC Tryd.prog) loopL c15_2 ⟨#[Aa,Ab,Ac,Ad,Ae,Af,Ag,Ah,Ai,Aj,Ak,Al,An,Ao,Ap,Aq,Ar,As,Au,Av,Aw,Ax,Ay,Az,Ba,Bb,Bc,Bd,Be,Bf,Bg,Bh,Bi,Bj,Bk,Bl,Bm,Bn,Bo,Bp,Bq,Br,Bs,Bt,Bu,Bv,Bw,Bx,By,Bz,Ca,Cb,Cc,Cd,Ce,Cf,Cg,Ch,Ci,Cj,Ck,Cl,Cm,Cn,Co,Cp], h⟩ k =
k .ret ⟨#[Aa,Ab,Ac,Ad,Ae,Af,Ag,Ah, (Go.Value.bool Bool.true),Aj,Ak,Al,An,Ao,Ap,Aq,Ar,As,Au,Av,Aw,Ax,Ay,Az,Ba,Bb,Bc,Bd,Be,Bf,Bg,Bh,Bi,Bj,Bk,Bl,Bm,Bn,Bo,Bp,Bq,Br,Bs,Bt,Bu,Bv,Bw,Bx,By,Bz,Ca,Cb,Cc,Cd,Ce,Cf,Cg,Ch,Ci,Cj,Ck,Cl,Cm,Cn,Co,Cp], h⟩ := by kernel_rfl
theorem call15 (h : Heap) : evC Tryd.prog 15 #[Aa,Ab,Ac,Ad] h = codeK Tryd.prog (evC Tryd.prog) loopL c15_0 ⟨#[Aa,Ab,Ac,Ad, undef, undef, undef, undef, undef, undef, undef, undef, undef, undef, undef, undef, undef, undef, undef, undef, undef, undef, undef, undef, undef, undef, undef, undef, undef, undef, undef, undef, undef, undef, undef, undef, undef, undef, undef, undef, undef, undef, undef, undef, undef, undef, undef, undef, undef, undef, undef, undef, undef, undef, undef, undef, undef, undef, undef, undef, undef, undef, undef, undef, undef, undef], nm h⟩ (retK Tryd.f15 Tryd.prog h) :=
  (evC_call 15 Tryd.f15 c15_0 Tryd.func15 (by kernel_rfl) #[Aa,Ab,Ac,Ad] h).trans (by kernel_rfl)
theorem ret15 (h0 h : Heap) : retK Tryd.f15 Tryd.prog h0 .ret ⟨#[Aa,Ab,Ac,Ad,Ae,Af,Ag,Ah,Ai,Aj,Ak,Al,An,Ao,Ap,Aq,Ar,As,Au,Av,Aw,Ax,Ay,Az,Ba,Bb,Bc,Bd,Be,Bf,Bg,Bh,Bi,Bj,Bk,Bl,Bm,Bn,Bo,Bp,Bq,Br,Bs,Bt,Bu,Bv,Bw,Bx,By,Bz,Ca,Cb,Cc,Cd,Ce,Cf,Cg,Ch,Ci,Cj,Ck,Cl,Cm,Cn,Co,Cp], h⟩ = fin h0 (some Ai) h := by kernel_rfl
end Go.Am
namespace Go.Am
open Go.Proofs
set_option maxRecDepth 100000
end Go.Am
namespace Go.Am
open Go.Proofs
set_option maxRecDepth 100000
variable {β : Type} (x : Nat → Value) (h : Heap) (k : Ex → St → Option β) (r m : List Nat) (g : Heap)
noncomputable def c9_0 : Code := bodyC Tryd.f9 []
theorem c9_0_eq : cK c9_0 37 x h k =
(bn .eql 3 (x 0) (.int .i64 1)).bind fun v0 =>
cnd v0 (
obH (ev 10 #[x 1,x 2] h) fun v1 h2 =>
(extractV v1 0).bind fun v3 =>
(extractV v1 1).bind fun v4 =>
(bn .eql 27 v4 (.int .i64 0)).bind fun v5 =>
cnd v5 (
(makeInterfaceV Tryd.prog 30 v3).bind fun v6 =>
k .ret ⟨ar 37 (up x [(6,v6),(7,(.int .i64 0)),(8,v3),(9,v4),(12,(x 0)),(13,v0),(14,v0),(15,v1),(16,(x 1)),(17,(x 2)),(18,v1),(19,v3),(20,v4),(21,v4),(22,v5),(23,v3),(24,v6)]), h2⟩) (
k .ret ⟨ar 37 (up x [(6,(.nilIface)),(7,(.int .i64 1)),(8,v3),(9,v4),(12,(x 0)),(13,v0),(14,v0),(15,v1),(16,(x 1)),(17,(x 2)),(18,v1),(19,v3),(20,v4),(21,v4),(22,v5)]), h2⟩)) (
(bn .eql 3 (x 0) (.int .i64 2)).bind fun v7 =>
cnd v7 (
obH (ev 11 #[x 1,x 2] h) fun v8 h9 =>
(extractV v8 0).bind fun v10 =>
(extractV v8 1).bind fun v11 =>
(bn .eql 27 v11 (.int .i64 0)).bind fun v12 =>
cnd v12 (
(makeInterfaceV Tryd.prog 33 v10).bind fun v13 =>
k .ret ⟨ar 37 (up x [(6,v13),(7,(.int .i64 0)),(10,v10),(11,v11),(12,(x 0)),(13,v0),(14,v0),(25,v7),(26,v7),(27,v8),(28,(x 1)),(29,(x 2)),(30,v8),(31,v10),(32,v11),(33,v11),(34,v12),(35,v10),(36,v13)]), h9⟩) (
k .ret ⟨ar 37 (up x [(6,(.nilIface)),(7,(.int .i64 1)),(10,v10),(11,v11),(12,(x 0)),(13,v0),(14,v0),(25,v7),(26,v7),(27,v8),(28,(x 1)),(29,(x 2)),(30,v8),(31,v10),(32,v11),(33,v11),(34,v12)]), h9⟩)) (
k .ret ⟨ar 37 (up x [(6,(.nilIface)),(7,(.int .i64 1)),(12,(x 0)),(13,v0),(14,v0),(25,v7),(26,v7)]), h⟩)) := by kernel_rfl
theorem call9 (a0 a1 a2 : Value) : evC Tryd.prog 9 #[a0,a1,a2] h = cK c9_0 37 (up un [(0,a0),(1,a1),(2,a2)]) (nm h) (retK Tryd.f9 Tryd.prog h) :=
  (evC_call 9 Tryd.f9 c9_0 Tryd.func9 (by kernel_rfl) #[a0,a1,a2] h).trans (by kernel_rfl)
theorem ret9 : retK Tryd.f9 Tryd.prog g .ret ⟨ar 37 x, h⟩ = fin g (some (.tuple #[x 6, (x 7)])) h := by kernel_rfl
end Go.Am
namespace Go.Am
open Go.Proofs
set_option maxRecDepth 100000
variable {β : Type} (x : Nat → Value) (h : Heap) (k : Ex → St → Option β) (r m : List Nat) (g : Heap)
noncomputable def c8_0 : Code := bodyC Tryd.f8 []
theorem c8_0_eq : cK c8_0 18 x h k =
obH (ev 9 #[(.int .i64 2),(.int .i64 2),(.int .i64 0)] h) fun v0 h1 =>
(extractV v0 0).bind fun v2 =>
(extractV v0 1).bind fun v3 =>
(bn .eql 27 v3 (.int .i64 0)).bind fun v4 =>
(gd (wt v4 true) (binV Tryd.prog .neq 26 (.tmp 10) (.const (.nilIface)) (gdV (wt v4 true) v2) (.nilIface))).bind fun v5 =>
(pickV v4 v5 (.bool false)).bind fun v6 =>
obH (gdH (wt v6 true) h1 (ev 14 #[(gdV (wt v6 true) v2)] h1)) fun v7 h8 =>
(gd (wt v6 true) (bn .eql 3 v7 (.int .i64 2))).bind fun v9 =>
(pickV v6 v9 (.bool false)).bind fun v10 =>
k .ret ⟨ar 18 (up x [(0,v10),(1,v2),(2,v3),(3,v0),(4,v0),(5,v2),(6,v3),(7,v3),(8,v4),(9,v4),(10,(gdV (wt v4 true) v2)),(11,v5),(12,v6),(13,v6),(14,(gdV (wt v6 true) v2)),(15,v7),(16,v9),(17,v10)]), h8⟩ := by kernel_rfl
theorem call8  : evC Tryd.prog 8 #[] h = cK c8_0 18 un (nm h) (retK Tryd.f8 Tryd.prog h) :=
  (evC_call 8 Tryd.f8 c8_0 Tryd.func8 (by kernel_rfl) #[] h).trans (by kernel_rfl)
theorem ret8 : retK Tryd.f8 Tryd.prog g .ret ⟨ar 18 x, h⟩ = fin g (some (x 0)) h := by kernel_rfl
end Go.Am
namespace Go.Am
open Go.Proofs
set_option maxRecDepth 100000
variable {β : Type} (x : Nat → Value) (h : Heap) (k : Ex → St → Option β) (r m : List Nat) (g : Heap)
noncomputable def c3_0 : Code := bodyC Tryd.f3 []
noncomputable def c3_1 : Code := bodyC Tryd.f3 [true, true, true, true, true, true, true, true, true, true, true, true, true, false, true, false, false]
noncomputable def c3_2 : Code := bodyC Tryd.f3 [true, true, true, true, true, true, true, true, true, true, true, true, true, true]
noncomputable def c3_3 : Code := bodyC Tryd.f3 [true, true, true, true, true, true, true, true, true, true, true, true, true, true, true, true, false, true, false, false]
noncomputable def c3_4 : Code := bodyC Tryd.f3 [true, true, true, true, true, true, true, true, true, true, true, true, true, true, true, true, true]
theorem c3_0_eq : cK c3_0 255 x h k =
obH (ev 8 #[] h) fun v0 h1 =>
(unV Tryd.prog .not v0).bind fun v2 =>
cnd v2 (
k .ret ⟨ar 255 (up x [(10,(.bool false)),(28,v0),(29,v2)]), h1⟩) (
cnd (x 0) (
obH (ev 9 #[(.int .i64 2),x 1,x 2] h1) fun v3 h4 =>
(extractV v3 0).bind fun v5 =>
(extractV v3 1).bind fun v6 =>
(bn .lss 3 (x 1) (.int .i64 1)).bind fun v7 =>
(gd (wt v7 false) (bn .gtr 3 (gdV (wt v7 false) (x 1)) (.int .i64 16))).bind fun v8 =>
(pickV v7 (.bool true) v8).bind fun v9 =>
(gd (wt v9 false) (bn .lss 3 (gdV (wt v9 false) (x 2)) (.int .i64 0))).bind fun v10 =>
(pickV v9 (.bool true) v10).bind fun v11 =>
(gd (wt v11 false) (bn .geq 3 (gdV (wt v11 false) (x 2)) (gdV (wt v11 false) (x 1)))).bind fun v12 =>
(pickV v11 (.bool true) v12).bind fun v13 =>
cnd v13 (
(bn .eql 27 v6 (.int .i64 1)).bind fun v14 =>
(gd (wt v14 true) (binV Tryd.prog .eql 26 (.tmp 56) (.const (.nilIface)) (gdV (wt v14 true) v5) (.nilIface))).bind fun v15 =>
(pickV v14 v15 (.bool false)).bind fun v16 =>
k .ret ⟨ar 255 (up x [(10,v16),(11,(.int .i64 2)),(12,v5),(13,v6),(28,v0),(29,v2),(30,(x 0)),(31,v3),(32,(.int .i64 2)),(33,(x 1)),(34,(x 2)),(35,v3),(36,v5),(37,v6),(38,(x 1)),(39,v7),(40,v7),(41,(gdV (wt v7 false) (x 1))),(42,v8),(43,v9),(44,v9),(45,(gdV (wt v9 false) (x 2))),(46,v10),(47,v11),(48,v11),(49,(gdV (wt v11 false) (x 2))),(50,(gdV (wt v11 false) (x 1))),(51,v12),(52,v13),(53,v6),(54,v14),(55,v14),(56,(gdV (wt v14 true) v5)),(57,v15),(58,v16)]), h4⟩) (
(bn .neq 27 v6 (.int .i64 0)).bind fun v17 =>
(gd (wt v17 false) (binV Tryd.prog .eql 26 (.tmp 62) (.const (.nilIface)) (gdV (wt v17 false) v5) (.nilIface))).bind fun v18 =>
(pickV v17 (.bool true) v18).bind fun v19 =>
(gd (wt v19 false) (ln 22 (gdV (wt v19 false) (x 3)) h4)).bind fun v20 =>
(gd (wt v19 false) (bn .gtr 3 v20 (.int .i64 20))).bind fun v21 =>
(pickV v19 (.bool true) v21).bind fun v22 =>
(gd (wt v22 false) (bn .gtr 23 (gdV (wt v22 false) (x 4)) (.int .u64 65535))).bind fun v23 =>
(pickV v22 (.bool true) v23).bind fun v24 =>
cnd v24 (
(bn .eql 27 v6 (.int .i64 0)).bind fun v25 =>
(gd (wt v25 true) (binV Tryd.prog .neq 26 (.tmp 77) (.const (.nilIface)) (gdV (wt v25 true) v5) (.nilIface))).bind fun v26 =>
(pickV v25 v26 (.bool false)).bind fun v27 =>
k .ret ⟨ar 255 (up x [(10,v27),(11,(.int .i64 2)),(12,v5),(13,v6),(28,v0),(29,v2),(30,(x 0)),(31,v3),(32,(.int .i64 2)),(33,(x 1)),(34,(x 2)),(35,v3),(36,v5),(37,v6),(38,(x 1)),(39,v7),(40,v7),(41,(gdV (wt v7 false) (x 1))),(42,v8),(43,v9),(44,v9),(45,(gdV (wt v9 false) (x 2))),(46,v10),(47,v11),(48,v11),(49,(gdV (wt v11 false) (x 2))),(50,(gdV (wt v11 false) (x 1))),(51,v12),(52,v13),(59,v6),(60,v17),(61,v17),(62,(gdV (wt v17 false) v5)),(63,v18),(64,v19),(65,v19),(66,(gdV (wt v19 false) (x 3))),(67,v20),(68,v21),(69,v22),(70,v22),(71,(gdV (wt v22 false) (x 4))),(72,v23),(73,v24),(74,v6),(75,v25),(76,v25),(77,(gdV (wt v25 true) v5)),(78,v26),(79,v27)]), h4⟩) (
obH (ev 10 #[x 1,x 2] h4) fun v28 h29 =>
(extractV v28 0).bind fun v30 =>
(extractV v28 1).bind fun v31 =>
obH (ev 11 #[x 1,x 2] h29) fun v32 h33 =>
(extractV v32 0).bind fun v34 =>
(extractV v32 1).bind fun v35 =>
cnd (x 0) (
obH (ev 12 #[v34,x 4] h33) fun v36 h37 =>
obH (invokeV Tryd.prog (evC Tryd.prog) v5 "Send" #[x 4] h37) fun v38 h39 =>
(ln 36 v36 h39).bind fun v40 =>
(ln 36 v38 h39).bind fun v41 =>
(bn .neq 3 v40 v41).bind fun v42 =>
obH (gdH (wt v42 false) h39 (ev 14 #[(gdV (wt v42 false) v5)] h39)) fun v43 h44 =>
(gd (wt v42 false) (bn .neq 3 v43 (gdV (wt v42 false) (.int .i64 2)))).bind fun v45 =>
(pickV v42 (.bool true) v45).bind fun v46 =>
cnd v46 (
k .ret ⟨ar 255 (up x [(10,(.bool false)),(11,(.int .i64 2)),(12,v5),(13,v6),(14,v30),(15,v31),(16,v34),(17,v35),(18,v36),(19,v38),(28,v0),(29,v2),(30,(x 0)),(31,v3),(32,(.int .i64 2)),(33,(x 1)),(34,(x 2)),(35,v3),(36,v5),(37,v6),(38,(x 1)),(39,v7),(40,v7),(41,(gdV (wt v7 false) (x 1))),(42,v8),(43,v9),(44,v9),(45,(gdV (wt v9 false) (x 2))),(46,v10),(47,v11),(48,v11),(49,(gdV (wt v11 false) (x 2))),(50,(gdV (wt v11 false) (x 1))),(51,v12),(52,v13),(59,v6),(60,v17),(61,v17),(62,(gdV (wt v17 false) v5)),(63,v18),(64,v19),(65,v19),(66,(gdV (wt v19 false) (x 3))),(67,v20),(68,v21),(69,v22),(70,v22),(71,(gdV (wt v22 false) (x 4))),(72,v23),(73,v24),(80,v28),(81,(x 1)),(82,(x 2)),(83,v28),(84,v30),(85,v31),(86,v32),(87,(x 1)),(88,(x 2)),(89,v32),(90,v34),(91,v35),(92,(x 0)),(93,v34),(94,(x 4)),(95,v36),(99,v5),(100,(x 4)),(101,v38),(102,v36),(103,v40),(104,v38),(105,v41),(106,v42),(107,v42),(108,(gdV (wt v42 false) v5)),(109,v43),(110,(gdV (wt v42 false) (.int .i64 2))),(111,v45),(112,v46)]), h44⟩) (
lK c3_1 255 (up x [(10,(.bool false)),(11,(.int .i64 2)),(12,v5),(13,v6),(14,v30),(15,v31),(16,v34),(17,v35),(18,v36),(19,v38),(20,(.int .i64 0)),(28,v0),(29,v2),(30,(x 0)),(31,v3),(32,(.int .i64 2)),(33,(x 1)),(34,(x 2)),(35,v3),(36,v5),(37,v6),(38,(x 1)),(39,v7),(40,v7),(41,(gdV (wt v7 false) (x 1))),(42,v8),(43,v9),(44,v9),(45,(gdV (wt v9 false) (x 2))),(46,v10),(47,v11),(48,v11),(49,(gdV (wt v11 false) (x 2))),(50,(gdV (wt v11 false) (x 1))),(51,v12),(52,v13),(59,v6),(60,v17),(61,v17),(62,(gdV (wt v17 false) v5)),(63,v18),(64,v19),(65,v19),(66,(gdV (wt v19 false) (x 3))),(67,v20),(68,v21),(69,v22),(70,v22),(71,(gdV (wt v22 false) (x 4))),(72,v23),(73,v24),(80,v28),(81,(x 1)),(82,(x 2)),(83,v28),(84,v30),(85,v31),(86,v32),(87,(x 1)),(88,(x 2)),(89,v32),(90,v34),(91,v35),(92,(x 0)),(93,v34),(94,(x 4)),(95,v36),(99,v5),(100,(x 4)),(101,v38),(102,v36),(103,v40),(104,v38),(105,v41),(106,v42),(107,v42),(108,(gdV (wt v42 false) v5)),(109,v43),(110,(gdV (wt v42 false) (.int .i64 2))),(111,v45),(112,v46)]) h44 (blockK 0 (sK c3_2 k)))) (
obH (ev 13 #[v30,x 4] h33) fun v47 h48 =>
obH (invokeV Tryd.prog (evC Tryd.prog) v5 "Send" #[x 4] h48) fun v49 h50 =>
(ln 36 v47 h50).bind fun v51 =>
(ln 36 v49 h50).bind fun v52 =>
(bn .neq 3 v51 v52).bind fun v53 =>
obH (gdH (wt v53 false) h50 (ev 14 #[(gdV (wt v53 false) v5)] h50)) fun v54 h55 =>
(gd (wt v53 false) (bn .neq 3 v54 (gdV (wt v53 false) (.int .i64 2)))).bind fun v56 =>
(pickV v53 (.bool true) v56).bind fun v57 =>
cnd v57 (
k .ret ⟨ar 255 (up x [(10,(.bool false)),(11,(.int .i64 2)),(12,v5),(13,v6),(14,v30),(15,v31),(16,v34),(17,v35),(18,v47),(19,v49),(28,v0),(29,v2),(30,(x 0)),(31,v3),(32,(.int .i64 2)),(33,(x 1)),(34,(x 2)),(35,v3),(36,v5),(37,v6),(38,(x 1)),(39,v7),(40,v7),(41,(gdV (wt v7 false) (x 1))),(42,v8),(43,v9),(44,v9),(45,(gdV (wt v9 false) (x 2))),(46,v10),(47,v11),(48,v11),(49,(gdV (wt v11 false) (x 2))),(50,(gdV (wt v11 false) (x 1))),(51,v12),(52,v13),(59,v6),(60,v17),(61,v17),(62,(gdV (wt v17 false) v5)),(63,v18),(64,v19),(65,v19),(66,(gdV (wt v19 false) (x 3))),(67,v20),(68,v21),(69,v22),(70,v22),(71,(gdV (wt v22 false) (x 4))),(72,v23),(73,v24),(80,v28),(81,(x 1)),(82,(x 2)),(83,v28),(84,v30),(85,v31),(86,v32),(87,(x 1)),(88,(x 2)),(89,v32),(90,v34),(91,v35),(92,(x 0)),(96,v30),(97,(x 4)),(98,v47),(99,v5),(100,(x 4)),(101,v49),(102,v47),(103,v51),(104,v49),(105,v52),(106,v53),(107,v53),(108,(gdV (wt v53 false) v5)),(109,v54),(110,(gdV (wt v53 false) (.int .i64 2))),(111,v56),(112,v57)]), h55⟩) (
lK c3_1 255 (up x [(10,(.bool false)),(11,(.int .i64 2)),(12,v5),(13,v6),(14,v30),(15,v31),(16,v34),(17,v35),(18,v47),(19,v49),(20,(.int .i64 0)),(28,v0),(29,v2),(30,(x 0)),(31,v3),(32,(.int .i64 2)),(33,(x 1)),(34,(x 2)),(35,v3),(36,v5),(37,v6),(38,(x 1)),(39,v7),(40,v7),(41,(gdV (wt v7 false) (x 1))),(42,v8),(43,v9),(44,v9),(45,(gdV (wt v9 false) (x 2))),(46,v10),(47,v11),(48,v11),(49,(gdV (wt v11 false) (x 2))),(50,(gdV (wt v11 false) (x 1))),(51,v12),(52,v13),(59,v6),(60,v17),(61,v17),(62,(gdV (wt v17 false) v5)),(63,v18),(64,v19),(65,v19),(66,(gdV (wt v19 false) (x 3))),(67,v20),(68,v21),(69,v22),(70,v22),(71,(gdV (wt v22 false) (x 4))),(72,v23),(73,v24),(80,v28),(81,(x 1)),(82,(x 2)),(83,v28),(84,v30),(85,v31),(86,v32),(87,(x 1)),(88,(x 2)),(89,v32),(90,v34),(91,v35),(92,(x 0)),(96,v30),(97,(x 4)),(98,v47),(99,v5),(100,(x 4)),(101,v49),(102,v47),(103,v51),(104,v49),(105,v52),(106,v53),(107,v53),(108,(gdV (wt v53 false) v5)),(109,v54),(110,(gdV (wt v53 false) (.int .i64 2))),(111,v56),(112,v57)]) h55 (blockK 0 (sK c3_2 k))))))) (
obH (ev 9 #[(.int .i64 1),x 1,x 2] h1) fun v58 h59 =>
(extractV v58 0).bind fun v60 =>
(extractV v58 1).bind fun v61 =>
(bn .lss 3 (x 1) (.int .i64 1)).bind fun v62 =>
(gd (wt v62 false) (bn .gtr 3 (gdV (wt v62 false) (x 1)) (.int .i64 16))).bind fun v63 =>
(pickV v62 (.bool true) v63).bind fun v64 =>
(gd (wt v64 false) (bn .lss 3 (gdV (wt v64 false) (x 2)) (.int .i64 0))).bind fun v65 =>
(pickV v64 (.bool true) v65).bind fun v66 =>
(gd (wt v66 false) (bn .geq 3 (gdV (wt v66 false) (x 2)) (gdV (wt v66 false) (x 1)))).bind fun v67 =>
(pickV v66 (.bool true) v67).bind fun v68 =>
cnd v68 (
(bn .eql 27 v61 (.int .i64 1)).bind fun v69 =>
(gd (wt v69 true) (binV Tryd.prog .eql 26 (.tmp 56) (.const (.nilIface)) (gdV (wt v69 true) v60) (.nilIface))).bind fun v70 =>
(pickV v69 v70 (.bool false)).bind fun v71 =>
k .ret ⟨ar 255 (up x [(10,v71),(11,(.int .i64 1)),(12,v60),(13,v61),(28,v0),(29,v2),(30,(x 0)),(31,v58),(32,(.int .i64 1)),(33,(x 1)),(34,(x 2)),(35,v58),(36,v60),(37,v61),(38,(x 1)),(39,v62),(40,v62),(41,(gdV (wt v62 false) (x 1))),(42,v63),(43,v64),(44,v64),(45,(gdV (wt v64 false) (x 2))),(46,v65),(47,v66),(48,v66),(49,(gdV (wt v66 false) (x 2))),(50,(gdV (wt v66 false) (x 1))),(51,v67),(52,v68),(53,v61),(54,v69),(55,v69),(56,(gdV (wt v69 true) v60)),(57,v70),(58,v71)]), h59⟩) (
(bn .neq 27 v61 (.int .i64 0)).bind fun v72 =>
(gd (wt v72 false) (binV Tryd.prog .eql 26 (.tmp 62) (.const (.nilIface)) (gdV (wt v72 false) v60) (.nilIface))).bind fun v73 =>
(pickV v72 (.bool true) v73).bind fun v74 =>
(gd (wt v74 false) (ln 22 (gdV (wt v74 false) (x 3)) h59)).bind fun v75 =>
(gd (wt v74 false) (bn .gtr 3 v75 (.int .i64 20))).bind fun v76 =>
(pickV v74 (.bool true) v76).bind fun v77 =>
(gd (wt v77 false) (bn .gtr 23 (gdV (wt v77 false) (x 4)) (.int .u64 65535))).bind fun v78 =>
(pickV v77 (.bool true) v78).bind fun v79 =>
cnd v79 (
(bn .eql 27 v61 (.int .i64 0)).bind fun v80 =>
(gd (wt v80 true) (binV Tryd.prog .neq 26 (.tmp 77) (.const (.nilIface)) (gdV (wt v80 true) v60) (.nilIface))).bind fun v81 =>
(pickV v80 v81 (.bool false)).bind fun v82 =>
k .ret ⟨ar 255 (up x [(10,v82),(11,(.int .i64 1)),(12,v60),(13,v61),(28,v0),(29,v2),(30,(x 0)),(31,v58),(32,(.int .i64 1)),(33,(x 1)),(34,(x 2)),(35,v58),(36,v60),(37,v61),(38,(x 1)),(39,v62),(40,v62),(41,(gdV (wt v62 false) (x 1))),(42,v63),(43,v64),(44,v64),(45,(gdV (wt v64 false) (x 2))),(46,v65),(47,v66),(48,v66),(49,(gdV (wt v66 false) (x 2))),(50,(gdV (wt v66 false) (x 1))),(51,v67),(52,v68),(59,v61),(60,v72),(61,v72),(62,(gdV (wt v72 false) v60)),(63,v73),(64,v74),(65,v74),(66,(gdV (wt v74 false) (x 3))),(67,v75),(68,v76),(69,v77),(70,v77),(71,(gdV (wt v77 false) (x 4))),(72,v78),(73,v79),(74,v61),(75,v80),(76,v80),(77,(gdV (wt v80 true) v60)),(78,v81),(79,v82)]), h59⟩) (
obH (ev 10 #[x 1,x 2] h59) fun v83 h84 =>
(extractV v83 0).bind fun v85 =>
(extractV v83 1).bind fun v86 =>
obH (ev 11 #[x 1,x 2] h84) fun v87 h88 =>
(extractV v87 0).bind fun v89 =>
(extractV v87 1).bind fun v90 =>
cnd (x 0) (
obH (ev 12 #[v89,x 4] h88) fun v91 h92 =>
obH (invokeV Tryd.prog (evC Tryd.prog) v60 "Send" #[x 4] h92) fun v93 h94 =>
(ln 36 v91 h94).bind fun v95 =>
(ln 36 v93 h94).bind fun v96 =>
(bn .neq 3 v95 v96).bind fun v97 =>
obH (gdH (wt v97 false) h94 (ev 14 #[(gdV (wt v97 false) v60)] h94)) fun v98 h99 =>
(gd (wt v97 false) (bn .neq 3 v98 (gdV (wt v97 false) (.int .i64 1)))).bind fun v100 =>
(pickV v97 (.bool true) v100).bind fun v101 =>
cnd v101 (
k .ret ⟨ar 255 (up x [(10,(.bool false)),(11,(.int .i64 1)),(12,v60),(13,v61),(14,v85),(15,v86),(16,v89),(17,v90),(18,v91),(19,v93),(28,v0),(29,v2),(30,(x 0)),(31,v58),(32,(.int .i64 1)),(33,(x 1)),(34,(x 2)),(35,v58),(36,v60),(37,v61),(38,(x 1)),(39,v62),(40,v62),(41,(gdV (wt v62 false) (x 1))),(42,v63),(43,v64),(44,v64),(45,(gdV (wt v64 false) (x 2))),(46,v65),(47,v66),(48,v66),(49,(gdV (wt v66 false) (x 2))),(50,(gdV (wt v66 false) (x 1))),(51,v67),(52,v68),(59,v61),(60,v72),(61,v72),(62,(gdV (wt v72 false) v60)),(63,v73),(64,v74),(65,v74),(66,(gdV (wt v74 false) (x 3))),(67,v75),(68,v76),(69,v77),(70,v77),(71,(gdV (wt v77 false) (x 4))),(72,v78),(73,v79),(80,v83),(81,(x 1)),(82,(x 2)),(83,v83),(84,v85),(85,v86),(86,v87),(87,(x 1)),(88,(x 2)),(89,v87),(90,v89),(91,v90),(92,(x 0)),(93,v89),(94,(x 4)),(95,v91),(99,v60),(100,(x 4)),(101,v93),(102,v91),(103,v95),(104,v93),(105,v96),(106,v97),(107,v97),(108,(gdV (wt v97 false) v60)),(109,v98),(110,(gdV (wt v97 false) (.int .i64 1))),(111,v100),(112,v101)]), h99⟩) (
lK c3_1 255 (up x [(10,(.bool false)),(11,(.int .i64 1)),(12,v60),(13,v61),(14,v85),(15,v86),(16,v89),(17,v90),(18,v91),(19,v93),(20,(.int .i64 0)),(28,v0),(29,v2),(30,(x 0)),(31,v58),(32,(.int .i64 1)),(33,(x 1)),(34,(x 2)),(35,v58),(36,v60),(37,v61),(38,(x 1)),(39,v62),(40,v62),(41,(gdV (wt v62 false) (x 1))),(42,v63),(43,v64),(44,v64),(45,(gdV (wt v64 false) (x 2))),(46,v65),(47,v66),(48,v66),(49,(gdV (wt v66 false) (x 2))),(50,(gdV (wt v66 false) (x 1))),(51,v67),(52,v68),(59,v61),(60,v72),(61,v72),(62,(gdV (wt v72 false) v60)),(63,v73),(64,v74),(65,v74),(66,(gdV (wt v74 false) (x 3))),(67,v75),(68,v76),(69,v77),(70,v77),(71,(gdV (wt v77 false) (x 4))),(72,v78),(73,v79),(80,v83),(81,(x 1)),(82,(x 2)),(83,v83),(84,v85),(85,v86),(86,v87),(87,(x 1)),(88,(x 2)),(89,v87),(90,v89),(91,v90),(92,(x 0)),(93,v89),(94,(x 4)),(95,v91),(99,v60),(100,(x 4)),(101,v93),(102,v91),(103,v95),(104,v93),(105,v96),(106,v97),(107,v97),(108,(gdV (wt v97 false) v60)),(109,v98),(110,(gdV (wt v97 false) (.int .i64 1))),(111,v100),(112,v101)]) h99 (blockK 0 (sK c3_2 k)))) (
obH (ev 13 #[v85,x 4] h88) fun v102 h103 =>
obH (invokeV Tryd.prog (evC Tryd.prog) v60 "Send" #[x 4] h103) fun v104 h105 =>
(ln 36 v102 h105).bind fun v106 =>
(ln 36 v104 h105).bind fun v107 =>
(bn .neq 3 v106 v107).bind fun v108 =>
obH (gdH (wt v108 false) h105 (ev 14 #[(gdV (wt v108 false) v60)] h105)) fun v109 h110 =>
(gd (wt v108 false) (bn .neq 3 v109 (gdV (wt v108 false) (.int .i64 1)))).bind fun v111 =>
(pickV v108 (.bool true) v111).bind fun v112 =>
cnd v112 (
k .ret ⟨ar 255 (up x [(10,(.bool false)),(11,(.int .i64 1)),(12,v60),(13,v61),(14,v85),(15,v86),(16,v89),(17,v90),(18,v102),(19,v104),(28,v0),(29,v2),(30,(x 0)),(31,v58),(32,(.int .i64 1)),(33,(x 1)),(34,(x 2)),(35,v58),(36,v60),(37,v61),(38,(x 1)),(39,v62),(40,v62),(41,(gdV (wt v62 false) (x 1))),(42,v63),(43,v64),(44,v64),(45,(gdV (wt v64 false) (x 2))),(46,v65),(47,v66),(48,v66),(49,(gdV (wt v66 false) (x 2))),(50,(gdV (wt v66 false) (x 1))),(51,v67),(52,v68),(59,v61),(60,v72),(61,v72),(62,(gdV (wt v72 false) v60)),(63,v73),(64,v74),(65,v74),(66,(gdV (wt v74 false) (x 3))),(67,v75),(68,v76),(69,v77),(70,v77),(71,(gdV (wt v77 false) (x 4))),(72,v78),(73,v79),(80,v83),(81,(x 1)),(82,(x 2)),(83,v83),(84,v85),(85,v86),(86,v87),(87,(x 1)),(88,(x 2)),(89,v87),(90,v89),(91,v90),(92,(x 0)),(96,v85),(97,(x 4)),(98,v102),(99,v60),(100,(x 4)),(101,v104),(102,v102),(103,v106),(104,v104),(105,v107),(106,v108),(107,v108),(108,(gdV (wt v108 false) v60)),(109,v109),(110,(gdV (wt v108 false) (.int .i64 1))),(111,v111),(112,v112)]), h110⟩) (
lK c3_1 255 (up x [(10,(.bool false)),(11,(.int .i64 1)),(12,v60),(13,v61),(14,v85),(15,v86),(16,v89),(17,v90),(18,v102),(19,v104),(20,(.int .i64 0)),(28,v0),(29,v2),(30,(x 0)),(31,v58),(32,(.int .i64 1)),(33,(x 1)),(34,(x 2)),(35,v58),(36,v60),(37,v61),(38,(x 1)),(39,v62),(40,v62),(41,(gdV (wt v62 false) (x 1))),(42,v63),(43,v64),(44,v64),(45,(gdV (wt v64 false) (x 2))),(46,v65),(47,v66),(48,v66),(49,(gdV (wt v66 false) (x 2))),(50,(gdV (wt v66 false) (x 1))),(51,v67),(52,v68),(59,v61),(60,v72),(61,v72),(62,(gdV (wt v72 false) v60)),(63,v73),(64,v74),(65,v74),(66,(gdV (wt v74 false) (x 3))),(67,v75),(68,v76),(69,v77),(70,v77),(71,(gdV (wt v77 false) (x 4))),(72,v78),(73,v79),(80,v83),(81,(x 1)),(82,(x 2)),(83,v83),(84,v85),(85,v86),(86,v87),(87,(x 1)),(88,(x 2)),(89,v87),(90,v89),(91,v90),(92,(x 0)),(96,v85),(97,(x 4)),(98,v102),(99,v60),(100,(x 4)),(101,v104),(102,v102),(103,v106),(104,v104),(105,v107),(106,v108),(107,v108),(108,(gdV (wt v108 false) v60)),(109,v109),(110,(gdV (wt v108 false) (.int .i64 1))),(111,v111),(112,v112)]) h110 (blockK 0 (sK c3_2 k)))))))) := by kernel_rfl
theorem c3_1_eq : cK c3_1 255 x h k =
(ln 36 (x 18) h).bind fun v113 =>
(bn .lss 3 (x 20) v113).bind fun v114 =>
cnd v114 (
(ia 36 (x 18) (x 20)).bind fun v115 =>
(ld 40 v115 h).bind fun v116 =>
obH (cv 40 9 v116 h) fun v117 h118 =>
(ia 36 (x 19) (x 20)).bind fun v119 =>
(ld 40 v119 h118).bind fun v120 =>
obH (cv 40 9 v120 h118) fun v121 h122 =>
(bn .neq 9 v117 v121).bind fun v123 =>
cnd v123 (
k .ret ⟨ar 255 (up x [(10,(.bool false)),(113,(x 20)),(114,(x 18)),(115,v113),(116,v114),(119,(x 18)),(120,(x 20)),(121,v115),(122,v116),(123,v117),(124,(x 19)),(125,(x 20)),(126,v119),(127,v120),(128,v121),(129,v123)]), h122⟩) (
(bn .add 3 (x 20) (.int .i64 1)).bind fun v124 =>
k .normal ⟨ar 255 (up x [(20,v124),(113,(x 20)),(114,(x 18)),(115,v113),(116,v114),(117,(x 20)),(118,v124),(119,(x 18)),(120,(x 20)),(121,v115),(122,v116),(123,v117),(124,(x 19)),(125,(x 20)),(126,v119),(127,v120),(128,v121),(129,v123)]), h122⟩)) (
k (.exit 0) ⟨ar 255 (up x [(113,(x 20)),(114,(x 18)),(115,v113),(116,v114)]), h⟩) := by kernel_rfl
theorem c3_2_eq : cK c3_2 255 x h k =
lK c3_3 255 (up x [(21,(.slice Option.none 0 0)),(22,(.int .i64 0)),(23,(.bool false)),(24,(.int .i64 0))]) h (blockK 2 (sK c3_4 k)) := by kernel_rfl
theorem c3_3_eq : cK c3_3 255 x h k =
(ln 22 (x 3) h).bind fun v125 =>
(bn .lss 3 (x 24) v125).bind fun v126 =>
cnd v126 (
(ia 22 (x 3) (x 24)).bind fun v127 =>
(fa 43 v127 3).bind fun v128 =>
(ld 40 v128 h).bind fun v129 =>
(ln 40 v129 h).bind fun v130 =>
(bn .gtr 3 v130 (.int .i64 300)).bind fun v131 =>
cnd v131 (
k .ret ⟨ar 255 (up x [(10,(.bool true)),(130,(x 24)),(131,(x 3)),(132,v125),(133,v126),(136,(x 3)),(137,(x 24)),(138,v127),(139,v128),(140,v129),(141,v130),(142,v131)]), h⟩) (
(ia 22 (x 3) (x 24)).bind fun v132 =>
(fa 43 v132 1).bind fun v133 =>
(ld 3 v133 h).bind fun v134 =>
(ia 22 (x 3) (x 24)).bind fun v135 =>
(fa 43 v135 2).bind fun v136 =>
(ld 23 v136 h).bind fun v137 =>
(ia 22 (x 3) (x 24)).bind fun v138 =>
(fa 43 v138 3).bind fun v139 =>
(ld 40 v139 h).bind fun v140 =>
obH (ev 15 #[x 14,v134,v137,v140] h) fun v141 h142 =>
cnd (x 0) (
(ia 22 (x 3) (x 24)).bind fun v143 =>
(fa 43 v143 1).bind fun v144 =>
(ld 3 v144 h142).bind fun v145 =>
(ia 22 (x 3) (x 24)).bind fun v146 =>
(fa 43 v146 2).bind fun v147 =>
(ld 23 v147 h142).bind fun v148 =>
(ia 22 (x 3) (x 24)).bind fun v149 =>
(fa 43 v149 3).bind fun v150 =>
(ld 40 v150 h142).bind fun v151 =>
obH (ev 16 #[x 16,v145,v148,v151] h142) fun v152 h153 =>
(ia 22 (x 3) (x 24)).bind fun v154 =>
(fa 43 v154 1).bind fun v155 =>
(ld 3 v155 h153).bind fun v156 =>
(ia 22 (x 3) (x 24)).bind fun v157 =>
(fa 43 v157 2).bind fun v158 =>
(ld 23 v158 h153).bind fun v159 =>
(ia 22 (x 3) (x 24)).bind fun v160 =>
(fa 43 v160 3).bind fun v161 =>
(ld 40 v161 h153).bind fun v162 =>
(nilCheckV Tryd.prog (.func (Go.Fn.method "Can") #[x 12] #[])).bind fun v163 =>
obH (invokeV Tryd.prog (evC Tryd.prog) (x 12) "Can" #[v156,v159,v162] h153) fun v164 h165 =>
(bn .neq 4 v164 v152).bind fun v166 =>
cnd v166 (
k .ret ⟨ar 255 (up x [(10,(.bool false)),(25,v152),(130,(x 24)),(131,(x 3)),(132,v125),(133,v126),(136,(x 3)),(137,(x 24)),(138,v127),(139,v128),(140,v129),(141,v130),(142,v131),(143,(x 14)),(144,(x 3)),(145,(x 24)),(146,v132),(147,v133),(148,v134),(149,(x 3)),(150,(x 24)),(151,v135),(152,v136),(153,v137),(154,(x 3)),(155,(x 24)),(156,v138),(157,v139),(158,v140),(159,v141),(160,(x 0)),(161,(x 16)),(162,(x 3)),(163,(x 24)),(164,v143),(165,v144),(166,v145),(167,(x 3)),(168,(x 24)),(169,v146),(170,v147),(171,v148),(172,(x 3)),(173,(x 24)),(174,v149),(175,v150),(176,v151),(177,v152),(178,(x 12)),(179,(x 3)),(180,(x 24)),(181,v154),(182,v155),(183,v156),(184,(x 3)),(185,(x 24)),(186,v157),(187,v158),(188,v159),(189,(x 3)),(190,(x 24)),(191,v160),(192,v161),(193,v162),(194,(.func (Go.Fn.method "Can") #[x 12] #[])),(195,v163),(196,(x 12)),(197,v164),(198,v152),(199,v166)]), h165⟩) (
(unV Tryd.prog .not v152).bind fun v167 =>
(gd (wt v167 false) (ia 22 (gdV (wt v167 false) (x 3)) (gdV (wt v167 false) (x 24)))).bind fun v168 =>
(gd (wt v167 false) (fa 43 v168 0)).bind fun v169 =>
(gd (wt v167 false) (ld 4 v169 h165)).bind fun v170 =>
(gd (wt v167 false) (unV Tryd.prog .not v170)).bind fun v171 =>
(pickV v167 (.bool true) v171).bind fun v172 =>
cnd v172 (
(bn .add 3 (x 24) (.int .i64 1)).bind fun v173 =>
k .normal ⟨ar 255 (up x [(24,v173),(25,v152),(130,(x 24)),(131,(x 3)),(132,v125),(133,v126),(134,(x 24)),(135,v173),(136,(x 3)),(137,(x 24)),(138,v127),(139,v128),(140,v129),(141,v130),(142,v131),(143,(x 14)),(144,(x 3)),(145,(x 24)),(146,v132),(147,v133),(148,v134),(149,(x 3)),(150,(x 24)),(151,v135),(152,v136),(153,v137),(154,(x 3)),(155,(x 24)),(156,v138),(157,v139),(158,v140),(159,v141),(160,(x 0)),(161,(x 16)),(162,(x 3)),(163,(x 24)),(164,v143),(165,v144),(166,v145),(167,(x 3)),(168,(x 24)),(169,v146),(170,v147),(171,v148),(172,(x 3)),(173,(x 24)),(174,v149),(175,v150),(176,v151),(177,v152),(178,(x 12)),(179,(x 3)),(180,(x 24)),(181,v154),(182,v155),(183,v156),(184,(x 3)),(185,(x 24)),(186,v157),(187,v158),(188,v159),(189,(x 3)),(190,(x 24)),(191,v160),(192,v161),(193,v162),(194,(.func (Go.Fn.method "Can") #[x 12] #[])),(195,v163),(196,(x 12)),(197,v164),(198,v152),(199,v166),(200,v152),(201,v167),(202,v167),(203,(gdV (wt v167 false) (x 3))),(204,(gdV (wt v167 false) (x 24))),(205,v168),(206,v169),(207,v170),(208,v171),(209,v172)]), h165⟩) (
obH (buildSliceV Tryd.prog 41 1 #[(0, (x 24))] h165) fun v174 h175 =>
obH (ap 41 (some 41) (x 21) v174 h175) fun v176 h177 =>
(unV Tryd.prog .not (x 23)).bind fun v178 =>
(gd (wt v178 false) (ia 22 (gdV (wt v178 false) (x 3)) (gdV (wt v178 false) (x 24)))).bind fun v179 =>
(gd (wt v178 false) (fa 43 v179 1)).bind fun v180 =>
(gd (wt v178 false) (ld 3 v180 h177)).bind fun v181 =>
(gd (wt v178 false) (ia 22 (gdV (wt v178 false) (x 3)) (gdV (wt v178 false) (x 22)))).bind fun v182 =>
(gd (wt v178 false) (fa 43 v182 1)).bind fun v183 =>
(gd (wt v178 false) (ld 3 v183 h177)).bind fun v184 =>
(gd (wt v178 false) (bn .lss 3 v181 v184)).bind fun v185 =>
(pickV v178 (.bool true) v185).bind fun v186 =>
cnd v186 (
(bn .add 3 (x 24) (.int .i64 1)).bind fun v187 =>
k .normal ⟨ar 255 (up x [(21,v176),(22,(x 24)),(23,(.bool true)),(24,v187),(25,v152),(130,(x 24)),(131,(x 3)),(132,v125),(133,v126),(134,(x 24)),(135,v187),(136,(x 3)),(137,(x 24)),(138,v127),(139,v128),(140,v129),(141,v130),(142,v131),(143,(x 14)),(144,(x 3)),(145,(x 24)),(146,v132),(147,v133),(148,v134),(149,(x 3)),(150,(x 24)),(151,v135),(152,v136),(153,v137),(154,(x 3)),(155,(x 24)),(156,v138),(157,v139),(158,v140),(159,v141),(160,(x 0)),(161,(x 16)),(162,(x 3)),(163,(x 24)),(164,v143),(165,v144),(166,v145),(167,(x 3)),(168,(x 24)),(169,v146),(170,v147),(171,v148),(172,(x 3)),(173,(x 24)),(174,v149),(175,v150),(176,v151),(177,v152),(178,(x 12)),(179,(x 3)),(180,(x 24)),(181,v154),(182,v155),(183,v156),(184,(x 3)),(185,(x 24)),(186,v157),(187,v158),(188,v159),(189,(x 3)),(190,(x 24)),(191,v160),(192,v161),(193,v162),(194,(.func (Go.Fn.method "Can") #[x 12] #[])),(195,v163),(196,(x 12)),(197,v164),(198,v152),(199,v166),(200,v152),(201,v167),(202,v167),(203,(gdV (wt v167 false) (x 3))),(204,(gdV (wt v167 false) (x 24))),(205,v168),(206,v169),(207,v170),(208,v171),(209,v172),(210,(x 21)),(211,(x 24)),(212,v174),(213,v176),(214,(x 23)),(215,v178),(216,v178),(217,(gdV (wt v178 false) (x 3))),(218,(gdV (wt v178 false) (x 24))),(219,v179),(220,v180),(221,v181),(222,(gdV (wt v178 false) (x 3))),(223,(gdV (wt v178 false) (x 22))),(224,v182),(225,v183),(226,v184),(227,v185),(228,v186),(229,(x 24))]), h177⟩) (
(bn .add 3 (x 24) (.int .i64 1)).bind fun v188 =>
k .normal ⟨ar 255 (up x [(21,v176),(24,v188),(25,v152),(130,(x 24)),(131,(x 3)),(132,v125),(133,v126),(134,(x 24)),(135,v188),(136,(x 3)),(137,(x 24)),(138,v127),(139,v128),(140,v129),(141,v130),(142,v131),(143,(x 14)),(144,(x 3)),(145,(x 24)),(146,v132),(147,v133),(148,v134),(149,(x 3)),(150,(x 24)),(151,v135),(152,v136),(153,v137),(154,(x 3)),(155,(x 24)),(156,v138),(157,v139),(158,v140),(159,v141),(160,(x 0)),(161,(x 16)),(162,(x 3)),(163,(x 24)),(164,v143),(165,v144),(166,v145),(167,(x 3)),(168,(x 24)),(169,v146),(170,v147),(171,v148),(172,(x 3)),(173,(x 24)),(174,v149),(175,v150),(176,v151),(177,v152),(178,(x 12)),(179,(x 3)),(180,(x 24)),(181,v154),(182,v155),(183,v156),(184,(x 3)),(185,(x 24)),(186,v157),(187,v158),(188,v159),(189,(x 3)),(190,(x 24)),(191,v160),(192,v161),(193,v162),(194,(.func (Go.Fn.method "Can") #[x 12] #[])),(195,v163),(196,(x 12)),(197,v164),(198,v152),(199,v166),(200,v152),(201,v167),(202,v167),(203,(gdV (wt v167 false) (x 3))),(204,(gdV (wt v167 false) (x 24))),(205,v168),(206,v169),(207,v170),(208,v171),(209,v172),(210,(x 21)),(211,(x 24)),(212,v174),(213,v176),(214,(x 23)),(215,v178),(216,v178),(217,(gdV (wt v178 false) (x 3))),(218,(gdV (wt v178 false) (x 24))),(219,v179),(220,v180),(221,v181),(222,(gdV (wt v178 false) (x 3))),(223,(gdV (wt v178 false) (x 22))),(224,v182),(225,v183),(226,v184),(227,v185),(228,v186)]), h177⟩)))) (
(ia 22 (x 3) (x 24)).bind fun v189 =>
(fa 43 v189 1).bind fun v190 =>
(ld 3 v190 h142).bind fun v191 =>
(ia 22 (x 3) (x 24)).bind fun v192 =>
(fa 43 v192 2).bind fun v193 =>
(ld 23 v193 h142).bind fun v194 =>
(ia 22 (x 3) (x 24)).bind fun v195 =>
(fa 43 v195 3).bind fun v196 =>
(ld 40 v196 h142).bind fun v197 =>
(nilCheckV Tryd.prog (.func (Go.Fn.method "Can") #[x 12] #[])).bind fun v198 =>
obH (invokeV Tryd.prog (evC Tryd.prog) (x 12) "Can" #[v191,v194,v197] h142) fun v199 h200 =>
(bn .neq 4 v199 v141).bind fun v201 =>
cnd v201 (
k .ret ⟨ar 255 (up x [(10,(.bool false)),(25,v141),(130,(x 24)),(131,(x 3)),(132,v125),(133,v126),(136,(x 3)),(137,(x 24)),(138,v127),(139,v128),(140,v129),(141,v130),(142,v131),(143,(x 14)),(144,(x 3)),(145,(x 24)),(146,v132),(147,v133),(148,v134),(149,(x 3)),(150,(x 24)),(151,v135),(152,v136),(153,v137),(154,(x 3)),(155,(x 24)),(156,v138),(157,v139),(158,v140),(159,v141),(160,(x 0)),(178,(x 12)),(179,(x 3)),(180,(x 24)),(181,v189),(182,v190),(183,v191),(184,(x 3)),(185,(x 24)),(186,v192),(187,v193),(188,v194),(189,(x 3)),(190,(x 24)),(191,v195),(192,v196),(193,v197),(194,(.func (Go.Fn.method "Can") #[x 12] #[])),(195,v198),(196,(x 12)),(197,v199),(198,v141),(199,v201)]), h200⟩) (
(unV Tryd.prog .not v141).bind fun v202 =>
(gd (wt v202 false) (ia 22 (gdV (wt v202 false) (x 3)) (gdV (wt v202 false) (x 24)))).bind fun v203 =>
(gd (wt v202 false) (fa 43 v203 0)).bind fun v204 =>
(gd (wt v202 false) (ld 4 v204 h200)).bind fun v205 =>
(gd (wt v202 false) (unV Tryd.prog .not v205)).bind fun v206 =>
(pickV v202 (.bool true) v206).bind fun v207 =>
cnd v207 (
(bn .add 3 (x 24) (.int .i64 1)).bind fun v208 =>
k .normal ⟨ar 255 (up x [(24,v208),(25,v141),(130,(x 24)),(131,(x 3)),(132,v125),(133,v126),(134,(x 24)),(135,v208),(136,(x 3)),(137,(x 24)),(138,v127),(139,v128),(140,v129),(141,v130),(142,v131),(143,(x 14)),(144,(x 3)),(145,(x 24)),(146,v132),(147,v133),(148,v134),(149,(x 3)),(150,(x 24)),(151,v135),(152,v136),(153,v137),(154,(x 3)),(155,(x 24)),(156,v138),(157,v139),(158,v140),(159,v141),(160,(x 0)),(178,(x 12)),(179,(x 3)),(180,(x 24)),(181,v189),(182,v190),(183,v191),(184,(x 3)),(185,(x 24)),(186,v192),(187,v193),(188,v194),(189,(x 3)),(190,(x 24)),(191,v195),(192,v196),(193,v197),(194,(.func (Go.Fn.method "Can") #[x 12] #[])),(195,v198),(196,(x 12)),(197,v199),(198,v141),(199,v201),(200,v141),(201,v202),(202,v202),(203,(gdV (wt v202 false) (x 3))),(204,(gdV (wt v202 false) (x 24))),(205,v203),(206,v204),(207,v205),(208,v206),(209,v207)]), h200⟩) (
obH (buildSliceV Tryd.prog 41 1 #[(0, (x 24))] h200) fun v209 h210 =>
obH (ap 41 (some 41) (x 21) v209 h210) fun v211 h212 =>
(unV Tryd.prog .not (x 23)).bind fun v213 =>
(gd (wt v213 false) (ia 22 (gdV (wt v213 false) (x 3)) (gdV (wt v213 false) (x 24)))).bind fun v214 =>
(gd (wt v213 false) (fa 43 v214 1)).bind fun v215 =>
(gd (wt v213 false) (ld 3 v215 h212)).bind fun v216 =>
(gd (wt v213 false) (ia 22 (gdV (wt v213 false) (x 3)) (gdV (wt v213 false) (x 22)))).bind fun v217 =>
(gd (wt v213 false) (fa 43 v217 1)).bind fun v218 =>
(gd (wt v213 false) (ld 3 v218 h212)).bind fun v219 =>
(gd (wt v213 false) (bn .lss 3 v216 v219)).bind fun v220 =>
(pickV v213 (.bool true) v220).bind fun v221 =>
cnd v221 (
(bn .add 3 (x 24) (.int .i64 1)).bind fun v222 =>
k .normal ⟨ar 255 (up x [(21,v211),(22,(x 24)),(23,(.bool true)),(24,v222),(25,v141),(130,(x 24)),(131,(x 3)),(132,v125),(133,v126),(134,(x 24)),(135,v222),(136,(x 3)),(137,(x 24)),(138,v127),(139,v128),(140,v129),(141,v130),(142,v131),(143,(x 14)),(144,(x 3)),(145,(x 24)),(146,v132),(147,v133),(148,v134),(149,(x 3)),(150,(x 24)),(151,v135),(152,v136),(153,v137),(154,(x 3)),(155,(x 24)),(156,v138),(157,v139),(158,v140),(159,v141),(160,(x 0)),(178,(x 12)),(179,(x 3)),(180,(x 24)),(181,v189),(182,v190),(183,v191),(184,(x 3)),(185,(x 24)),(186,v192),(187,v193),(188,v194),(189,(x 3)),(190,(x 24)),(191,v195),(192,v196),(193,v197),(194,(.func (Go.Fn.method "Can") #[x 12] #[])),(195,v198),(196,(x 12)),(197,v199),(198,v141),(199,v201),(200,v141),(201,v202),(202,v202),(203,(gdV (wt v202 false) (x 3))),(204,(gdV (wt v202 false) (x 24))),(205,v203),(206,v204),(207,v205),(208,v206),(209,v207),(210,(x 21)),(211,(x 24)),(212,v209),(213,v211),(214,(x 23)),(215,v213),(216,v213),(217,(gdV (wt v213 false) (x 3))),(218,(gdV (wt v213 false) (x 24))),(219,v214),(220,v215),(221,v216),(222,(gdV (wt v213 false) (x 3))),(223,(gdV (wt v213 false) (x 22))),(224,v217),(225,v218),(226,v219),(227,v220),(228,v221),(229,(x 24))]), h212⟩) (
(bn .add 3 (x 24) (.int .i64 1)).bind fun v223 =>
k .normal ⟨ar 255 (up x [(21,v211),(24,v223),(25,v141),(130,(x 24)),(131,(x 3)),(132,v125),(133,v126),(134,(x 24)),(135,v223),(136,(x 3)),(137,(x 24)),(138,v127),(139,v128),(140,v129),(141,v130),(142,v131),(143,(x 14)),(144,(x 3)),(145,(x 24)),(146,v132),(147,v133),(148,v134),(149,(x 3)),(150,(x 24)),(151,v135),(152,v136),(153,v137),(154,(x 3)),(155,(x 24)),(156,v138),(157,v139),(158,v140),(159,v141),(160,(x 0)),(178,(x 12)),(179,(x 3)),(180,(x 24)),(181,v189),(182,v190),(183,v191),(184,(x 3)),(185,(x 24)),(186,v192),(187,v193),(188,v194),(189,(x 3)),(190,(x 24)),(191,v195),(192,v196),(193,v197),(194,(.func (Go.Fn.method "Can") #[x 12] #[])),(195,v198),(196,(x 12)),(197,v199),(198,v141),(199,v201),(200,v141),(201,v202),(202,v202),(203,(gdV (wt v202 false) (x 3))),(204,(gdV (wt v202 false) (x 24))),(205,v203),(206,v204),(207,v205),(208,v206),(209,v207),(210,(x 21)),(211,(x 24)),(212,v209),(213,v211),(214,(x 23)),(215,v213),(216,v213),(217,(gdV (wt v213 false) (x 3))),(218,(gdV (wt v213 false) (x 24))),(219,v214),(220,v215),(221,v216),(222,(gdV (wt v213 false) (x 3))),(223,(gdV (wt v213 false) (x 22))),(224,v217),(225,v218),(226,v219),(227,v220),(228,v221)]), h212⟩)))))) (
k (.exit 2) ⟨ar 255 (up x [(130,(x 24)),(131,(x 3)),(132,v125),(133,v126)]), h⟩) := by kernel_rfl
theorem c3_4_eq : cK c3_4 255 x h k =
obH (ev 17 #[x 12,x 3] h) fun v224 h225 =>
(extractV v224 0).bind fun v226 =>
(extractV v224 1).bind fun v227 =>
obH (ev 19 #[x 12,x 3] h225) fun v228 h229 =>
obH (ev 18 #[v228,x 21] h229) fun v230 h231 =>
(gd (wt v230 true) (bn .eql 4 (gdV (wt v230 true) v227) (gdV (wt v230 true) (x 23)))).bind fun v232 =>
(pickV v230 v232 (.bool false)).bind fun v233 =>
(gd (wt v233 true) (unV Tryd.prog .not (gdV (wt v233 true) v227))).bind fun v234 =>
(gd (wt (gdV (wt v233 true) v234) false) (bn .eql 3 (gdV (wt (gdV (wt v233 true) v234) false) v226) (gdV (wt (gdV (wt v233 true) v234) false) (x 22)))).bind fun v235 =>
(gd (wt v233 true) (pickV (gdV (wt v233 true) v234) (.bool true) v235)).bind fun v236 =>
(pickV v233 v236 (.bool false)).bind fun v237 =>
k .ret ⟨ar 255 (up x [(10,v237),(26,v226),(27,v227),(230,v224),(231,(x 12)),(232,(x 3)),(233,v224),(234,v226),(235,v227),(236,(x 12)),(237,(x 3)),(238,v228),(239,(x 21)),(240,v230),(241,v230),(242,(gdV (wt v230 true) v227)),(243,(gdV (wt v230 true) (x 23))),(244,v232),(245,v233),(246,v233),(247,(gdV (wt v233 true) v227)),(248,v234),(249,(gdV (wt v233 true) v234)),(250,(gdV (wt (gdV (wt v233 true) v234) false) v226)),(251,(gdV (wt (gdV (wt v233 true) v234) false) (x 22))),(252,v235),(253,v236),(254,v237)]), h231⟩ := by kernel_rfl
theorem call3 (a0 a1 a2 a3 a4 : Value) : evC Tryd.prog 3 #[a0,a1,a2,a3,a4] h = cK c3_0 255 (up un [(0,a0),(1,a1),(2,a2),(3,a3),(4,a4)]) (nm h) (retK Tryd.f3 Tryd.prog h) :=
  (evC_call 3 Tryd.f3 c3_0 Tryd.func3 (by kernel_rfl) #[a0,a1,a2,a3,a4] h).trans (by kernel_rfl)
theorem ret3 : retK Tryd.f3 Tryd.prog g .ret ⟨ar 255 x, h⟩ = fin g (some (x 10)) h := by kernel_rfl
end Go.Am
