/- What the texts of functions come to in the machine (printed by a program of this seat; Lean checks it). -/
import Derived.Test.YtojjjicjpimhoaaKC
import Derived.Test.YtojjjicjpimhoaaChecked
import Derived.KernelRfl
set_option linter.all false
namespace Go.Am
open Go.Proofs
set_option maxRecDepth 100000
noncomputable def c24_0 : Code := bodyC Try.f24 []
noncomputable def c24_1 : Code := bodyC Try.f24 [true, true, false, true, false, false]
noncomputable def c24_2 : Code := bodyC Try.f24 [true, true, true]
theorem c24_0_eq {β : Type} (x0 x1 x2 x3 x4 x5 x6 x7 x8 x9 x10 x11 x12 x13 x14 x15 x16 x17 x18 x19 x20 x21 x22 x23 x24 x25 x26 : Value) (h : Heap) (k : Ex → St → Option β) : codeK Try.prog (evC Try.prog) loopL c24_0 ⟨#[x0, x1, x2, x3, x4, x5, x6, x7, x8, x9, x10, x11, x12, x13, x14, x15, x16, x17, x18, x19, x20, x21, x22, x23, x24, x25, x26], h⟩ k =
(lenV Try.prog 22 x0 h).bind fun t7_0 =>
(lenV Try.prog 22 x1 h).bind fun t9_1 =>
(binV Try.prog .neq 3 (.tmp 7) (.tmp 9) t7_0 t9_1).bind fun t10_2 =>
cnd t10_2 (
k .ret ⟨#[x0, x1, x2, x3, (Go.Value.bool Bool.false), x5, x0, t7_0, x1, t9_1, t10_2, x11, x12, x13, x14, x15, x16, x17, x18, x19, x20, x21, x22, x23, x24, x25, x26], h⟩) (
loopK Try.prog (evC Try.prog) c24_1 ⟨#[x0, x1, x2, x3, (Go.Value.bool Bool.false), (Go.Value.int Go.IntKind.i64 0), x0, t7_0, x1, t9_1, t10_2, x11, x12, x13, x14, x15, x16, x17, x18, x19, x20, x21, x22, x23, x24, x25, x26], h⟩ (blockK 0 (seqK Try.prog (evC Try.prog) c24_2 k))) := by kernel_rfl
theorem c24_1_eq {β : Type} (x0 x1 x2 x3 x4 x5 x6 x7 x8 x9 x10 x11 x12 x13 x14 x15 x16 x17 x18 x19 x20 x21 x22 x23 x24 x25 x26 : Value) (h : Heap) (k : Ex → St → Option β) : codeK Try.prog (evC Try.prog) loopL c24_1 ⟨#[x0, x1, x2, x3, x4, x5, x6, x7, x8, x9, x10, x11, x12, x13, x14, x15, x16, x17, x18, x19, x20, x21, x22, x23, x24, x25, x26], h⟩ k =
(lenV Try.prog 22 x0 h).bind fun t13_3 =>
(binV Try.prog .lss 3 (.tmp 11) (.tmp 13) x5 t13_3).bind fun t14_4 =>
cnd t14_4 (
(indexAddrV Try.prog 22 x0 x5).bind fun t19_5 =>
(loadV Try.prog 52 t19_5 h).bind fun t20_6 =>
(indexAddrV Try.prog 22 x1 x5).bind fun t23_7 =>
(loadV Try.prog 52 t23_7 h).bind fun t24_8 =>
obH (evC Try.prog 32 #[t20_6, t24_8] h) fun t25_9 h10 =>
(unV Try.prog .not t25_9).bind fun t26_11 =>
cnd t26_11 (
k .ret ⟨#[x0, x1, x2, x3, (Go.Value.bool Bool.false), x5, x6, x7, x8, x9, x10, x5, x0, t13_3, t14_4, x15, x16, x0, x5, t19_5, t20_6, x1, x5, t23_7, t24_8, t25_9, t26_11], h10⟩) (
(binV Try.prog .add 3 (.tmp 15) (.const (Go.Value.int Go.IntKind.i64 1)) x5 (Go.Value.int Go.IntKind.i64 1)).bind fun t16_12 =>
k .normal ⟨#[x0, x1, x2, x3, x4, t16_12, x6, x7, x8, x9, x10, x5, x0, t13_3, t14_4, x5, t16_12, x0, x5, t19_5, t20_6, x1, x5, t23_7, t24_8, t25_9, t26_11], h10⟩)) (
k (.exit 0) ⟨#[x0, x1, x2, x3, x4, x5, x6, x7, x8, x9, x10, x5, x0, t13_3, t14_4, x15, x16, x17, x18, x19, x20, x21, x22, x23, x24, x25, x26], h⟩) := by kernel_rfl
theorem c24_2_eq {β : Type} (x0 x1 x2 x3 x4 x5 x6 x7 x8 x9 x10 x11 x12 x13 x14 x15 x16 x17 x18 x19 x20 x21 x22 x23 x24 x25 x26 : Value) (h : Heap) (k : Ex → St → Option β) : codeK Try.prog (evC Try.prog) loopL c24_2 ⟨#[x0, x1, x2, x3, x4, x5, x6, x7, x8, x9, x10, x11, x12, x13, x14, x15, x16, x17, x18, x19, x20, x21, x22, x23, x24, x25, x26], h⟩ k =
k .ret ⟨#[x0, x1, x2, x3, (Go.Value.bool Bool.true), x5, x6, x7, x8, x9, x10, x11, x12, x13, x14, x15, x16, x17, x18, x19, x20, x21, x22, x23, x24, x25, x26], h⟩ := by kernel_rfl
theorem call24 (x0 x1 : Value) (h : Heap) : evC Try.prog 24 #[x0, x1] h = codeK Try.prog (evC Try.prog) loopL c24_0 ⟨#[x0, x1, undef, undef, undef, undef, undef, undef, undef, undef, undef, undef, undef, undef, undef, undef, undef, undef, undef, undef, undef, undef, undef, undef, undef, undef, undef], nm h⟩ (retK Try.f24 Try.prog h) :=
  (evC_call 24 Try.f24 c24_0 Try.func24 (by kernel_rfl) #[x0, x1] h).trans (by kernel_rfl)
theorem ret24 (x0 x1 x2 x3 x4 x5 x6 x7 x8 x9 x10 x11 x12 x13 x14 x15 x16 x17 x18 x19 x20 x21 x22 x23 x24 x25 x26 : Value) (h0 h : Heap) : retK Try.f24 Try.prog h0 .ret ⟨#[x0, x1, x2, x3, x4, x5, x6, x7, x8, x9, x10, x11, x12, x13, x14, x15, x16, x17, x18, x19, x20, x21, x22, x23, x24, x25, x26], h⟩ = fin h0 (some x4) h := by kernel_rfl
theorem retn24 (x0 x1 x2 x3 x4 x5 x6 x7 x8 x9 x10 x11 x12 x13 x14 x15 x16 x17 x18 x19 x20 x21 x22 x23 x24 x25 x26 : Value) (h0 h : Heap) : retK Try.f24 Try.prog h0 .normal ⟨#[x0, x1, x2, x3, x4, x5, x6, x7, x8, x9, x10, x11, x12, x13, x14, x15, x16, x17, x18, x19, x20, x21, x22, x23, x24, x25, x26], h⟩ = fin h0 (some x4) h := by kernel_rfl
end Go.Am
namespace Go.Am
open Go.Proofs
set_option maxRecDepth 100000
noncomputable def c18_0 : Code := bodyC Try.f18 []
noncomputable def c18_1 : Code := bodyC Try.f18 [true, true, false, true, false, false]
noncomputable def c18_2 : Code := bodyC Try.f18 [true, true, true]
theorem c18_0_eq {β : Type} (x0 x1 x2 x3 x4 x5 x6 x7 x8 x9 x10 x11 x12 x13 x14 x15 x16 x17 x18 : Value) (h : Heap) (k : Ex → St → Option β) : codeK Try.prog (evC Try.prog) loopL c18_0 ⟨#[x0, x1, x2, x3, x4, x5, x6, x7, x8, x9, x10, x11, x12, x13, x14, x15, x16, x17, x18], h⟩ k =
(lenV Try.prog 22 x0 h).bind fun t5_0 =>
(binV Try.prog .gtr 3 (.tmp 5) (.const (Go.Value.int Go.IntKind.i64 20)) t5_0 (Go.Value.int Go.IntKind.i64 20)).bind fun t6_1 =>
cnd t6_1 (
k .ret ⟨#[x0, x1, (Go.Value.bool Bool.true), x3, x0, t5_0, t6_1, x7, x8, x9, x10, x11, x12, x13, x14, x15, x16, x17, x18], h⟩) (
loopK Try.prog (evC Try.prog) c18_1 ⟨#[x0, x1, (Go.Value.bool Bool.false), (Go.Value.int Go.IntKind.i64 0), x0, t5_0, t6_1, x7, x8, x9, x10, x11, x12, x13, x14, x15, x16, x17, x18], h⟩ (blockK 0 (seqK Try.prog (evC Try.prog) c18_2 k))) := by kernel_rfl
theorem c18_1_eq {β : Type} (x0 x1 x2 x3 x4 x5 x6 x7 x8 x9 x10 x11 x12 x13 x14 x15 x16 x17 x18 : Value) (h : Heap) (k : Ex → St → Option β) : codeK Try.prog (evC Try.prog) loopL c18_1 ⟨#[x0, x1, x2, x3, x4, x5, x6, x7, x8, x9, x10, x11, x12, x13, x14, x15, x16, x17, x18], h⟩ k =
(lenV Try.prog 22 x0 h).bind fun t9_2 =>
(binV Try.prog .lss 3 (.tmp 7) (.tmp 9) x3 t9_2).bind fun t10_3 =>
cnd t10_3 (
(indexAddrV Try.prog 22 x0 x3).bind fun t15_4 =>
(loadV Try.prog 52 t15_4 h).bind fun t16_5 =>
(lenV Try.prog 52 t16_5 h).bind fun t17_6 =>
(binV Try.prog .gtr 3 (.tmp 17) (.const (Go.Value.int Go.IntKind.i64 20)) t17_6 (Go.Value.int Go.IntKind.i64 20)).bind fun t18_7 =>
cnd t18_7 (
k .ret ⟨#[x0, x1, (Go.Value.bool Bool.true), x3, x4, x5, x6, x3, x0, t9_2, t10_3, x11, x12, x0, x3, t15_4, t16_5, t17_6, t18_7], h⟩) (
(binV Try.prog .add 3 (.tmp 11) (.const (Go.Value.int Go.IntKind.i64 1)) x3 (Go.Value.int Go.IntKind.i64 1)).bind fun t12_8 =>
k .normal ⟨#[x0, x1, x2, t12_8, x4, x5, x6, x3, x0, t9_2, t10_3, x3, t12_8, x0, x3, t15_4, t16_5, t17_6, t18_7], h⟩)) (
k (.exit 0) ⟨#[x0, x1, x2, x3, x4, x5, x6, x3, x0, t9_2, t10_3, x11, x12, x13, x14, x15, x16, x17, x18], h⟩) := by kernel_rfl
theorem c18_2_eq {β : Type} (x0 x1 x2 x3 x4 x5 x6 x7 x8 x9 x10 x11 x12 x13 x14 x15 x16 x17 x18 : Value) (h : Heap) (k : Ex → St → Option β) : codeK Try.prog (evC Try.prog) loopL c18_2 ⟨#[x0, x1, x2, x3, x4, x5, x6, x7, x8, x9, x10, x11, x12, x13, x14, x15, x16, x17, x18], h⟩ k =
k .ret ⟨#[x0, x1, (Go.Value.bool Bool.false), x3, x4, x5, x6, x7, x8, x9, x10, x11, x12, x13, x14, x15, x16, x17, x18], h⟩ := by kernel_rfl
theorem call18 (x0 : Value) (h : Heap) : evC Try.prog 18 #[x0] h = codeK Try.prog (evC Try.prog) loopL c18_0 ⟨#[x0, undef, undef, undef, undef, undef, undef, undef, undef, undef, undef, undef, undef, undef, undef, undef, undef, undef, undef], nm h⟩ (retK Try.f18 Try.prog h) :=
  (evC_call 18 Try.f18 c18_0 Try.func18 (by kernel_rfl) #[x0] h).trans (by kernel_rfl)
theorem ret18 (x0 x1 x2 x3 x4 x5 x6 x7 x8 x9 x10 x11 x12 x13 x14 x15 x16 x17 x18 : Value) (h0 h : Heap) : retK Try.f18 Try.prog h0 .ret ⟨#[x0, x1, x2, x3, x4, x5, x6, x7, x8, x9, x10, x11, x12, x13, x14, x15, x16, x17, x18], h⟩ = fin h0 (some x2) h := by kernel_rfl
theorem retn18 (x0 x1 x2 x3 x4 x5 x6 x7 x8 x9 x10 x11 x12 x13 x14 x15 x16 x17 x18 : Value) (h0 h : Heap) : retK Try.f18 Try.prog h0 .normal ⟨#[x0, x1, x2, x3, x4, x5, x6, x7, x8, x9, x10, x11, x12, x13, x14, x15, x16, x17, x18], h⟩ = fin h0 (some x2) h := by kernel_rfl
end Go.Am
namespace Go.Am
open Go.Proofs
set_option maxRecDepth 100000
noncomputable def c17_0 : Code := bodyC Try.f17 []
theorem c17_0_eq {β : Type} (x0 x1 x2 x3 x4 x5 x6 x7 x8 x9 x10 x11 x12 x13 x14 x15 x16 x17 x18 x19 x20 x21 x22 x23 x24 x25 x26 x27 x28 x29 x30 x31 x32 x33 x34 x35 x36 x37 x38 x39 x40 x41 x42 x43 x44 x45 : Value) (h : Heap) (k : Ex → St → Option β) : codeK Try.prog (evC Try.prog) loopL c17_0 ⟨#[x0, x1, x2, x3, x4, x5, x6, x7, x8, x9, x10, x11, x12, x13, x14, x15, x16, x17, x18, x19, x20, x21, x22, x23, x24, x25, x26, x27, x28, x29, x30, x31, x32, x33, x34, x35, x36, x37, x38, x39, x40, x41, x42, x43, x44, x45], h⟩ k =
obH (evC Try.prog 27 #[(Go.Value.int Go.IntKind.i64 2), (Go.Value.int Go.IntKind.i64 0)] h) fun t7_0 h1 =>
(extractV t7_0 0).bind fun t8_2 =>
(extractV t7_0 1).bind fun t9_3 =>
(binV Try.prog .neq 41 (.tmp 10) (.const (Go.Value.int Go.IntKind.i64 0)) t9_3 (Go.Value.int Go.IntKind.i64 0)).bind fun t11_4 =>
(gd (wt t11_4 false) (binV Try.prog .eql 40 (.tmp 13) (.const (Go.Value.pointer Option.none)) (gdV (wt t11_4 false) t8_2) (Go.Value.pointer Option.none))).bind fun t14_5 =>
(pickV t11_4 (Go.Value.bool Bool.true) t14_5).bind fun t15_6 =>
cnd t15_6 (
k .ret ⟨#[(Go.Value.bool Bool.false), t8_2, t9_3, x3, x4, x5, t7_0, t7_0, t8_2, t9_3, t9_3, t11_4, t11_4, (gdV (wt t11_4 false) t8_2), t14_5, t15_6, x16, x17, x18, x19, x20, x21, x22, x23, x24, x25, x26, x27, x28, x29, x30, x31, x32, x33, x34, x35, x36, x37, x38, x39, x40, x41, x42, x43, x44, x45], h1⟩) (
obH (buildSliceV Try.prog 73 1 #[(0, (Go.Value.int Go.IntKind.i64 1))] h1) fun t17_7 h8 =>
obH (evC Try.prog 29 #[t17_7] h8) fun t18_9 h10 =>
obH (evC Try.prog 28 #[t8_2, t18_9] h10) fun t19_11 h12 =>
obH (buildSliceV Try.prog 73 1 #[(0, (Go.Value.int Go.IntKind.i64 1))] h12) fun t21_13 h14 =>
obH (evC Try.prog 29 #[t21_13] h14) fun t22_15 h16 =>
obH (evC Try.prog 28 #[t8_2, t22_15] h16) fun t23_17 h18 =>
(lenV Try.prog 44 t23_17 h18).bind fun t25_19 =>
(binV Try.prog .neq 3 (.tmp 25) (.const (Go.Value.int Go.IntKind.i64 1)) t25_19 (Go.Value.int Go.IntKind.i64 1)).bind fun t26_20 =>
cnd t26_20 (
k .ret ⟨#[(Go.Value.bool Bool.false), t8_2, t9_3, t23_17, x4, x5, t7_0, t7_0, t8_2, t9_3, t9_3, t11_4, t11_4, (gdV (wt t11_4 false) t8_2), t14_5, t15_6, t8_2, t17_7, t18_9, t19_11, t8_2, t21_13, t22_15, t23_17, t23_17, t25_19, t26_20, x27, x28, x29, x30, x31, x32, x33, x34, x35, x36, x37, x38, x39, x40, x41, x42, x43, x44, x45], h18⟩) (
(indexAddrV Try.prog 44 t23_17 (Go.Value.int Go.IntKind.i64 0)).bind fun t29_21 =>
(loadV Try.prog 23 t29_21 h18).bind fun t30_22 =>
obH (evC Try.prog 21 #[(Go.Value.int Go.IntKind.i64 2), t30_22] h18) fun t31_23 h24 =>
(extractV t31_23 0).bind fun t32_25 =>
(extractV t31_23 1).bind fun t33_26 =>
obH (allocV Try.prog 29 h24) fun t4_27 h28 =>
(storeV Try.prog 29 t4_27 t32_25 h28).bind fun h29 =>
(gd (wt t33_26 true) (loadV Try.prog 29 t4_27 h29)).bind fun t36_30 =>
obH (gdH (wt t33_26 true) h29 (evC Try.prog 34 #[t36_30, (Go.Value.int Go.IntKind.i64 0), (Go.Value.int Go.IntKind.i64 1)] h29)) fun t37_31 h32 =>
(gd (wt t33_26 true) (binV Try.prog .eql 46 (.tmp 37) (.const (Go.Value.int Go.IntKind.u64 1)) t37_31 (Go.Value.int Go.IntKind.u64 1))).bind fun t38_33 =>
(pickV t33_26 t38_33 (Go.Value.bool Bool.false)).bind fun t39_34 =>
obH (gdH (wt t39_34 true) h32 (evC Try.prog 35 #[(gdV (wt t39_34 true) t8_2)] h32)) fun t42_35 h36 =>
obH (gdH (wt t39_34 true) h36 (evC Try.prog 34 #[t42_35, (Go.Value.int Go.IntKind.i64 0), (Go.Value.int Go.IntKind.i64 1)] h36)) fun t43_37 h38 =>
(gd (wt t39_34 true) (binV Try.prog .eql 46 (.tmp 43) (.const (Go.Value.int Go.IntKind.u64 2)) t43_37 (Go.Value.int Go.IntKind.u64 2))).bind fun t44_39 =>
(pickV t39_34 t44_39 (Go.Value.bool Bool.false)).bind fun t45_40 =>
k .ret ⟨#[t45_40, t8_2, t9_3, t23_17, t4_27, t33_26, t7_0, t7_0, t8_2, t9_3, t9_3, t11_4, t11_4, (gdV (wt t11_4 false) t8_2), t14_5, t15_6, t8_2, t17_7, t18_9, t19_11, t8_2, t21_13, t22_15, t23_17, t23_17, t25_19, t26_20, t31_23, t23_17, t29_21, t30_22, t31_23, t32_25, t33_26, t33_26, t33_26, t36_30, t37_31, t38_33, t39_34, t39_34, (gdV (wt t39_34 true) t8_2), t42_35, t43_37, t44_39, t45_40], h38⟩)) := by kernel_rfl
theorem call17 (h : Heap) : evC Try.prog 17 #[] h = codeK Try.prog (evC Try.prog) loopL c17_0 ⟨#[undef, undef, undef, undef, undef, undef, undef, undef, undef, undef, undef, undef, undef, undef, undef, undef, undef, undef, undef, undef, undef, undef, undef, undef, undef, undef, undef, undef, undef, undef, undef, undef, undef, undef, undef, undef, undef, undef, undef, undef, undef, undef, undef, undef, undef, undef], nm h⟩ (retK Try.f17 Try.prog h) :=
  (evC_call 17 Try.f17 c17_0 Try.func17 (by kernel_rfl) #[] h).trans (by kernel_rfl)
theorem ret17 (x0 x1 x2 x3 x4 x5 x6 x7 x8 x9 x10 x11 x12 x13 x14 x15 x16 x17 x18 x19 x20 x21 x22 x23 x24 x25 x26 x27 x28 x29 x30 x31 x32 x33 x34 x35 x36 x37 x38 x39 x40 x41 x42 x43 x44 x45 : Value) (h0 h : Heap) : retK Try.f17 Try.prog h0 .ret ⟨#[x0, x1, x2, x3, x4, x5, x6, x7, x8, x9, x10, x11, x12, x13, x14, x15, x16, x17, x18, x19, x20, x21, x22, x23, x24, x25, x26, x27, x28, x29, x30, x31, x32, x33, x34, x35, x36, x37, x38, x39, x40, x41, x42, x43, x44, x45], h⟩ = fin h0 (some x0) h := by kernel_rfl
theorem retn17 (x0 x1 x2 x3 x4 x5 x6 x7 x8 x9 x10 x11 x12 x13 x14 x15 x16 x17 x18 x19 x20 x21 x22 x23 x24 x25 x26 x27 x28 x29 x30 x31 x32 x33 x34 x35 x36 x37 x38 x39 x40 x41 x42 x43 x44 x45 : Value) (h0 h : Heap) : retK Try.f17 Try.prog h0 .normal ⟨#[x0, x1, x2, x3, x4, x5, x6, x7, x8, x9, x10, x11, x12, x13, x14, x15, x16, x17, x18, x19, x20, x21, x22, x23, x24, x25, x26, x27, x28, x29, x30, x31, x32, x33, x34, x35, x36, x37, x38, x39, x40, x41, x42, x43, x44, x45], h⟩ = fin h0 (some x0) h := by kernel_rfl
end Go.Am
namespace Go.Am
open Go.Proofs
set_option maxRecDepth 100000
noncomputable def c31_0 : Code := bodyC Try.f31 []
noncomputable def c31_1 : Code := bodyC Try.f31 [true, true, true, false, true, false, false]
noncomputable def c31_2 : Code := bodyC Try.f31 [true, true, true, true]
theorem c31_0_eq {β : Type} (x0 x1 x2 x3 x4 x5 x6 x7 x8 x9 x10 x11 x12 x13 x14 x15 x16 x17 x18 x19 x20 x21 x22 x23 x24 x25 x26 x27 x28 x29 x30 x31 x32 x33 x34 x35 x36 x37 x38 x39 x40 x41 x42 x43 x44 x45 x46 x47 x48 x49 x50 x51 x52 x53 x54 x55 x56 x57 x58 x59 x60 x61 x62 x63 x64 x65 : Value) (h : Heap) (k : Ex → St → Option β) : codeK Try.prog (evC Try.prog) loopL c31_0 ⟨#[x0, x1, x2, x3, x4, x5, x6, x7, x8, x9, x10, x11, x12, x13, x14, x15, x16, x17, x18, x19, x20, x21, x22, x23, x24, x25, x26, x27, x28, x29, x30, x31, x32, x33, x34, x35, x36, x37, x38, x39, x40, x41, x42, x43, x44, x45, x46, x47, x48, x49, x50, x51, x52, x53, x54, x55, x56, x57, x58, x59, x60, x61, x62, x63, x64, x65], h⟩ k =
(nilCheckV x0).bind fun t15_0 =>
(fieldAddrV Try.prog 127 t15_0 0).bind fun t16_1 =>
(loadV Try.prog 3 t16_1 h).bind fun t17_2 =>
obH (evC Try.prog 21 #[t17_2, x3] h) fun t19_3 h4 =>
(extractV t19_3 0).bind fun t20_5 =>
(extractV t19_3 1).bind fun t21_6 =>
obH (allocV Try.prog 29 h4) fun t9_7 h8 =>
(storeV Try.prog 29 t9_7 t20_5 h8).bind fun h9 =>
(unV Try.prog .not t21_6).bind fun t23_10 =>
(gd (wt t23_10 false) (binV Try.prog .lss 3 (.tmp 25) (.const (Go.Value.int Go.IntKind.i64 0)) (gdV (wt t23_10 false) x1) (Go.Value.int Go.IntKind.i64 0))).bind fun t26_11 =>
(pickV t23_10 (Go.Value.bool Bool.true) t26_11).bind fun t27_12 =>
(gd (wt t27_12 false) (nilCheckV (gdV (wt t27_12 false) x0))).bind fun t31_13 =>
(gd (wt t27_12 false) (fieldAddrV Try.prog 127 t31_13 0)).bind fun t32_14 =>
(gd (wt t27_12 false) (loadV Try.prog 3 t32_14 h9)).bind fun t33_15 =>
(gd (wt t27_12 false) (binV Try.prog .geq 3 (.tmp 29) (.tmp 33) (gdV (wt t27_12 false) x1) t33_15)).bind fun t34_16 =>
(pickV t27_12 (Go.Value.bool Bool.true) t34_16).bind fun t35_17 =>
(gd (wt t35_17 false) (nilCheckV (gdV (wt t35_17 false) x0))).bind fun t39_18 =>
(gd (wt t35_17 false) (fieldAddrV Try.prog 127 t39_18 1)).bind fun t40_19 =>
(gd (wt t35_17 false) (loadV Try.prog 3 t40_19 h9)).bind fun t41_20 =>
(gd (wt t35_17 false) (binV Try.prog .eql 3 (.tmp 37) (.tmp 41) (gdV (wt t35_17 false) x1) t41_20)).bind fun t42_21 =>
(pickV t35_17 (Go.Value.bool Bool.true) t42_21).bind fun t43_22 =>
cnd t43_22 (
k .ret ⟨#[x0, x1, x2, x3, x4, x5, x6, x7, (Go.Value.bool Bool.false), t9_7, t21_6, x11, x12, t19_3, x0, t15_0, t16_1, t17_2, x3, t19_3, t20_5, t21_6, t21_6, t23_10, t23_10, (gdV (wt t23_10 false) x1), t26_11, t27_12, t27_12, (gdV (wt t27_12 false) x1), (gdV (wt t27_12 false) x0), t31_13, t32_14, t33_15, t34_16, t35_17, t35_17, (gdV (wt t35_17 false) x1), (gdV (wt t35_17 false) x0), t39_18, t40_19, t41_20, t42_21, t43_22, x44, x45, x46, x47, x48, x49, x50, x51, x52, x53, x54, x55, x56, x57, x58, x59, x60, x61, x62, x63, x64, x65], h9⟩) (
(loadV Try.prog 29 t9_7 h9).bind fun t44_23 =>
(nilCheckV x0).bind fun t46_24 =>
(fieldAddrV Try.prog 127 t46_24 1).bind fun t47_25 =>
(loadV Try.prog 3 t47_25 h9).bind fun t48_26 =>
obH (evC Try.prog 85 #[t44_23, t48_26] h9) fun t49_27 h28 =>
(lenV Try.prog 53 t49_27 h28).bind fun t50_29 =>
loopK Try.prog (evC Try.prog) c31_1 ⟨#[x0, x1, x2, x3, x4, x5, x6, x7, (Go.Value.bool Bool.false), t9_7, t21_6, x11, x12, t19_3, x0, t15_0, t16_1, t17_2, x3, t19_3, t20_5, t21_6, t21_6, t23_10, t23_10, (gdV (wt t23_10 false) x1), t26_11, t27_12, t27_12, (gdV (wt t27_12 false) x1), (gdV (wt t27_12 false) x0), t31_13, t32_14, t33_15, t34_16, t35_17, t35_17, (gdV (wt t35_17 false) x1), (gdV (wt t35_17 false) x0), t39_18, t40_19, t41_20, t42_21, t43_22, t44_23, x0, t46_24, t47_25, t48_26, t49_27, t50_29, (Go.Value.int Go.IntKind.i64 0), x52, x53, x54, x55, x56, x57, x58, x59, x60, x61, x62, x63, x64, x65], h28⟩ (blockK 0 (seqK Try.prog (evC Try.prog) c31_2 k))) := by kernel_rfl
theorem c31_1_eq {β : Type} (x0 x1 x2 x3 x4 x5 x6 x7 x8 x9 x10 x11 x12 x13 x14 x15 x16 x17 x18 x19 x20 x21 x22 x23 x24 x25 x26 x27 x28 x29 x30 x31 x32 x33 x34 x35 x36 x37 x38 x39 x40 x41 x42 x43 x44 x45 x46 x47 x48 x49 x50 x51 x52 x53 x54 x55 x56 x57 x58 x59 x60 x61 x62 x63 x64 x65 : Value) (h : Heap) (k : Ex → St → Option β) : codeK Try.prog (evC Try.prog) loopL c31_1 ⟨#[x0, x1, x2, x3, x4, x5, x6, x7, x8, x9, x10, x11, x12, x13, x14, x15, x16, x17, x18, x19, x20, x21, x22, x23, x24, x25, x26, x27, x28, x29, x30, x31, x32, x33, x34, x35, x36, x37, x38, x39, x40, x41, x42, x43, x44, x45, x46, x47, x48, x49, x50, x51, x52, x53, x54, x55, x56, x57, x58, x59, x60, x61, x62, x63, x64, x65], h⟩ k =
(binV Try.prog .lss 3 (.tmp 51) (.tmp 50) x51 x50).bind fun t52_30 =>
cnd t52_30 (
(indexAddrV Try.prog 53 x49 x51).bind fun t54_31 =>
(loadV Try.prog 46 t54_31 h).bind fun t55_32 =>
(nilCheckV x0).bind fun t57_33 =>
(fieldAddrV Try.prog 127 t57_33 3).bind fun t58_34 =>
(loadV Try.prog 53 t58_34 h).bind fun t59_35 =>
(indexAddrV Try.prog 53 t59_35 x51).bind fun t61_36 =>
(loadV Try.prog 46 t61_36 h).bind fun t62_37 =>
(binV Try.prog .lss 46 (.tmp 62) (.tmp 63) t62_37 t55_32).bind fun t64_38 =>
cnd t64_38 (
k .ret ⟨#[x0, x1, x2, x3, x4, x5, x6, x7, (Go.Value.bool Bool.false), x9, x10, x51, t55_32, x13, x14, x15, x16, x17, x18, x19, x20, x21, x22, x23, x24, x25, x26, x27, x28, x29, x30, x31, x32, x33, x34, x35, x36, x37, x38, x39, x40, x41, x42, x43, x44, x45, x46, x47, x48, x49, x50, x51, t52_30, x51, t54_31, t55_32, x0, t57_33, t58_34, t59_35, x51, t61_36, t62_37, t55_32, t64_38, x65], h⟩) (
(binV Try.prog .add 3 (.tmp 51) (.const (Go.Value.int Go.IntKind.i64 1)) x51 (Go.Value.int Go.IntKind.i64 1)).bind fun t65_39 =>
k .normal ⟨#[x0, x1, x2, x3, x4, x5, x6, x7, x8, x9, x10, x51, t55_32, x13, x14, x15, x16, x17, x18, x19, x20, x21, x22, x23, x24, x25, x26, x27, x28, x29, x30, x31, x32, x33, x34, x35, x36, x37, x38, x39, x40, x41, x42, x43, x44, x45, x46, x47, x48, x49, x50, t65_39, t52_30, x51, t54_31, t55_32, x0, t57_33, t58_34, t59_35, x51, t61_36, t62_37, t55_32, t64_38, t65_39], h⟩)) (
k (.exit 0) ⟨#[x0, x1, x2, x3, x4, x5, x6, x7, x8, x9, x10, x11, x12, x13, x14, x15, x16, x17, x18, x19, x20, x21, x22, x23, x24, x25, x26, x27, x28, x29, x30, x31, x32, x33, x34, x35, x36, x37, x38, x39, x40, x41, x42, x43, x44, x45, x46, x47, x48, x49, x50, x51, t52_30, x53, x54, x55, x56, x57, x58, x59, x60, x61, x62, x63, x64, x65], h⟩) := by kernel_rfl
theorem c31_2_eq {β : Type} (x0 x1 x2 x3 x4 x5 x6 x7 x8 x9 x10 x11 x12 x13 x14 x15 x16 x17 x18 x19 x20 x21 x22 x23 x24 x25 x26 x27 x28 x29 x30 x31 x32 x33 x34 x35 x36 x37 x38 x39 x40 x41 x42 x43 x44 x45 x46 x47 x48 x49 x50 x51 x52 x53 x54 x55 x56 x57 x58 x59 x60 x61 x62 x63 x64 x65 : Value) (h : Heap) (k : Ex → St → Option β) : codeK Try.prog (evC Try.prog) loopL c31_2 ⟨#[x0, x1, x2, x3, x4, x5, x6, x7, x8, x9, x10, x11, x12, x13, x14, x15, x16, x17, x18, x19, x20, x21, x22, x23, x24, x25, x26, x27, x28, x29, x30, x31, x32, x33, x34, x35, x36, x37, x38, x39, x40, x41, x42, x43, x44, x45, x46, x47, x48, x49, x50, x51, x52, x53, x54, x55, x56, x57, x58, x59, x60, x61, x62, x63, x64, x65], h⟩ k =
k .ret ⟨#[x0, x1, x2, x3, x4, x5, x6, x7, (Go.Value.bool Bool.true), x9, x10, x11, x12, x13, x14, x15, x16, x17, x18, x19, x20, x21, x22, x23, x24, x25, x26, x27, x28, x29, x30, x31, x32, x33, x34, x35, x36, x37, x38, x39, x40, x41, x42, x43, x44, x45, x46, x47, x48, x49, x50, x51, x52, x53, x54, x55, x56, x57, x58, x59, x60, x61, x62, x63, x64, x65], h⟩ := by kernel_rfl
theorem call31 (x0 x1 x2 x3 : Value) (h : Heap) : evC Try.prog 31 #[x0, x1, x2, x3] h = codeK Try.prog (evC Try.prog) loopL c31_0 ⟨#[x0, x1, x2, x3, undef, undef, undef, undef, undef, undef, undef, undef, undef, undef, undef, undef, undef, undef, undef, undef, undef, undef, undef, undef, undef, undef, undef, undef, undef, undef, undef, undef, undef, undef, undef, undef, undef, undef, undef, undef, undef, undef, undef, undef, undef, undef, undef, undef, undef, undef, undef, undef, undef, undef, undef, undef, undef, undef, undef, undef, undef, undef, undef, undef, undef, undef], nm h⟩ (retK Try.f31 Try.prog h) :=
  (evC_call 31 Try.f31 c31_0 Try.func31 (by kernel_rfl) #[x0, x1, x2, x3] h).trans (by kernel_rfl)
theorem ret31 (x0 x1 x2 x3 x4 x5 x6 x7 x8 x9 x10 x11 x12 x13 x14 x15 x16 x17 x18 x19 x20 x21 x22 x23 x24 x25 x26 x27 x28 x29 x30 x31 x32 x33 x34 x35 x36 x37 x38 x39 x40 x41 x42 x43 x44 x45 x46 x47 x48 x49 x50 x51 x52 x53 x54 x55 x56 x57 x58 x59 x60 x61 x62 x63 x64 x65 : Value) (h0 h : Heap) : retK Try.f31 Try.prog h0 .ret ⟨#[x0, x1, x2, x3, x4, x5, x6, x7, x8, x9, x10, x11, x12, x13, x14, x15, x16, x17, x18, x19, x20, x21, x22, x23, x24, x25, x26, x27, x28, x29, x30, x31, x32, x33, x34, x35, x36, x37, x38, x39, x40, x41, x42, x43, x44, x45, x46, x47, x48, x49, x50, x51, x52, x53, x54, x55, x56, x57, x58, x59, x60, x61, x62, x63, x64, x65], h⟩ = fin h0 (some x8) h := by kernel_rfl
theorem retn31 (x0 x1 x2 x3 x4 x5 x6 x7 x8 x9 x10 x11 x12 x13 x14 x15 x16 x17 x18 x19 x20 x21 x22 x23 x24 x25 x26 x27 x28 x29 x30 x31 x32 x33 x34 x35 x36 x37 x38 x39 x40 x41 x42 x43 x44 x45 x46 x47 x48 x49 x50 x51 x52 x53 x54 x55 x56 x57 x58 x59 x60 x61 x62 x63 x64 x65 : Value) (h0 h : Heap) : retK Try.f31 Try.prog h0 .normal ⟨#[x0, x1, x2, x3, x4, x5, x6, x7, x8, x9, x10, x11, x12, x13, x14, x15, x16, x17, x18, x19, x20, x21, x22, x23, x24, x25, x26, x27, x28, x29, x30, x31, x32, x33, x34, x35, x36, x37, x38, x39, x40, x41, x42, x43, x44, x45, x46, x47, x48, x49, x50, x51, x52, x53, x54, x55, x56, x57, x58, x59, x60, x61, x62, x63, x64, x65], h⟩ = fin h0 (some x8) h := by kernel_rfl
end Go.Am
namespace Go.Am
open Go.Proofs
set_option maxRecDepth 100000
noncomputable def c30_0 : Code := bodyC Try.f30 []
theorem c30_0_eq {β : Type} (x0 x1 x2 x3 x4 x5 x6 x7 x8 x9 x10 x11 x12 x13 x14 x15 x16 x17 x18 x19 x20 x21 x22 x23 x24 x25 x26 x27 x28 x29 x30 x31 x32 x33 x34 x35 x36 x37 x38 x39 x40 x41 x42 x43 x44 x45 x46 x47 x48 x49 x50 x51 x52 x53 x54 : Value) (h : Heap) (k : Ex → St → Option β) : codeK Try.prog (evC Try.prog) loopL c30_0 ⟨#[x0, x1, x2, x3, x4, x5, x6, x7, x8, x9, x10, x11, x12, x13, x14, x15, x16, x17, x18, x19, x20, x21, x22, x23, x24, x25, x26, x27, x28, x29, x30, x31, x32, x33, x34, x35, x36, x37, x38, x39, x40, x41, x42, x43, x44, x45, x46, x47, x48, x49, x50, x51, x52, x53, x54], h⟩ k =
obH (evC Try.prog 31 #[x0, x1, x2, x4] h) fun t17_0 h1 =>
(unV Try.prog .not t17_0).bind fun t18_2 =>
cnd t18_2 (
k .ret ⟨#[x0, x1, x2, x3, x4, x5, x6, x7, x8, x9, (Go.Value.bool Bool.false), x11, x12, x0, x1, x2, x4, t17_0, t18_2, x19, x20, x21, x22, x23, x24, x25, x26, x27, x28, x29, x30, x31, x32, x33, x34, x35, x36, x37, x38, x39, x40, x41, x42, x43, x44, x45, x46, x47, x48, x49, x50, x51, x52, x53, x54], h1⟩) (
(nilCheckV x0).bind fun t21_3 =>
(fieldAddrV Try.prog 127 t21_3 0).bind fun t22_4 =>
(loadV Try.prog 3 t22_4 h1).bind fun t23_5 =>
obH (evC Try.prog 21 #[t23_5, x4] h1) fun t25_6 h7 =>
(extractV t25_6 0).bind fun t26_8 =>
(extractV t25_6 1).bind fun t27_9 =>
obH (allocV Try.prog 29 h7) fun t11_10 h11 =>
(storeV Try.prog 29 t11_10 t26_8 h11).bind fun h12 =>
(nilCheckV x0).bind fun t31_13 =>
(fieldAddrV Try.prog 127 t31_13 3).bind fun t32_14 =>
(loadV Try.prog 53 t32_14 h12).bind fun t33_15 =>
obH (evC Try.prog 83 #[t33_15, x1] h12) fun t35_16 h17 =>
(extractV t35_16 0).bind fun t36_18 =>
(extractV t35_16 1).bind fun t37_19 =>
(nilCheckV x0).bind fun t38_20 =>
(fieldAddrV Try.prog 127 t38_20 3).bind fun t39_21 =>
(storeV Try.prog 53 t39_21 t36_18 h17).bind fun h22 =>
(nilCheckV x0).bind fun t43_23 =>
(fieldAddrV Try.prog 127 t43_23 2).bind fun t44_24 =>
(loadV Try.prog 29 t44_24 h22).bind fun t45_25 =>
(loadV Try.prog 29 t11_10 h22).bind fun t46_26 =>
obH (evC Try.prog 82 #[t46_26, x1, x3] (nm h22)) fun t49_27 h28 =>
obH (evC Try.prog 84 #[t45_25, t49_27] (am h28 h22)) fun t50_29 h30 =>
(extractV t50_29 0).bind fun t51_31 =>
(extractV t50_29 1).bind fun t52_32 =>
(nilCheckV x0).bind fun t53_33 =>
(fieldAddrV Try.prog 127 t53_33 2).bind fun t54_34 =>
(storeV Try.prog 29 t54_34 t51_31 h30).bind fun h35 =>
chk ((rb t44_24) ++ []) (h28.mods ++ []) (
k .ret ⟨#[x0, x1, x2, x3, x4, x5, x6, x7, x8, x9, (Go.Value.bool Bool.true), t11_10, t27_9, x0, x1, x2, x4, t17_0, t18_2, t25_6, x0, t21_3, t22_4, t23_5, x4, t25_6, t26_8, t27_9, t35_16, x0, x0, t31_13, t32_14, t33_15, x1, t35_16, t36_18, t37_19, t38_20, t39_21, t50_29, x0, x0, t43_23, t44_24, t45_25, t46_26, x1, x3, t49_27, t50_29, t51_31, t52_32, t53_33, t54_34], h35⟩)) := by kernel_rfl
theorem call30 (x0 x1 x2 x3 x4 : Value) (h : Heap) : evC Try.prog 30 #[x0, x1, x2, x3, x4] h = codeK Try.prog (evC Try.prog) loopL c30_0 ⟨#[x0, x1, x2, x3, x4, undef, undef, undef, undef, undef, undef, undef, undef, undef, undef, undef, undef, undef, undef, undef, undef, undef, undef, undef, undef, undef, undef, undef, undef, undef, undef, undef, undef, undef, undef, undef, undef, undef, undef, undef, undef, undef, undef, undef, undef, undef, undef, undef, undef, undef, undef, undef, undef, undef, undef], nm h⟩ (retK Try.f30 Try.prog h) :=
  (evC_call 30 Try.f30 c30_0 Try.func30 (by kernel_rfl) #[x0, x1, x2, x3, x4] h).trans (by kernel_rfl)
theorem ret30 (x0 x1 x2 x3 x4 x5 x6 x7 x8 x9 x10 x11 x12 x13 x14 x15 x16 x17 x18 x19 x20 x21 x22 x23 x24 x25 x26 x27 x28 x29 x30 x31 x32 x33 x34 x35 x36 x37 x38 x39 x40 x41 x42 x43 x44 x45 x46 x47 x48 x49 x50 x51 x52 x53 x54 : Value) (h0 h : Heap) : retK Try.f30 Try.prog h0 .ret ⟨#[x0, x1, x2, x3, x4, x5, x6, x7, x8, x9, x10, x11, x12, x13, x14, x15, x16, x17, x18, x19, x20, x21, x22, x23, x24, x25, x26, x27, x28, x29, x30, x31, x32, x33, x34, x35, x36, x37, x38, x39, x40, x41, x42, x43, x44, x45, x46, x47, x48, x49, x50, x51, x52, x53, x54], h⟩ = fin h0 (some x10) h := by kernel_rfl
theorem retn30 (x0 x1 x2 x3 x4 x5 x6 x7 x8 x9 x10 x11 x12 x13 x14 x15 x16 x17 x18 x19 x20 x21 x22 x23 x24 x25 x26 x27 x28 x29 x30 x31 x32 x33 x34 x35 x36 x37 x38 x39 x40 x41 x42 x43 x44 x45 x46 x47 x48 x49 x50 x51 x52 x53 x54 : Value) (h0 h : Heap) : retK Try.f30 Try.prog h0 .normal ⟨#[x0, x1, x2, x3, x4, x5, x6, x7, x8, x9, x10, x11, x12, x13, x14, x15, x16, x17, x18, x19, x20, x21, x22, x23, x24, x25, x26, x27, x28, x29, x30, x31, x32, x33, x34, x35, x36, x37, x38, x39, x40, x41, x42, x43, x44, x45, x46, x47, x48, x49, x50, x51, x52, x53, x54], h⟩ = fin h0 (some x10) h := by kernel_rfl
end Go.Am
namespace Go.Am
open Go.Proofs
set_option maxRecDepth 100000
noncomputable def c6_0 : Code := bodyC Try.f6 []
noncomputable def c6_1 : Code := bodyC Try.f6 [true, true, true, true, true, true, true, false, true, false, false]
noncomputable def c6_2 : Code := bodyC Try.f6 [true, true, true, true, true, true, true, true]
noncomputable def c6_3 : Code := bodyC Try.f6 [true, true, true, true, true, true, true, true, true, false, true, false, false]
noncomputable def c6_4 : Code := bodyC Try.f6 [true, true, true, true, true, true, true, true, true, true]
theorem c6_0_eq {β : Type} (x0 x1 x2 x3 x4 x5 x6 x7 x8 x9 x10 x11 x12 x13 x14 x15 x16 x17 x18 x19 x20 x21 x22 x23 x24 x25 x26 x27 x28 x29 x30 x31 x32 x33 x34 x35 x36 x37 x38 x39 x40 x41 x42 x43 x44 x45 x46 x47 x48 x49 x50 x51 x52 x53 x54 x55 x56 x57 x58 x59 x60 x61 x62 x63 x64 x65 x66 x67 x68 x69 x70 x71 x72 x73 x74 x75 x76 x77 x78 x79 x80 x81 x82 x83 x84 x85 x86 x87 x88 x89 x90 x91 x92 x93 x94 x95 x96 x97 x98 x99 x100 x101 x102 x103 x104 x105 x106 x107 x108 x109 x110 x111 x112 x113 x114 x115 x116 x117 x118 x119 x120 x121 x122 x123 x124 x125 x126 x127 x128 x129 x130 x131 x132 x133 x134 x135 x136 x137 x138 x139 x140 x141 x142 x143 x144 x145 x146 x147 x148 : Value) (h : Heap) (k : Ex → St → Option β) : codeK Try.prog (evC Try.prog) loopL c6_0 ⟨#[x0, x1, x2, x3, x4, x5, x6, x7, x8, x9, x10, x11, x12, x13, x14, x15, x16, x17, x18, x19, x20, x21, x22, x23, x24, x25, x26, x27, x28, x29, x30, x31, x32, x33, x34, x35, x36, x37, x38, x39, x40, x41, x42, x43, x44, x45, x46, x47, x48, x49, x50, x51, x52, x53, x54, x55, x56, x57, x58, x59, x60, x61, x62, x63, x64, x65, x66, x67, x68, x69, x70, x71, x72, x73, x74, x75, x76, x77, x78, x79, x80, x81, x82, x83, x84, x85, x86, x87, x88, x89, x90, x91, x92, x93, x94, x95, x96, x97, x98, x99, x100, x101, x102, x103, x104, x105, x106, x107, x108, x109, x110, x111, x112, x113, x114, x115, x116, x117, x118, x119, x120, x121, x122, x123, x124, x125, x126, x127, x128, x129, x130, x131, x132, x133, x134, x135, x136, x137, x138, x139, x140, x141, x142, x143, x144, x145, x146, x147, x148], h⟩ k =
obH (evC Try.prog 17 #[] h) fun t20_0 h1 =>
(unV Try.prog .not t20_0).bind fun t21_2 =>
cnd t21_2 (
k .ret ⟨#[x0, x1, x2, x3, x4, x5, x6, x7, x8, x9, (Go.Value.bool Bool.false), x11, x12, x13, x14, x15, x16, x17, x18, x19, t20_0, t21_2, x22, x23, x24, x25, x26, x27, x28, x29, x30, x31, x32, x33, x34, x35, x36, x37, x38, x39, x40, x41, x42, x43, x44, x45, x46, x47, x48, x49, x50, x51, x52, x53, x54, x55, x56, x57, x58, x59, x60, x61, x62, x63, x64, x65, x66, x67, x68, x69, x70, x71, x72, x73, x74, x75, x76, x77, x78, x79, x80, x81, x82, x83, x84, x85, x86, x87, x88, x89, x90, x91, x92, x93, x94, x95, x96, x97, x98, x99, x100, x101, x102, x103, x104, x105, x106, x107, x108, x109, x110, x111, x112, x113, x114, x115, x116, x117, x118, x119, x120, x121, x122, x123, x124, x125, x126, x127, x128, x129, x130, x131, x132, x133, x134, x135, x136, x137, x138, x139, x140, x141, x142, x143, x144, x145, x146, x147, x148], h1⟩) (
(binV Try.prog .lss 3 (.tmp 22) (.const (Go.Value.int Go.IntKind.i64 2)) x0 (Go.Value.int Go.IntKind.i64 2)).bind fun t23_3 =>
(gd (wt t23_3 false) (binV Try.prog .gtr 3 (.tmp 25) (.const (Go.Value.int Go.IntKind.i64 6)) (gdV (wt t23_3 false) x0) (Go.Value.int Go.IntKind.i64 6))).bind fun t26_4 =>
(pickV t23_3 (Go.Value.bool Bool.true) t26_4).bind fun t27_5 =>
(gd (wt t27_5 false) (binV Try.prog .lss 3 (.tmp 29) (.const (Go.Value.int Go.IntKind.i64 0)) (gdV (wt t27_5 false) x1) (Go.Value.int Go.IntKind.i64 0))).bind fun t30_6 =>
(pickV t27_5 (Go.Value.bool Bool.true) t30_6).bind fun t31_7 =>
(gd (wt t31_7 false) (binV Try.prog .geq 3 (.tmp 33) (.tmp 34) (gdV (wt t31_7 false) x1) (gdV (wt t31_7 false) x0))).bind fun t35_8 =>
(pickV t31_7 (Go.Value.bool Bool.true) t35_8).bind fun t36_9 =>
(gd (wt t36_9 false) (binV Try.prog .lss 3 (.tmp 38) (.const (Go.Value.int Go.IntKind.i64 0)) (gdV (wt t36_9 false) x2) (Go.Value.int Go.IntKind.i64 0))).bind fun t39_10 =>
(pickV t36_9 (Go.Value.bool Bool.true) t39_10).bind fun t40_11 =>
(gd (wt t40_11 false) (binV Try.prog .geq 3 (.tmp 42) (.tmp 43) (gdV (wt t40_11 false) x2) (gdV (wt t40_11 false) x0))).bind fun t44_12 =>
(pickV t40_11 (Go.Value.bool Bool.true) t44_12).bind fun t45_13 =>
(gd (wt t45_13 false) (binV Try.prog .eql 3 (.tmp 47) (.tmp 48) (gdV (wt t45_13 false) x1) (gdV (wt t45_13 false) x2))).bind fun t49_14 =>
(pickV t45_13 (Go.Value.bool Bool.true) t49_14).bind fun t50_15 =>
(gd (wt t50_15 false) (binV Try.prog .lss 3 (.tmp 52) (.const (Go.Value.int Go.IntKind.i64 2)) (gdV (wt t50_15 false) x3) (Go.Value.int Go.IntKind.i64 2))).bind fun t53_16 =>
(pickV t50_15 (Go.Value.bool Bool.true) t53_16).bind fun t54_17 =>
(gd (wt t54_17 false) (binV Try.prog .gtr 3 (.tmp 56) (.const (Go.Value.int Go.IntKind.i64 10)) (gdV (wt t54_17 false) x3) (Go.Value.int Go.IntKind.i64 10))).bind fun t57_18 =>
(pickV t54_17 (Go.Value.bool Bool.true) t57_18).bind fun t58_19 =>
(gd (wt t58_19 false) (binV Try.prog .lss 3 (.tmp 60) (.const (Go.Value.int Go.IntKind.i64 1)) (gdV (wt t58_19 false) x4) (Go.Value.int Go.IntKind.i64 1))).bind fun t61_20 =>
(pickV t58_19 (Go.Value.bool Bool.true) t61_20).bind fun t62_21 =>
(gd (wt t62_21 false) (binV Try.prog .geq 3 (.tmp 64) (.tmp 65) (gdV (wt t62_21 false) x4) (gdV (wt t62_21 false) x3))).bind fun t66_22 =>
(pickV t62_21 (Go.Value.bool Bool.true) t66_22).bind fun t67_23 =>
cnd t67_23 (
k .ret ⟨#[x0, x1, x2, x3, x4, x5, x6, x7, x8, x9, (Go.Value.bool Bool.true), x11, x12, x13, x14, x15, x16, x17, x18, x19, t20_0, t21_2, x0, t23_3, t23_3, (gdV (wt t23_3 false) x0), t26_4, t27_5, t27_5, (gdV (wt t27_5 false) x1), t30_6, t31_7, t31_7, (gdV (wt t31_7 false) x1), (gdV (wt t31_7 false) x0), t35_8, t36_9, t36_9, (gdV (wt t36_9 false) x2), t39_10, t40_11, t40_11, (gdV (wt t40_11 false) x2), (gdV (wt t40_11 false) x0), t44_12, t45_13, t45_13, (gdV (wt t45_13 false) x1), (gdV (wt t45_13 false) x2), t49_14, t50_15, t50_15, (gdV (wt t50_15 false) x3), t53_16, t54_17, t54_17, (gdV (wt t54_17 false) x3), t57_18, t58_19, t58_19, (gdV (wt t58_19 false) x4), t61_20, t62_21, t62_21, (gdV (wt t62_21 false) x4), (gdV (wt t62_21 false) x3), t66_22, t67_23, x68, x69, x70, x71, x72, x73, x74, x75, x76, x77, x78, x79, x80, x81, x82, x83, x84, x85, x86, x87, x88, x89, x90, x91, x92, x93, x94, x95, x96, x97, x98, x99, x100, x101, x102, x103, x104, x105, x106, x107, x108, x109, x110, x111, x112, x113, x114, x115, x116, x117, x118, x119, x120, x121, x122, x123, x124, x125, x126, x127, x128, x129, x130, x131, x132, x133, x134, x135, x136, x137, x138, x139, x140, x141, x142, x143, x144, x145, x146, x147, x148], h1⟩) (
obH (evC Try.prog 27 #[x0, x1] h1) fun t71_24 h25 =>
(extractV t71_24 0).bind fun t72_26 =>
(extractV t71_24 1).bind fun t73_27 =>
obH (evC Try.prog 27 #[x0, x2] h25) fun t77_28 h29 =>
(extractV t77_28 0).bind fun t78_30 =>
(extractV t77_28 1).bind fun t79_31 =>
(binV Try.prog .eql 40 (.tmp 80) (.const (Go.Value.pointer Option.none)) t72_26 (Go.Value.pointer Option.none)).bind fun t81_32 =>
(gd (wt t81_32 false) (binV Try.prog .eql 40 (.tmp 83) (.const (Go.Value.pointer Option.none)) (gdV (wt t81_32 false) t78_30) (Go.Value.pointer Option.none))).bind fun t84_33 =>
(pickV t81_32 (Go.Value.bool Bool.true) t84_33).bind fun t85_34 =>
cnd t85_34 (
k .ret ⟨#[x0, x1, x2, x3, x4, x5, x6, x7, x8, x9, (Go.Value.bool Bool.false), t72_26, t73_27, t78_30, t79_31, x15, x16, x17, x18, x19, t20_0, t21_2, x0, t23_3, t23_3, (gdV (wt t23_3 false) x0), t26_4, t27_5, t27_5, (gdV (wt t27_5 false) x1), t30_6, t31_7, t31_7, (gdV (wt t31_7 false) x1), (gdV (wt t31_7 false) x0), t35_8, t36_9, t36_9, (gdV (wt t36_9 false) x2), t39_10, t40_11, t40_11, (gdV (wt t40_11 false) x2), (gdV (wt t40_11 false) x0), t44_12, t45_13, t45_13, (gdV (wt t45_13 false) x1), (gdV (wt t45_13 false) x2), t49_14, t50_15, t50_15, (gdV (wt t50_15 false) x3), t53_16, t54_17, t54_17, (gdV (wt t54_17 false) x3), t57_18, t58_19, t58_19, (gdV (wt t58_19 false) x4), t61_20, t62_21, t62_21, (gdV (wt t62_21 false) x4), (gdV (wt t62_21 false) x3), t66_22, t67_23, t71_24, x0, x1, t71_24, t72_26, t73_27, t77_28, x0, x2, t77_28, t78_30, t79_31, t72_26, t81_32, t81_32, (gdV (wt t81_32 false) t78_30), t84_33, t85_34, x86, x87, x88, x89, x90, x91, x92, x93, x94, x95, x96, x97, x98, x99, x100, x101, x102, x103, x104, x105, x106, x107, x108, x109, x110, x111, x112, x113, x114, x115, x116, x117, x118, x119, x120, x121, x122, x123, x124, x125, x126, x127, x128, x129, x130, x131, x132, x133, x134, x135, x136, x137, x138, x139, x140, x141, x142, x143, x144, x145, x146, x147, x148], h29⟩) (
loopK Try.prog (evC Try.prog) c6_1 ⟨#[x0, x1, x2, x3, x4, x5, x6, x7, x8, x9, (Go.Value.bool Bool.false), t72_26, t73_27, t78_30, t79_31, (Go.Value.slice Option.none 0 0), (Go.Value.int Go.IntKind.i64 0), x17, x18, x19, t20_0, t21_2, x0, t23_3, t23_3, (gdV (wt t23_3 false) x0), t26_4, t27_5, t27_5, (gdV (wt t27_5 false) x1), t30_6, t31_7, t31_7, (gdV (wt t31_7 false) x1), (gdV (wt t31_7 false) x0), t35_8, t36_9, t36_9, (gdV (wt t36_9 false) x2), t39_10, t40_11, t40_11, (gdV (wt t40_11 false) x2), (gdV (wt t40_11 false) x0), t44_12, t45_13, t45_13, (gdV (wt t45_13 false) x1), (gdV (wt t45_13 false) x2), t49_14, t50_15, t50_15, (gdV (wt t50_15 false) x3), t53_16, t54_17, t54_17, (gdV (wt t54_17 false) x3), t57_18, t58_19, t58_19, (gdV (wt t58_19 false) x4), t61_20, t62_21, t62_21, (gdV (wt t62_21 false) x4), (gdV (wt t62_21 false) x3), t66_22, t67_23, t71_24, x0, x1, t71_24, t72_26, t73_27, t77_28, x0, x2, t77_28, t78_30, t79_31, t72_26, t81_32, t81_32, (gdV (wt t81_32 false) t78_30), t84_33, t85_34, x86, x87, x88, x89, x90, x91, x92, x93, x94, x95, x96, x97, x98, x99, x100, x101, x102, x103, x104, x105, x106, x107, x108, x109, x110, x111, x112, x113, x114, x115, x116, x117, x118, x119, x120, x121, x122, x123, x124, x125, x126, x127, x128, x129, x130, x131, x132, x133, x134, x135, x136, x137, x138, x139, x140, x141, x142, x143, x144, x145, x146, x147, x148], h29⟩ (blockK 0 (seqK Try.prog (evC Try.prog) c6_2 k))))) := by kernel_rfl
theorem c6_1_eq {β : Type} (x0 x1 x2 x3 x4 x5 x6 x7 x8 x9 x10 x11 x12 x13 x14 x15 x16 x17 x18 x19 x20 x21 x22 x23 x24 x25 x26 x27 x28 x29 x30 x31 x32 x33 x34 x35 x36 x37 x38 x39 x40 x41 x42 x43 x44 x45 x46 x47 x48 x49 x50 x51 x52 x53 x54 x55 x56 x57 x58 x59 x60 x61 x62 x63 x64 x65 x66 x67 x68 x69 x70 x71 x72 x73 x74 x75 x76 x77 x78 x79 x80 x81 x82 x83 x84 x85 x86 x87 x88 x89 x90 x91 x92 x93 x94 x95 x96 x97 x98 x99 x100 x101 x102 x103 x104 x105 x106 x107 x108 x109 x110 x111 x112 x113 x114 x115 x116 x117 x118 x119 x120 x121 x122 x123 x124 x125 x126 x127 x128 x129 x130 x131 x132 x133 x134 x135 x136 x137 x138 x139 x140 x141 x142 x143 x144 x145 x146 x147 x148 : Value) (h : Heap) (k : Ex → St → Option β) : codeK Try.prog (evC Try.prog) loopL c6_1 ⟨#[x0, x1, x2, x3, x4, x5, x6, x7, x8, x9, x10, x11, x12, x13, x14, x15, x16, x17, x18, x19, x20, x21, x22, x23, x24, x25, x26, x27, x28, x29, x30, x31, x32, x33, x34, x35, x36, x37, x38, x39, x40, x41, x42, x43, x44, x45, x46, x47, x48, x49, x50, x51, x52, x53, x54, x55, x56, x57, x58, x59, x60, x61, x62, x63, x64, x65, x66, x67, x68, x69, x70, x71, x72, x73, x74, x75, x76, x77, x78, x79, x80, x81, x82, x83, x84, x85, x86, x87, x88, x89, x90, x91, x92, x93, x94, x95, x96, x97, x98, x99, x100, x101, x102, x103, x104, x105, x106, x107, x108, x109, x110, x111, x112, x113, x114, x115, x116, x117, x118, x119, x120, x121, x122, x123, x124, x125, x126, x127, x128, x129, x130, x131, x132, x133, x134, x135, x136, x137, x138, x139, x140, x141, x142, x143, x144, x145, x146, x147, x148], h⟩ k =
(binV Try.prog .lss 3 (.tmp 86) (.tmp 87) x16 x3).bind fun t88_35 =>
cnd t88_35 (
obH (buildSliceV Try.prog 73 1 #[(0, x2)] h) fun t93_36 h37 =>
obH (evC Try.prog 29 #[t93_36] h37) fun t94_38 h39 =>
obH (evC Try.prog 28 #[x11, t94_38] h39) fun t95_40 h41 =>
(lenV Try.prog 44 t95_40 h41).bind fun t97_42 =>
(binV Try.prog .neq 3 (.tmp 97) (.const (Go.Value.int Go.IntKind.i64 1)) t97_42 (Go.Value.int Go.IntKind.i64 1)).bind fun t98_43 =>
cnd t98_43 (
k .ret ⟨#[x0, x1, x2, x3, x4, x5, x6, x7, x8, x9, (Go.Value.bool Bool.false), x11, x12, x13, x14, x15, x16, t95_40, x18, x19, x20, x21, x22, x23, x24, x25, x26, x27, x28, x29, x30, x31, x32, x33, x34, x35, x36, x37, x38, x39, x40, x41, x42, x43, x44, x45, x46, x47, x48, x49, x50, x51, x52, x53, x54, x55, x56, x57, x58, x59, x60, x61, x62, x63, x64, x65, x66, x67, x68, x69, x70, x71, x72, x73, x74, x75, x76, x77, x78, x79, x80, x81, x82, x83, x84, x85, x16, x3, t88_35, x89, x90, x11, x2, t93_36, t94_38, t95_40, t95_40, t97_42, t98_43, x99, x100, x101, x102, x103, x104, x105, x106, x107, x108, x109, x110, x111, x112, x113, x114, x115, x116, x117, x118, x119, x120, x121, x122, x123, x124, x125, x126, x127, x128, x129, x130, x131, x132, x133, x134, x135, x136, x137, x138, x139, x140, x141, x142, x143, x144, x145, x146, x147, x148], h41⟩) (
(indexAddrV Try.prog 44 t95_40 (Go.Value.int Go.IntKind.i64 0)).bind fun t101_44 =>
(loadV Try.prog 23 t101_44 h41).bind fun t102_45 =>
obH (buildSliceV Try.prog 44 1 #[(0, t102_45)] h41) fun t103_46 h47 =>
obH (appendV Try.prog 44 (some 44) x15 t103_46 h47) fun t104_48 h49 =>
(binV Try.prog .add 3 (.tmp 89) (.const (Go.Value.int Go.IntKind.i64 1)) x16 (Go.Value.int Go.IntKind.i64 1)).bind fun t90_50 =>
k .normal ⟨#[x0, x1, x2, x3, x4, x5, x6, x7, x8, x9, x10, x11, x12, x13, x14, t104_48, t90_50, t95_40, x18, x19, x20, x21, x22, x23, x24, x25, x26, x27, x28, x29, x30, x31, x32, x33, x34, x35, x36, x37, x38, x39, x40, x41, x42, x43, x44, x45, x46, x47, x48, x49, x50, x51, x52, x53, x54, x55, x56, x57, x58, x59, x60, x61, x62, x63, x64, x65, x66, x67, x68, x69, x70, x71, x72, x73, x74, x75, x76, x77, x78, x79, x80, x81, x82, x83, x84, x85, x16, x3, t88_35, x16, t90_50, x11, x2, t93_36, t94_38, t95_40, t95_40, t97_42, t98_43, x15, t95_40, t101_44, t102_45, t103_46, t104_48, x105, x106, x107, x108, x109, x110, x111, x112, x113, x114, x115, x116, x117, x118, x119, x120, x121, x122, x123, x124, x125, x126, x127, x128, x129, x130, x131, x132, x133, x134, x135, x136, x137, x138, x139, x140, x141, x142, x143, x144, x145, x146, x147, x148], h49⟩)) (
k (.exit 0) ⟨#[x0, x1, x2, x3, x4, x5, x6, x7, x8, x9, x10, x11, x12, x13, x14, x15, x16, x17, x18, x19, x20, x21, x22, x23, x24, x25, x26, x27, x28, x29, x30, x31, x32, x33, x34, x35, x36, x37, x38, x39, x40, x41, x42, x43, x44, x45, x46, x47, x48, x49, x50, x51, x52, x53, x54, x55, x56, x57, x58, x59, x60, x61, x62, x63, x64, x65, x66, x67, x68, x69, x70, x71, x72, x73, x74, x75, x76, x77, x78, x79, x80, x81, x82, x83, x84, x85, x16, x3, t88_35, x89, x90, x91, x92, x93, x94, x95, x96, x97, x98, x99, x100, x101, x102, x103, x104, x105, x106, x107, x108, x109, x110, x111, x112, x113, x114, x115, x116, x117, x118, x119, x120, x121, x122, x123, x124, x125, x126, x127, x128, x129, x130, x131, x132, x133, x134, x135, x136, x137, x138, x139, x140, x141, x142, x143, x144, x145, x146, x147, x148], h⟩) := by kernel_rfl
theorem c6_2_eq {β : Type} (x0 x1 x2 x3 x4 x5 x6 x7 x8 x9 x10 x11 x12 x13 x14 x15 x16 x17 x18 x19 x20 x21 x22 x23 x24 x25 x26 x27 x28 x29 x30 x31 x32 x33 x34 x35 x36 x37 x38 x39 x40 x41 x42 x43 x44 x45 x46 x47 x48 x49 x50 x51 x52 x53 x54 x55 x56 x57 x58 x59 x60 x61 x62 x63 x64 x65 x66 x67 x68 x69 x70 x71 x72 x73 x74 x75 x76 x77 x78 x79 x80 x81 x82 x83 x84 x85 x86 x87 x88 x89 x90 x91 x92 x93 x94 x95 x96 x97 x98 x99 x100 x101 x102 x103 x104 x105 x106 x107 x108 x109 x110 x111 x112 x113 x114 x115 x116 x117 x118 x119 x120 x121 x122 x123 x124 x125 x126 x127 x128 x129 x130 x131 x132 x133 x134 x135 x136 x137 x138 x139 x140 x141 x142 x143 x144 x145 x146 x147 x148 : Value) (h : Heap) (k : Ex → St → Option β) : codeK Try.prog (evC Try.prog) loopL c6_2 ⟨#[x0, x1, x2, x3, x4, x5, x6, x7, x8, x9, x10, x11, x12, x13, x14, x15, x16, x17, x18, x19, x20, x21, x22, x23, x24, x25, x26, x27, x28, x29, x30, x31, x32, x33, x34, x35, x36, x37, x38, x39, x40, x41, x42, x43, x44, x45, x46, x47, x48, x49, x50, x51, x52, x53, x54, x55, x56, x57, x58, x59, x60, x61, x62, x63, x64, x65, x66, x67, x68, x69, x70, x71, x72, x73, x74, x75, x76, x77, x78, x79, x80, x81, x82, x83, x84, x85, x86, x87, x88, x89, x90, x91, x92, x93, x94, x95, x96, x97, x98, x99, x100, x101, x102, x103, x104, x105, x106, x107, x108, x109, x110, x111, x112, x113, x114, x115, x116, x117, x118, x119, x120, x121, x122, x123, x124, x125, x126, x127, x128, x129, x130, x131, x132, x133, x134, x135, x136, x137, x138, x139, x140, x141, x142, x143, x144, x145, x146, x147, x148], h⟩ k =
(binV Try.prog .add 3 (.tmp 107) (.const (Go.Value.int Go.IntKind.i64 1)) x4 (Go.Value.int Go.IntKind.i64 1)).bind fun t108_51 =>
obH (convV Try.prog 3 46 t108_51 h) fun t109_52 h53 =>
(indexAddrV Try.prog 44 x15 x4).bind fun t112_54 =>
(loadV Try.prog 23 t112_54 h53).bind fun t113_55 =>
obH (evC Try.prog 31 #[x13, x1, t109_52, t113_55] h53) fun t114_56 h57 =>
cnd t114_56 (
k .ret ⟨#[x0, x1, x2, x3, x4, x5, x6, x7, x8, x9, (Go.Value.bool Bool.false), x11, x12, x13, x14, x15, x16, x17, x18, x19, x20, x21, x22, x23, x24, x25, x26, x27, x28, x29, x30, x31, x32, x33, x34, x35, x36, x37, x38, x39, x40, x41, x42, x43, x44, x45, x46, x47, x48, x49, x50, x51, x52, x53, x54, x55, x56, x57, x58, x59, x60, x61, x62, x63, x64, x65, x66, x67, x68, x69, x70, x71, x72, x73, x74, x75, x76, x77, x78, x79, x80, x81, x82, x83, x84, x85, x86, x87, x88, x89, x90, x91, x92, x93, x94, x95, x96, x97, x98, x99, x100, x101, x102, x103, x104, x13, x1, x4, t108_51, t109_52, x15, x4, t112_54, t113_55, t114_56, x115, x116, x117, x118, x119, x120, x121, x122, x123, x124, x125, x126, x127, x128, x129, x130, x131, x132, x133, x134, x135, x136, x137, x138, x139, x140, x141, x142, x143, x144, x145, x146, x147, x148], h57⟩) (
loopK Try.prog (evC Try.prog) c6_3 ⟨#[x0, x1, x2, x3, x4, x5, x6, x7, x8, x9, x10, x11, x12, x13, x14, x15, x16, x17, (Go.Value.int Go.IntKind.i64 0), x19, x20, x21, x22, x23, x24, x25, x26, x27, x28, x29, x30, x31, x32, x33, x34, x35, x36, x37, x38, x39, x40, x41, x42, x43, x44, x45, x46, x47, x48, x49, x50, x51, x52, x53, x54, x55, x56, x57, x58, x59, x60, x61, x62, x63, x64, x65, x66, x67, x68, x69, x70, x71, x72, x73, x74, x75, x76, x77, x78, x79, x80, x81, x82, x83, x84, x85, x86, x87, x88, x89, x90, x91, x92, x93, x94, x95, x96, x97, x98, x99, x100, x101, x102, x103, x104, x13, x1, x4, t108_51, t109_52, x15, x4, t112_54, t113_55, t114_56, x115, x116, x117, x118, x119, x120, x121, x122, x123, x124, x125, x126, x127, x128, x129, x130, x131, x132, x133, x134, x135, x136, x137, x138, x139, x140, x141, x142, x143, x144, x145, x146, x147, x148], h57⟩ (blockK 2 (seqK Try.prog (evC Try.prog) c6_4 k))) := by kernel_rfl
theorem c6_3_eq {β : Type} (x0 x1 x2 x3 x4 x5 x6 x7 x8 x9 x10 x11 x12 x13 x14 x15 x16 x17 x18 x19 x20 x21 x22 x23 x24 x25 x26 x27 x28 x29 x30 x31 x32 x33 x34 x35 x36 x37 x38 x39 x40 x41 x42 x43 x44 x45 x46 x47 x48 x49 x50 x51 x52 x53 x54 x55 x56 x57 x58 x59 x60 x61 x62 x63 x64 x65 x66 x67 x68 x69 x70 x71 x72 x73 x74 x75 x76 x77 x78 x79 x80 x81 x82 x83 x84 x85 x86 x87 x88 x89 x90 x91 x92 x93 x94 x95 x96 x97 x98 x99 x100 x101 x102 x103 x104 x105 x106 x107 x108 x109 x110 x111 x112 x113 x114 x115 x116 x117 x118 x119 x120 x121 x122 x123 x124 x125 x126 x127 x128 x129 x130 x131 x132 x133 x134 x135 x136 x137 x138 x139 x140 x141 x142 x143 x144 x145 x146 x147 x148 : Value) (h : Heap) (k : Ex → St → Option β) : codeK Try.prog (evC Try.prog) loopL c6_3 ⟨#[x0, x1, x2, x3, x4, x5, x6, x7, x8, x9, x10, x11, x12, x13, x14, x15, x16, x17, x18, x19, x20, x21, x22, x23, x24, x25, x26, x27, x28, x29, x30, x31, x32, x33, x34, x35, x36, x37, x38, x39, x40, x41, x42, x43, x44, x45, x46, x47, x48, x49, x50, x51, x52, x53, x54, x55, x56, x57, x58, x59, x60, x61, x62, x63, x64, x65, x66, x67, x68, x69, x70, x71, x72, x73, x74, x75, x76, x77, x78, x79, x80, x81, x82, x83, x84, x85, x86, x87, x88, x89, x90, x91, x92, x93, x94, x95, x96, x97, x98, x99, x100, x101, x102, x103, x104, x105, x106, x107, x108, x109, x110, x111, x112, x113, x114, x115, x116, x117, x118, x119, x120, x121, x122, x123, x124, x125, x126, x127, x128, x129, x130, x131, x132, x133, x134, x135, x136, x137, x138, x139, x140, x141, x142, x143, x144, x145, x146, x147, x148], h⟩ k =
(binV Try.prog .lss 3 (.tmp 115) (.tmp 116) x18 x3).bind fun t117_58 =>
cnd t117_58 (
(binV Try.prog .add 3 (.tmp 122) (.const (Go.Value.int Go.IntKind.i64 1)) x18 (Go.Value.int Go.IntKind.i64 1)).bind fun t123_59 =>
obH (convV Try.prog 3 46 t123_59 h) fun t124_60 h61 =>
obH (buildSliceV Try.prog 73 1 #[(0, x2)] h61) fun t126_62 h63 =>
obH (evC Try.prog 29 #[t126_62] (nm h63)) fun t127_64 h65 =>
(indexAddrV Try.prog 44 x15 x18).bind fun t130_66 =>
(loadV Try.prog 23 t130_66 (am h65 h63)).bind fun t131_67 =>
obH (evC Try.prog 30 #[x13, x1, t124_60, t127_64, t131_67] (am h65 h63)) fun t132_68 h69 =>
(unV Try.prog .not t132_68).bind fun t133_70 =>
chk ((rb t130_66) ++ []) (h65.mods ++ []) (
cnd t133_70 (
k .ret ⟨#[x0, x1, x2, x3, x4, x5, x6, x7, x8, x9, (Go.Value.bool Bool.false), x11, x12, x13, x14, x15, x16, x17, x18, x19, x20, x21, x22, x23, x24, x25, x26, x27, x28, x29, x30, x31, x32, x33, x34, x35, x36, x37, x38, x39, x40, x41, x42, x43, x44, x45, x46, x47, x48, x49, x50, x51, x52, x53, x54, x55, x56, x57, x58, x59, x60, x61, x62, x63, x64, x65, x66, x67, x68, x69, x70, x71, x72, x73, x74, x75, x76, x77, x78, x79, x80, x81, x82, x83, x84, x85, x86, x87, x88, x89, x90, x91, x92, x93, x94, x95, x96, x97, x98, x99, x100, x101, x102, x103, x104, x105, x106, x107, x108, x109, x110, x111, x112, x113, x114, x18, x3, t117_58, x118, x119, x13, x1, x18, t123_59, t124_60, x2, t126_62, t127_64, x15, x18, t130_66, t131_67, t132_68, t133_70, x134, x135, x136, x137, x138, x139, x140, x141, x142, x143, x144, x145, x146, x147, x148], h69⟩) (
(binV Try.prog .add 3 (.tmp 118) (.const (Go.Value.int Go.IntKind.i64 1)) x18 (Go.Value.int Go.IntKind.i64 1)).bind fun t119_71 =>
k .normal ⟨#[x0, x1, x2, x3, x4, x5, x6, x7, x8, x9, x10, x11, x12, x13, x14, x15, x16, x17, t119_71, x19, x20, x21, x22, x23, x24, x25, x26, x27, x28, x29, x30, x31, x32, x33, x34, x35, x36, x37, x38, x39, x40, x41, x42, x43, x44, x45, x46, x47, x48, x49, x50, x51, x52, x53, x54, x55, x56, x57, x58, x59, x60, x61, x62, x63, x64, x65, x66, x67, x68, x69, x70, x71, x72, x73, x74, x75, x76, x77, x78, x79, x80, x81, x82, x83, x84, x85, x86, x87, x88, x89, x90, x91, x92, x93, x94, x95, x96, x97, x98, x99, x100, x101, x102, x103, x104, x105, x106, x107, x108, x109, x110, x111, x112, x113, x114, x18, x3, t117_58, x18, t119_71, x13, x1, x18, t123_59, t124_60, x2, t126_62, t127_64, x15, x18, t130_66, t131_67, t132_68, t133_70, x134, x135, x136, x137, x138, x139, x140, x141, x142, x143, x144, x145, x146, x147, x148], h69⟩))) (
k (.exit 2) ⟨#[x0, x1, x2, x3, x4, x5, x6, x7, x8, x9, x10, x11, x12, x13, x14, x15, x16, x17, x18, x19, x20, x21, x22, x23, x24, x25, x26, x27, x28, x29, x30, x31, x32, x33, x34, x35, x36, x37, x38, x39, x40, x41, x42, x43, x44, x45, x46, x47, x48, x49, x50, x51, x52, x53, x54, x55, x56, x57, x58, x59, x60, x61, x62, x63, x64, x65, x66, x67, x68, x69, x70, x71, x72, x73, x74, x75, x76, x77, x78, x79, x80, x81, x82, x83, x84, x85, x86, x87, x88, x89, x90, x91, x92, x93, x94, x95, x96, x97, x98, x99, x100, x101, x102, x103, x104, x105, x106, x107, x108, x109, x110, x111, x112, x113, x114, x18, x3, t117_58, x118, x119, x120, x121, x122, x123, x124, x125, x126, x127, x128, x129, x130, x131, x132, x133, x134, x135, x136, x137, x138, x139, x140, x141, x142, x143, x144, x145, x146, x147, x148], h⟩) := by kernel_rfl
theorem c6_4_eq {β : Type} (x0 x1 x2 x3 x4 x5 x6 x7 x8 x9 x10 x11 x12 x13 x14 x15 x16 x17 x18 x19 x20 x21 x22 x23 x24 x25 x26 x27 x28 x29 x30 x31 x32 x33 x34 x35 x36 x37 x38 x39 x40 x41 x42 x43 x44 x45 x46 x47 x48 x49 x50 x51 x52 x53 x54 x55 x56 x57 x58 x59 x60 x61 x62 x63 x64 x65 x66 x67 x68 x69 x70 x71 x72 x73 x74 x75 x76 x77 x78 x79 x80 x81 x82 x83 x84 x85 x86 x87 x88 x89 x90 x91 x92 x93 x94 x95 x96 x97 x98 x99 x100 x101 x102 x103 x104 x105 x106 x107 x108 x109 x110 x111 x112 x113 x114 x115 x116 x117 x118 x119 x120 x121 x122 x123 x124 x125 x126 x127 x128 x129 x130 x131 x132 x133 x134 x135 x136 x137 x138 x139 x140 x141 x142 x143 x144 x145 x146 x147 x148 : Value) (h : Heap) (k : Ex → St → Option β) : codeK Try.prog (evC Try.prog) loopL c6_4 ⟨#[x0, x1, x2, x3, x4, x5, x6, x7, x8, x9, x10, x11, x12, x13, x14, x15, x16, x17, x18, x19, x20, x21, x22, x23, x24, x25, x26, x27, x28, x29, x30, x31, x32, x33, x34, x35, x36, x37, x38, x39, x40, x41, x42, x43, x44, x45, x46, x47, x48, x49, x50, x51, x52, x53, x54, x55, x56, x57, x58, x59, x60, x61, x62, x63, x64, x65, x66, x67, x68, x69, x70, x71, x72, x73, x74, x75, x76, x77, x78, x79, x80, x81, x82, x83, x84, x85, x86, x87, x88, x89, x90, x91, x92, x93, x94, x95, x96, x97, x98, x99, x100, x101, x102, x103, x104, x105, x106, x107, x108, x109, x110, x111, x112, x113, x114, x115, x116, x117, x118, x119, x120, x121, x122, x123, x124, x125, x126, x127, x128, x129, x130, x131, x132, x133, x134, x135, x136, x137, x138, x139, x140, x141, x142, x143, x144, x145, x146, x147, x148], h⟩ k =
obH (evC Try.prog 33 #[x13] h) fun t135_72 h73 =>
(lenV Try.prog 53 t135_72 h73).bind fun t137_74 =>
(binV Try.prog .eql 3 (.tmp 137) (.tmp 138) t137_74 x0).bind fun t139_75 =>
(gd (wt t139_75 true) (indexAddrV Try.prog 53 (gdV (wt t139_75 true) t135_72) (gdV (wt t139_75 true) x1))).bind fun t143_76 =>
(gd (wt t139_75 true) (loadV Try.prog 46 t143_76 h73)).bind fun t144_77 =>
obH (gdH (wt t139_75 true) h73 (convV Try.prog 3 46 (gdV (wt t139_75 true) x3) h73)) fun t146_78 h79 =>
(gd (wt t139_75 true) (binV Try.prog .eql 46 (.tmp 144) (.tmp 146) t144_77 t146_78)).bind fun t147_80 =>
(pickV t139_75 t147_80 (Go.Value.bool Bool.false)).bind fun t148_81 =>
k .ret ⟨#[x0, x1, x2, x3, x4, x5, x6, x7, x8, x9, t148_81, x11, x12, x13, x14, x15, x16, x17, x18, t135_72, x20, x21, x22, x23, x24, x25, x26, x27, x28, x29, x30, x31, x32, x33, x34, x35, x36, x37, x38, x39, x40, x41, x42, x43, x44, x45, x46, x47, x48, x49, x50, x51, x52, x53, x54, x55, x56, x57, x58, x59, x60, x61, x62, x63, x64, x65, x66, x67, x68, x69, x70, x71, x72, x73, x74, x75, x76, x77, x78, x79, x80, x81, x82, x83, x84, x85, x86, x87, x88, x89, x90, x91, x92, x93, x94, x95, x96, x97, x98, x99, x100, x101, x102, x103, x104, x105, x106, x107, x108, x109, x110, x111, x112, x113, x114, x115, x116, x117, x118, x119, x120, x121, x122, x123, x124, x125, x126, x127, x128, x129, x130, x131, x132, x133, x13, t135_72, t135_72, t137_74, x0, t139_75, t139_75, (gdV (wt t139_75 true) t135_72), (gdV (wt t139_75 true) x1), t143_76, t144_77, (gdV (wt t139_75 true) x3), t146_78, t147_80, t148_81], h79⟩ := by kernel_rfl
theorem call6 (x0 x1 x2 x3 x4 : Value) (h : Heap) : evC Try.prog 6 #[x0, x1, x2, x3, x4] h = codeK Try.prog (evC Try.prog) loopL c6_0 ⟨#[x0, x1, x2, x3, x4, undef, undef, undef, undef, undef, undef, undef, undef, undef, undef, undef, undef, undef, undef, undef, undef, undef, undef, undef, undef, undef, undef, undef, undef, undef, undef, undef, undef, undef, undef, undef, undef, undef, undef, undef, undef, undef, undef, undef, undef, undef, undef, undef, undef, undef, undef, undef, undef, undef, undef, undef, undef, undef, undef, undef, undef, undef, undef, undef, undef, undef, undef, undef, undef, undef, undef, undef, undef, undef, undef, undef, undef, undef, undef, undef, undef, undef, undef, undef, undef, undef, undef, undef, undef, undef, undef, undef, undef, undef, undef, undef, undef, undef, undef, undef, undef, undef, undef, undef, undef, undef, undef, undef, undef, undef, undef, undef, undef, undef, undef, undef, undef, undef, undef, undef, undef, undef, undef, undef, undef, undef, undef, undef, undef, undef, undef, undef, undef, undef, undef, undef, undef, undef, undef, undef, undef, undef, undef, undef, undef, undef, undef, undef, undef], nm h⟩ (retK Try.f6 Try.prog h) :=
  (evC_call 6 Try.f6 c6_0 Try.func6 (by kernel_rfl) #[x0, x1, x2, x3, x4] h).trans (by kernel_rfl)
theorem ret6 (x0 x1 x2 x3 x4 x5 x6 x7 x8 x9 x10 x11 x12 x13 x14 x15 x16 x17 x18 x19 x20 x21 x22 x23 x24 x25 x26 x27 x28 x29 x30 x31 x32 x33 x34 x35 x36 x37 x38 x39 x40 x41 x42 x43 x44 x45 x46 x47 x48 x49 x50 x51 x52 x53 x54 x55 x56 x57 x58 x59 x60 x61 x62 x63 x64 x65 x66 x67 x68 x69 x70 x71 x72 x73 x74 x75 x76 x77 x78 x79 x80 x81 x82 x83 x84 x85 x86 x87 x88 x89 x90 x91 x92 x93 x94 x95 x96 x97 x98 x99 x100 x101 x102 x103 x104 x105 x106 x107 x108 x109 x110 x111 x112 x113 x114 x115 x116 x117 x118 x119 x120 x121 x122 x123 x124 x125 x126 x127 x128 x129 x130 x131 x132 x133 x134 x135 x136 x137 x138 x139 x140 x141 x142 x143 x144 x145 x146 x147 x148 : Value) (h0 h : Heap) : retK Try.f6 Try.prog h0 .ret ⟨#[x0, x1, x2, x3, x4, x5, x6, x7, x8, x9, x10, x11, x12, x13, x14, x15, x16, x17, x18, x19, x20, x21, x22, x23, x24, x25, x26, x27, x28, x29, x30, x31, x32, x33, x34, x35, x36, x37, x38, x39, x40, x41, x42, x43, x44, x45, x46, x47, x48, x49, x50, x51, x52, x53, x54, x55, x56, x57, x58, x59, x60, x61, x62, x63, x64, x65, x66, x67, x68, x69, x70, x71, x72, x73, x74, x75, x76, x77, x78, x79, x80, x81, x82, x83, x84, x85, x86, x87, x88, x89, x90, x91, x92, x93, x94, x95, x96, x97, x98, x99, x100, x101, x102, x103, x104, x105, x106, x107, x108, x109, x110, x111, x112, x113, x114, x115, x116, x117, x118, x119, x120, x121, x122, x123, x124, x125, x126, x127, x128, x129, x130, x131, x132, x133, x134, x135, x136, x137, x138, x139, x140, x141, x142, x143, x144, x145, x146, x147, x148], h⟩ = fin h0 (some x10) h := by kernel_rfl
theorem retn6 (x0 x1 x2 x3 x4 x5 x6 x7 x8 x9 x10 x11 x12 x13 x14 x15 x16 x17 x18 x19 x20 x21 x22 x23 x24 x25 x26 x27 x28 x29 x30 x31 x32 x33 x34 x35 x36 x37 x38 x39 x40 x41 x42 x43 x44 x45 x46 x47 x48 x49 x50 x51 x52 x53 x54 x55 x56 x57 x58 x59 x60 x61 x62 x63 x64 x65 x66 x67 x68 x69 x70 x71 x72 x73 x74 x75 x76 x77 x78 x79 x80 x81 x82 x83 x84 x85 x86 x87 x88 x89 x90 x91 x92 x93 x94 x95 x96 x97 x98 x99 x100 x101 x102 x103 x104 x105 x106 x107 x108 x109 x110 x111 x112 x113 x114 x115 x116 x117 x118 x119 x120 x121 x122 x123 x124 x125 x126 x127 x128 x129 x130 x131 x132 x133 x134 x135 x136 x137 x138 x139 x140 x141 x142 x143 x144 x145 x146 x147 x148 : Value) (h0 h : Heap) : retK Try.f6 Try.prog h0 .normal ⟨#[x0, x1, x2, x3, x4, x5, x6, x7, x8, x9, x10, x11, x12, x13, x14, x15, x16, x17, x18, x19, x20, x21, x22, x23, x24, x25, x26, x27, x28, x29, x30, x31, x32, x33, x34, x35, x36, x37, x38, x39, x40, x41, x42, x43, x44, x45, x46, x47, x48, x49, x50, x51, x52, x53, x54, x55, x56, x57, x58, x59, x60, x61, x62, x63, x64, x65, x66, x67, x68, x69, x70, x71, x72, x73, x74, x75, x76, x77, x78, x79, x80, x81, x82, x83, x84, x85, x86, x87, x88, x89, x90, x91, x92, x93, x94, x95, x96, x97, x98, x99, x100, x101, x102, x103, x104, x105, x106, x107, x108, x109, x110, x111, x112, x113, x114, x115, x116, x117, x118, x119, x120, x121, x122, x123, x124, x125, x126, x127, x128, x129, x130, x131, x132, x133, x134, x135, x136, x137, x138, x139, x140, x141, x142, x143, x144, x145, x146, x147, x148], h⟩ = fin h0 (some x10) h := by kernel_rfl
end Go.Am
namespace Go.Am
open Go.Proofs
set_option maxRecDepth 100000
noncomputable def c4_0 : Code := bodyC Try.f4 []
theorem c4_0_eq {β : Type} (x0 x1 x2 x3 x4 x5 x6 x7 x8 x9 x10 x11 x12 x13 x14 x15 x16 x17 x18 x19 x20 x21 x22 x23 x24 x25 x26 x27 x28 x29 x30 x31 x32 x33 x34 x35 x36 x37 x38 x39 x40 x41 x42 x43 x44 x45 x46 x47 x48 x49 x50 x51 x52 x53 x54 x55 x56 x57 x58 x59 x60 x61 x62 x63 x64 x65 x66 x67 x68 x69 x70 x71 x72 x73 x74 x75 x76 x77 x78 x79 x80 x81 x82 x83 x84 x85 x86 x87 x88 x89 x90 x91 x92 x93 x94 x95 x96 x97 x98 x99 x100 x101 x102 x103 x104 x105 x106 x107 x108 x109 x110 x111 x112 x113 x114 x115 x116 x117 x118 x119 x120 x121 x122 x123 x124 x125 x126 x127 x128 x129 x130 x131 x132 x133 x134 x135 x136 x137 x138 x139 x140 x141 x142 x143 x144 x145 x146 x147 x148 x149 x150 x151 x152 x153 x154 x155 x156 x157 x158 x159 x160 x161 x162 x163 x164 x165 x166 x167 x168 x169 x170 x171 x172 x173 x174 x175 : Value) (h : Heap) (k : Ex → St → Option β) : codeK Try.prog (evC Try.prog) loopL c4_0 ⟨#[x0, x1, x2, x3, x4, x5, x6, x7, x8, x9, x10, x11, x12, x13, x14, x15, x16, x17, x18, x19, x20, x21, x22, x23, x24, x25, x26, x27, x28, x29, x30, x31, x32, x33, x34, x35, x36, x37, x38, x39, x40, x41, x42, x43, x44, x45, x46, x47, x48, x49, x50, x51, x52, x53, x54, x55, x56, x57, x58, x59, x60, x61, x62, x63, x64, x65, x66, x67, x68, x69, x70, x71, x72, x73, x74, x75, x76, x77, x78, x79, x80, x81, x82, x83, x84, x85, x86, x87, x88, x89, x90, x91, x92, x93, x94, x95, x96, x97, x98, x99, x100, x101, x102, x103, x104, x105, x106, x107, x108, x109, x110, x111, x112, x113, x114, x115, x116, x117, x118, x119, x120, x121, x122, x123, x124, x125, x126, x127, x128, x129, x130, x131, x132, x133, x134, x135, x136, x137, x138, x139, x140, x141, x142, x143, x144, x145, x146, x147, x148, x149, x150, x151, x152, x153, x154, x155, x156, x157, x158, x159, x160, x161, x162, x163, x164, x165, x166, x167, x168, x169, x170, x171, x172, x173, x174, x175], h⟩ k =
obH (evC Try.prog 17 #[] h) fun t22_0 h1 =>
(unV Try.prog .not t22_0).bind fun t23_2 =>
cnd t23_2 (
k .ret ⟨#[(Go.Value.bool Bool.false), x1, x2, x3, x4, x5, x6, x7, x8, x9, x10, x11, x12, x13, x14, x15, x16, x17, x18, x19, x20, x21, t22_0, t23_2, x24, x25, x26, x27, x28, x29, x30, x31, x32, x33, x34, x35, x36, x37, x38, x39, x40, x41, x42, x43, x44, x45, x46, x47, x48, x49, x50, x51, x52, x53, x54, x55, x56, x57, x58, x59, x60, x61, x62, x63, x64, x65, x66, x67, x68, x69, x70, x71, x72, x73, x74, x75, x76, x77, x78, x79, x80, x81, x82, x83, x84, x85, x86, x87, x88, x89, x90, x91, x92, x93, x94, x95, x96, x97, x98, x99, x100, x101, x102, x103, x104, x105, x106, x107, x108, x109, x110, x111, x112, x113, x114, x115, x116, x117, x118, x119, x120, x121, x122, x123, x124, x125, x126, x127, x128, x129, x130, x131, x132, x133, x134, x135, x136, x137, x138, x139, x140, x141, x142, x143, x144, x145, x146, x147, x148, x149, x150, x151, x152, x153, x154, x155, x156, x157, x158, x159, x160, x161, x162, x163, x164, x165, x166, x167, x168, x169, x170, x171, x172, x173, x174, x175], h1⟩) (
obH (evC Try.prog 27 #[(Go.Value.int Go.IntKind.i64 0), (Go.Value.int Go.IntKind.i64 0)] h1) fun t25_3 h4 =>
(extractV t25_3 0).bind fun t26_5 =>
(extractV t25_3 1).bind fun t27_6 =>
obH (evC Try.prog 27 #[(Go.Value.int Go.IntKind.i64 2), (Go.Value.int Go.IntKind.i64 2)] h4) fun t29_7 h8 =>
(extractV t29_7 0).bind fun t30_9 =>
(extractV t29_7 1).bind fun t31_10 =>
obH (evC Try.prog 27 #[(Go.Value.int Go.IntKind.i64 3), (Go.Value.int Go.IntKind.i64 0)] h8) fun t33_11 h12 =>
(extractV t33_11 0).bind fun t34_13 =>
(extractV t33_11 1).bind fun t35_14 =>
obH (evC Try.prog 27 #[(Go.Value.int Go.IntKind.i64 3), (Go.Value.int Go.IntKind.i64 1)] h12) fun t37_15 h16 =>
(extractV t37_15 0).bind fun t38_17 =>
(extractV t37_15 1).bind fun t39_18 =>
obH (evC Try.prog 27 #[(Go.Value.int Go.IntKind.i64 3), (Go.Value.int Go.IntKind.i64 2)] h16) fun t41_19 h20 =>
(extractV t41_19 0).bind fun t42_21 =>
(extractV t41_19 1).bind fun t43_22 =>
obH (buildSliceV Try.prog 73 2 #[(0, (Go.Value.int Go.IntKind.i64 1)), (1, (Go.Value.int Go.IntKind.i64 2))] h20) fun t45_23 h24 =>
obH (evC Try.prog 29 #[t45_23] h24) fun t46_25 h26 =>
obH (evC Try.prog 28 #[t34_13, t46_25] h26) fun t47_27 h28 =>
(lenV Try.prog 44 t47_27 h28).bind fun t49_29 =>
(binV Try.prog .neq 3 (.tmp 49) (.const (Go.Value.int Go.IntKind.i64 2)) t49_29 (Go.Value.int Go.IntKind.i64 2)).bind fun t50_30 =>
(gd (wt t50_30 false) (indexAddrV Try.prog 44 (gdV (wt t50_30 false) t47_27) (Go.Value.int Go.IntKind.i64 0))).bind fun t53_31 =>
(gd (wt t50_30 false) (loadV Try.prog 23 t53_31 h28)).bind fun t54_32 =>
(gd (wt t50_30 false) (lenV Try.prog 23 t54_32 h28)).bind fun t55_33 =>
(gd (wt t50_30 false) (binV Try.prog .neq 3 (.tmp 55) (.const (Go.Value.int Go.IntKind.i64 9)) t55_33 (Go.Value.int Go.IntKind.i64 9))).bind fun t56_34 =>
(pickV t50_30 (Go.Value.bool Bool.true) t56_34).bind fun t57_35 =>
cnd t57_35 (
k .ret ⟨#[(Go.Value.bool Bool.false), t26_5, t27_6, t30_9, t31_10, t34_13, t35_14, t38_17, t39_18, t42_21, t43_22, t47_27, x12, x13, x14, x15, x16, x17, x18, x19, x20, x21, t22_0, t23_2, t25_3, t25_3, t26_5, t27_6, t29_7, t29_7, t30_9, t31_10, t33_11, t33_11, t34_13, t35_14, t37_15, t37_15, t38_17, t39_18, t41_19, t41_19, t42_21, t43_22, t34_13, t45_23, t46_25, t47_27, t47_27, t49_29, t50_30, t50_30, (gdV (wt t50_30 false) t47_27), t53_31, t54_32, t55_33, t56_34, t57_35, x58, x59, x60, x61, x62, x63, x64, x65, x66, x67, x68, x69, x70, x71, x72, x73, x74, x75, x76, x77, x78, x79, x80, x81, x82, x83, x84, x85, x86, x87, x88, x89, x90, x91, x92, x93, x94, x95, x96, x97, x98, x99, x100, x101, x102, x103, x104, x105, x106, x107, x108, x109, x110, x111, x112, x113, x114, x115, x116, x117, x118, x119, x120, x121, x122, x123, x124, x125, x126, x127, x128, x129, x130, x131, x132, x133, x134, x135, x136, x137, x138, x139, x140, x141, x142, x143, x144, x145, x146, x147, x148, x149, x150, x151, x152, x153, x154, x155, x156, x157, x158, x159, x160, x161, x162, x163, x164, x165, x166, x167, x168, x169, x170, x171, x172, x173, x174, x175], h28⟩) (
obH (buildSliceV Try.prog 73 2 #[(0, (Go.Value.int Go.IntKind.i64 1)), (1, (Go.Value.int Go.IntKind.i64 2))] h28) fun t59_36 h37 =>
obH (evC Try.prog 29 #[t59_36] (nm h37)) fun t60_38 h39 =>
(indexAddrV Try.prog 44 t47_27 (Go.Value.int Go.IntKind.i64 0)).bind fun t62_40 =>
(loadV Try.prog 23 t62_40 (am h39 h37)).bind fun t63_41 =>
obH (evC Try.prog 30 #[t38_17, (Go.Value.int Go.IntKind.i64 0), (Go.Value.int Go.IntKind.u64 1), t60_38, t63_41] (am h39 h37)) fun t64_42 h43 =>
chk ((rb t62_40) ++ []) (h39.mods ++ []) (
obH (buildSliceV Try.prog 73 1 #[(0, (Go.Value.int Go.IntKind.i64 2))] h43) fun t66_44 h45 =>
obH (evC Try.prog 29 #[t66_44] h45) fun t67_46 h47 =>
obH (evC Try.prog 28 #[t38_17, t67_46] h47) fun t68_48 h49 =>
(lenV Try.prog 44 t68_48 h49).bind fun t70_50 =>
(binV Try.prog .neq 3 (.tmp 70) (.const (Go.Value.int Go.IntKind.i64 1)) t70_50 (Go.Value.int Go.IntKind.i64 1)).bind fun t71_51 =>
cnd t71_51 (
k .ret ⟨#[(Go.Value.bool Bool.false), t26_5, t27_6, t30_9, t31_10, t34_13, t35_14, t38_17, t39_18, t42_21, t43_22, t47_27, t64_42, t68_48, x14, x15, x16, x17, x18, x19, x20, x21, t22_0, t23_2, t25_3, t25_3, t26_5, t27_6, t29_7, t29_7, t30_9, t31_10, t33_11, t33_11, t34_13, t35_14, t37_15, t37_15, t38_17, t39_18, t41_19, t41_19, t42_21, t43_22, t34_13, t45_23, t46_25, t47_27, t47_27, t49_29, t50_30, t50_30, (gdV (wt t50_30 false) t47_27), t53_31, t54_32, t55_33, t56_34, t57_35, t38_17, t59_36, t60_38, t47_27, t62_40, t63_41, t64_42, t38_17, t66_44, t67_46, t68_48, t68_48, t70_50, t71_51, x72, x73, x74, x75, x76, x77, x78, x79, x80, x81, x82, x83, x84, x85, x86, x87, x88, x89, x90, x91, x92, x93, x94, x95, x96, x97, x98, x99, x100, x101, x102, x103, x104, x105, x106, x107, x108, x109, x110, x111, x112, x113, x114, x115, x116, x117, x118, x119, x120, x121, x122, x123, x124, x125, x126, x127, x128, x129, x130, x131, x132, x133, x134, x135, x136, x137, x138, x139, x140, x141, x142, x143, x144, x145, x146, x147, x148, x149, x150, x151, x152, x153, x154, x155, x156, x157, x158, x159, x160, x161, x162, x163, x164, x165, x166, x167, x168, x169, x170, x171, x172, x173, x174, x175], h49⟩) (
(indexAddrV Try.prog 44 t68_48 (Go.Value.int Go.IntKind.i64 0)).bind fun t74_52 =>
(loadV Try.prog 23 t74_52 h49).bind fun t75_53 =>
obH (evC Try.prog 31 #[t42_21, (Go.Value.int Go.IntKind.i64 1), (Go.Value.int Go.IntKind.u64 1), t75_53] h49) fun t76_54 h55 =>
obH (buildSliceV Try.prog 73 1 #[(0, (Go.Value.int Go.IntKind.i64 2))] h55) fun t78_56 h57 =>
obH (evC Try.prog 29 #[t78_56] (nm h57)) fun t79_58 h59 =>
(indexAddrV Try.prog 44 t68_48 (Go.Value.int Go.IntKind.i64 0)).bind fun t81_60 =>
(loadV Try.prog 23 t81_60 (am h59 h57)).bind fun t82_61 =>
obH (evC Try.prog 30 #[t42_21, (Go.Value.int Go.IntKind.i64 1), (Go.Value.int Go.IntKind.u64 1), t79_58, t82_61] (am h59 h57)) fun t83_62 h63 =>
chk ((rb t81_60) ++ []) (h59.mods ++ []) (
obH (buildSliceV Try.prog 73 2 #[(0, (Go.Value.int Go.IntKind.i64 1)), (1, (Go.Value.int Go.IntKind.i64 2))] h63) fun t85_64 h65 =>
obH (evC Try.prog 29 #[t85_64] (nm h65)) fun t86_66 h67 =>
(indexAddrV Try.prog 44 t47_27 (Go.Value.int Go.IntKind.i64 1)).bind fun t88_68 =>
(loadV Try.prog 23 t88_68 (am h67 h65)).bind fun t89_69 =>
obH (evC Try.prog 30 #[t42_21, (Go.Value.int Go.IntKind.i64 0), (Go.Value.int Go.IntKind.u64 1), t86_66, t89_69] (am h67 h65)) fun t90_70 h71 =>
chk ((rb t88_68) ++ []) (h67.mods ++ []) (
(indexAddrV Try.prog 44 t68_48 (Go.Value.int Go.IntKind.i64 0)).bind fun t93_72 =>
(loadV Try.prog 23 t93_72 h71).bind fun t94_73 =>
obH (evC Try.prog 31 #[t42_21, (Go.Value.int Go.IntKind.i64 1), (Go.Value.int Go.IntKind.u64 1), t94_73] h71) fun t95_74 h75 =>
(indexAddrV Try.prog 44 t68_48 (Go.Value.int Go.IntKind.i64 0)).bind fun t98_76 =>
(loadV Try.prog 23 t98_76 h75).bind fun t99_77 =>
obH (evC Try.prog 31 #[t42_21, (Go.Value.int Go.IntKind.i64 2), (Go.Value.int Go.IntKind.u64 1), t99_77] h75) fun t100_78 h79 =>
obH (evC Try.prog 31 #[t42_21, (Go.Value.int Go.IntKind.i64 1), (Go.Value.int Go.IntKind.u64 1), (Go.Value.slice Option.none 0 0)] h79) fun t102_80 h81 =>
(indexAddrV Try.prog 44 t47_27 (Go.Value.int Go.IntKind.i64 0)).bind fun t105_82 =>
(loadV Try.prog 23 t105_82 h81).bind fun t106_83 =>
(sliceV Try.prog 23 t106_83 none (some (Go.Value.int Go.IntKind.i64 8)) none h81).bind fun t107_84 =>
obH (evC Try.prog 21 #[(Go.Value.int Go.IntKind.i64 3), t107_84] h81) fun t108_85 h86 =>
(extractV t108_85 0).bind fun t109_87 =>
(extractV t108_85 1).bind fun t110_88 =>
obH (allocV Try.prog 29 h86) fun t20_89 h90 =>
(storeV Try.prog 29 t20_89 t109_87 h90).bind fun h91 =>
(binV Try.prog .eql 41 (.tmp 111) (.const (Go.Value.int Go.IntKind.i64 1)) t27_6 (Go.Value.int Go.IntKind.i64 1)).bind fun t112_92 =>
(gd (wt t112_92 true) (binV Try.prog .eql 41 (.tmp 114) (.const (Go.Value.int Go.IntKind.i64 1)) (gdV (wt t112_92 true) t31_10) (Go.Value.int Go.IntKind.i64 1))).bind fun t115_93 =>
(pickV t112_92 t115_93 (Go.Value.bool Bool.false)).bind fun t116_94 =>
(pickV t116_94 (gdV (wt t116_94 true) t64_42) (Go.Value.bool Bool.false)).bind fun t119_95 =>
(gd (wt t119_95 true) (unV Try.prog .not (gdV (wt t119_95 true) t76_54))).bind fun t122_96 =>
(pickV t119_95 t122_96 (Go.Value.bool Bool.false)).bind fun t123_97 =>
(gd (wt t123_97 true) (unV Try.prog .not (gdV (wt t123_97 true) t83_62))).bind fun t126_98 =>
(pickV t123_97 t126_98 (Go.Value.bool Bool.false)).bind fun t127_99 =>
(pickV t127_99 (gdV (wt t127_99 true) t90_70) (Go.Value.bool Bool.false)).bind fun t130_100 =>
(pickV t130_100 (gdV (wt t130_100 true) t95_74) (Go.Value.bool Bool.false)).bind fun t133_101 =>
(gd (wt t133_101 true) (unV Try.prog .not (gdV (wt t133_101 true) t100_78))).bind fun t136_102 =>
(pickV t133_101 t136_102 (Go.Value.bool Bool.false)).bind fun t137_103 =>
(gd (wt t137_103 true) (unV Try.prog .not (gdV (wt t137_103 true) t102_80))).bind fun t140_104 =>
(pickV t137_103 t140_104 (Go.Value.bool Bool.false)).bind fun t141_105 =>
(gd (wt t141_105 true) (unV Try.prog .not (gdV (wt t141_105 true) t110_88))).bind fun t144_106 =>
(pickV t141_105 t144_106 (Go.Value.bool Bool.false)).bind fun t145_107 =>
obH (gdH (wt t145_107 true) h91 (evC Try.prog 33 #[(gdV (wt t145_107 true) t42_21)] h91)) fun t148_108 h109 =>
obH (gdH (wt t145_107 true) h109 (buildSliceV Try.prog 52 3 #[(0, (Go.Value.int Go.IntKind.u64 1)), (1, (Go.Value.int Go.IntKind.u64 0)), (2, (Go.Value.int Go.IntKind.u64 0))] h109)) fun t149_110 h111 =>
obH (gdH (wt t145_107 true) h111 (evC Try.prog 32 #[t148_108, t149_110] h111)) fun t150_112 h113 =>
(pickV t145_107 t150_112 (Go.Value.bool Bool.false)).bind fun t151_114 =>
obH (gdH (wt t151_114 true) h113 (evC Try.prog 35 #[(gdV (wt t151_114 true) t42_21)] h113)) fun t154_115 h116 =>
obH (gdH (wt t151_114 true) h116 (evC Try.prog 34 #[t154_115, (Go.Value.int Go.IntKind.i64 0), (Go.Value.int Go.IntKind.i64 1)] h116)) fun t155_117 h118 =>
(gd (wt t151_114 true) (binV Try.prog .eql 46 (.tmp 155) (.const (Go.Value.int Go.IntKind.u64 1)) t155_117 (Go.Value.int Go.IntKind.u64 1))).bind fun t156_119 =>
(pickV t151_114 t156_119 (Go.Value.bool Bool.false)).bind fun t157_120 =>
obH (gdH (wt t157_120 true) h118 (evC Try.prog 35 #[(gdV (wt t157_120 true) t42_21)] h118)) fun t160_121 h122 =>
obH (gdH (wt t157_120 true) h122 (evC Try.prog 34 #[t160_121, (Go.Value.int Go.IntKind.i64 0), (Go.Value.int Go.IntKind.i64 2)] h122)) fun t161_123 h124 =>
(gd (wt t157_120 true) (binV Try.prog .eql 46 (.tmp 161) (.const (Go.Value.int Go.IntKind.u64 1)) t161_123 (Go.Value.int Go.IntKind.u64 1))).bind fun t162_125 =>
(pickV t157_120 t162_125 (Go.Value.bool Bool.false)).bind fun t163_126 =>
obH (gdH (wt t163_126 true) h124 (evC Try.prog 28 #[(gdV (wt t163_126 true) t34_13), (Go.Value.int Go.IntKind.u64 0)] h124)) fun t166_127 h128 =>
(gd (wt t163_126 true) (lenV Try.prog 44 t166_127 h128)).bind fun t167_129 =>
(gd (wt t163_126 true) (binV Try.prog .eql 3 (.tmp 167) (.const (Go.Value.int Go.IntKind.i64 0)) t167_129 (Go.Value.int Go.IntKind.i64 0))).bind fun t168_130 =>
(pickV t163_126 t168_130 (Go.Value.bool Bool.false)).bind fun t169_131 =>
(gd (wt t169_131 true) (buildV Try.prog 29 #[])).bind fun t171_132 =>
obH (gdH (wt t169_131 true) h128 (evC Try.prog 19 #[t171_132] h128)) fun t172_133 h134 =>
(gd (wt t169_131 true) (lenV Try.prog 23 t172_133 h134)).bind fun t173_135 =>
(gd (wt t169_131 true) (binV Try.prog .eql 3 (.tmp 173) (.const (Go.Value.int Go.IntKind.i64 0)) t173_135 (Go.Value.int Go.IntKind.i64 0))).bind fun t174_136 =>
(pickV t169_131 t174_136 (Go.Value.bool Bool.false)).bind fun t175_137 =>
k .ret ⟨#[t175_137, t26_5, t27_6, t30_9, t31_10, t34_13, t35_14, t38_17, t39_18, t42_21, t43_22, t47_27, t64_42, t68_48, t76_54, t83_62, t90_70, t95_74, t100_78, t102_80, t20_89, t110_88, t22_0, t23_2, t25_3, t25_3, t26_5, t27_6, t29_7, t29_7, t30_9, t31_10, t33_11, t33_11, t34_13, t35_14, t37_15, t37_15, t38_17, t39_18, t41_19, t41_19, t42_21, t43_22, t34_13, t45_23, t46_25, t47_27, t47_27, t49_29, t50_30, t50_30, (gdV (wt t50_30 false) t47_27), t53_31, t54_32, t55_33, t56_34, t57_35, t38_17, t59_36, t60_38, t47_27, t62_40, t63_41, t64_42, t38_17, t66_44, t67_46, t68_48, t68_48, t70_50, t71_51, t42_21, t68_48, t74_52, t75_53, t76_54, t42_21, t78_56, t79_58, t68_48, t81_60, t82_61, t83_62, t42_21, t85_64, t86_66, t47_27, t88_68, t89_69, t90_70, t42_21, t68_48, t93_72, t94_73, t95_74, t42_21, t68_48, t98_76, t99_77, t100_78, t42_21, t102_80, t108_85, t47_27, t105_82, t106_83, t107_84, t108_85, t109_87, t110_88, t27_6, t112_92, t112_92, (gdV (wt t112_92 true) t31_10), t115_93, t116_94, t116_94, (gdV (wt t116_94 true) t64_42), t119_95, t119_95, (gdV (wt t119_95 true) t76_54), t122_96, t123_97, t123_97, (gdV (wt t123_97 true) t83_62), t126_98, t127_99, t127_99, (gdV (wt t127_99 true) t90_70), t130_100, t130_100, (gdV (wt t130_100 true) t95_74), t133_101, t133_101, (gdV (wt t133_101 true) t100_78), t136_102, t137_103, t137_103, (gdV (wt t137_103 true) t102_80), t140_104, t141_105, t141_105, (gdV (wt t141_105 true) t110_88), t144_106, t145_107, t145_107, (gdV (wt t145_107 true) t42_21), t148_108, t149_110, t150_112, t151_114, t151_114, (gdV (wt t151_114 true) t42_21), t154_115, t155_117, t156_119, t157_120, t157_120, (gdV (wt t157_120 true) t42_21), t160_121, t161_123, t162_125, t163_126, t163_126, (gdV (wt t163_126 true) t34_13), t166_127, t167_129, t168_130, t169_131, t169_131, t171_132, t172_133, t173_135, t174_136, t175_137], h134⟩)))))) := by kernel_rfl
theorem call4 (h : Heap) : evC Try.prog 4 #[] h = codeK Try.prog (evC Try.prog) loopL c4_0 ⟨#[undef, undef, undef, undef, undef, undef, undef, undef, undef, undef, undef, undef, undef, undef, undef, undef, undef, undef, undef, undef, undef, undef, undef, undef, undef, undef, undef, undef, undef, undef, undef, undef, undef, undef, undef, undef, undef, undef, undef, undef, undef, undef, undef, undef, undef, undef, undef, undef, undef, undef, undef, undef, undef, undef, undef, undef, undef, undef, undef, undef, undef, undef, undef, undef, undef, undef, undef, undef, undef, undef, undef, undef, undef, undef, undef, undef, undef, undef, undef, undef, undef, undef, undef, undef, undef, undef, undef, undef, undef, undef, undef, undef, undef, undef, undef, undef, undef, undef, undef, undef, undef, undef, undef, undef, undef, undef, undef, undef, undef, undef, undef, undef, undef, undef, undef, undef, undef, undef, undef, undef, undef, undef, undef, undef, undef, undef, undef, undef, undef, undef, undef, undef, undef, undef, undef, undef, undef, undef, undef, undef, undef, undef, undef, undef, undef, undef, undef, undef, undef, undef, undef, undef, undef, undef, undef, undef, undef, undef, undef, undef, undef, undef, undef, undef, undef, undef, undef, undef, undef, undef, undef, undef, undef, undef, undef, undef], nm h⟩ (retK Try.f4 Try.prog h) :=
  (evC_call 4 Try.f4 c4_0 Try.func4 (by kernel_rfl) #[] h).trans (by kernel_rfl)
theorem ret4 (x0 x1 x2 x3 x4 x5 x6 x7 x8 x9 x10 x11 x12 x13 x14 x15 x16 x17 x18 x19 x20 x21 x22 x23 x24 x25 x26 x27 x28 x29 x30 x31 x32 x33 x34 x35 x36 x37 x38 x39 x40 x41 x42 x43 x44 x45 x46 x47 x48 x49 x50 x51 x52 x53 x54 x55 x56 x57 x58 x59 x60 x61 x62 x63 x64 x65 x66 x67 x68 x69 x70 x71 x72 x73 x74 x75 x76 x77 x78 x79 x80 x81 x82 x83 x84 x85 x86 x87 x88 x89 x90 x91 x92 x93 x94 x95 x96 x97 x98 x99 x100 x101 x102 x103 x104 x105 x106 x107 x108 x109 x110 x111 x112 x113 x114 x115 x116 x117 x118 x119 x120 x121 x122 x123 x124 x125 x126 x127 x128 x129 x130 x131 x132 x133 x134 x135 x136 x137 x138 x139 x140 x141 x142 x143 x144 x145 x146 x147 x148 x149 x150 x151 x152 x153 x154 x155 x156 x157 x158 x159 x160 x161 x162 x163 x164 x165 x166 x167 x168 x169 x170 x171 x172 x173 x174 x175 : Value) (h0 h : Heap) : retK Try.f4 Try.prog h0 .ret ⟨#[x0, x1, x2, x3, x4, x5, x6, x7, x8, x9, x10, x11, x12, x13, x14, x15, x16, x17, x18, x19, x20, x21, x22, x23, x24, x25, x26, x27, x28, x29, x30, x31, x32, x33, x34, x35, x36, x37, x38, x39, x40, x41, x42, x43, x44, x45, x46, x47, x48, x49, x50, x51, x52, x53, x54, x55, x56, x57, x58, x59, x60, x61, x62, x63, x64, x65, x66, x67, x68, x69, x70, x71, x72, x73, x74, x75, x76, x77, x78, x79, x80, x81, x82, x83, x84, x85, x86, x87, x88, x89, x90, x91, x92, x93, x94, x95, x96, x97, x98, x99, x100, x101, x102, x103, x104, x105, x106, x107, x108, x109, x110, x111, x112, x113, x114, x115, x116, x117, x118, x119, x120, x121, x122, x123, x124, x125, x126, x127, x128, x129, x130, x131, x132, x133, x134, x135, x136, x137, x138, x139, x140, x141, x142, x143, x144, x145, x146, x147, x148, x149, x150, x151, x152, x153, x154, x155, x156, x157, x158, x159, x160, x161, x162, x163, x164, x165, x166, x167, x168, x169, x170, x171, x172, x173, x174, x175], h⟩ = fin h0 (some x0) h := by kernel_rfl
theorem retn4 (x0 x1 x2 x3 x4 x5 x6 x7 x8 x9 x10 x11 x12 x13 x14 x15 x16 x17 x18 x19 x20 x21 x22 x23 x24 x25 x26 x27 x28 x29 x30 x31 x32 x33 x34 x35 x36 x37 x38 x39 x40 x41 x42 x43 x44 x45 x46 x47 x48 x49 x50 x51 x52 x53 x54 x55 x56 x57 x58 x59 x60 x61 x62 x63 x64 x65 x66 x67 x68 x69 x70 x71 x72 x73 x74 x75 x76 x77 x78 x79 x80 x81 x82 x83 x84 x85 x86 x87 x88 x89 x90 x91 x92 x93 x94 x95 x96 x97 x98 x99 x100 x101 x102 x103 x104 x105 x106 x107 x108 x109 x110 x111 x112 x113 x114 x115 x116 x117 x118 x119 x120 x121 x122 x123 x124 x125 x126 x127 x128 x129 x130 x131 x132 x133 x134 x135 x136 x137 x138 x139 x140 x141 x142 x143 x144 x145 x146 x147 x148 x149 x150 x151 x152 x153 x154 x155 x156 x157 x158 x159 x160 x161 x162 x163 x164 x165 x166 x167 x168 x169 x170 x171 x172 x173 x174 x175 : Value) (h0 h : Heap) : retK Try.f4 Try.prog h0 .normal ⟨#[x0, x1, x2, x3, x4, x5, x6, x7, x8, x9, x10, x11, x12, x13, x14, x15, x16, x17, x18, x19, x20, x21, x22, x23, x24, x25, x26, x27, x28, x29, x30, x31, x32, x33, x34, x35, x36, x37, x38, x39, x40, x41, x42, x43, x44, x45, x46, x47, x48, x49, x50, x51, x52, x53, x54, x55, x56, x57, x58, x59, x60, x61, x62, x63, x64, x65, x66, x67, x68, x69, x70, x71, x72, x73, x74, x75, x76, x77, x78, x79, x80, x81, x82, x83, x84, x85, x86, x87, x88, x89, x90, x91, x92, x93, x94, x95, x96, x97, x98, x99, x100, x101, x102, x103, x104, x105, x106, x107, x108, x109, x110, x111, x112, x113, x114, x115, x116, x117, x118, x119, x120, x121, x122, x123, x124, x125, x126, x127, x128, x129, x130, x131, x132, x133, x134, x135, x136, x137, x138, x139, x140, x141, x142, x143, x144, x145, x146, x147, x148, x149, x150, x151, x152, x153, x154, x155, x156, x157, x158, x159, x160, x161, x162, x163, x164, x165, x166, x167, x168, x169, x170, x171, x172, x173, x174, x175], h⟩ = fin h0 (some x0) h := by kernel_rfl
end Go.Am
