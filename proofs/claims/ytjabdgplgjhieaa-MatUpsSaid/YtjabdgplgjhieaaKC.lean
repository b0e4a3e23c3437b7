/- What the texts of functions come to in the machine (printed by a program of this seat; Lean checks it). -/
import Derived.Test.YtjabdgplgjhieaaKB
import Derived.Test.YtjabdgplgjhieaaChecked
import Derived.KernelRfl
set_option linter.all false
namespace Go.Am
open Go.Proofs
set_option maxRecDepth 100000
noncomputable def c16_0 : Code := bodyC Try.f16 []
theorem c16_0_eq {β : Type} (x0 x1 x2 x3 x4 x5 x6 x7 x8 x9 x10 x11 x12 x13 x14 x15 x16 : Value) (h : Heap) (k : Ex → St → Option β) : codeK Try.prog (evC Try.prog) loopL c16_0 ⟨#[x0, x1, x2, x3, x4, x5, x6, x7, x8, x9, x10, x11, x12, x13, x14, x15, x16], h⟩ k =
(binV Try.prog .lss 3 (.tmp 5) (.const (Go.Value.int Go.IntKind.i64 0)) x1 (Go.Value.int Go.IntKind.i64 0)).bind fun t6_0 =>
(gd (wt t6_0 false) (lenV Try.prog 27 (gdV (wt t6_0 false) x0) h)).bind fun t10_1 =>
(gd (wt t6_0 false) (binV Try.prog .geq 3 (.tmp 8) (.tmp 10) (gdV (wt t6_0 false) x1) t10_1)).bind fun t11_2 =>
(pickV t6_0 (Go.Value.bool Bool.true) t11_2).bind fun t12_3 =>
cnd t12_3 (
k .ret ⟨#[x0, x1, x2, x3, (Go.Value.int Go.IntKind.u64 0), x1, t6_0, t6_0, (gdV (wt t6_0 false) x1), (gdV (wt t6_0 false) x0), t10_1, t11_2, t12_3, x13, x14, x15, x16], h⟩) (
(indexAddrV Try.prog 27 x0 x1).bind fun t15_4 =>
(loadV Try.prog 29 t15_4 h).bind fun t16_5 =>
k .ret ⟨#[x0, x1, x2, x3, t16_5, x1, t6_0, t6_0, (gdV (wt t6_0 false) x1), (gdV (wt t6_0 false) x0), t10_1, t11_2, t12_3, x0, x1, t15_4, t16_5], h⟩) := by kernel_rfl
theorem call16 (x0 x1 : Value) (h : Heap) : evC Try.prog 16 #[x0, x1] h = codeK Try.prog (evC Try.prog) loopL c16_0 ⟨#[x0, x1, undef, undef, undef, undef, undef, undef, undef, undef, undef, undef, undef, undef, undef, undef, undef], nm h⟩ (retK Try.f16 Try.prog h) :=
  (evC_call 16 Try.f16 c16_0 Try.func16 (by kernel_rfl) #[x0, x1] h).trans (by kernel_rfl)
theorem ret16 (x0 x1 x2 x3 x4 x5 x6 x7 x8 x9 x10 x11 x12 x13 x14 x15 x16 : Value) (h0 h : Heap) : retK Try.f16 Try.prog h0 .ret ⟨#[x0, x1, x2, x3, x4, x5, x6, x7, x8, x9, x10, x11, x12, x13, x14, x15, x16], h⟩ = fin h0 (some x4) h := by kernel_rfl
theorem retn16 (x0 x1 x2 x3 x4 x5 x6 x7 x8 x9 x10 x11 x12 x13 x14 x15 x16 : Value) (h0 h : Heap) : retK Try.f16 Try.prog h0 .normal ⟨#[x0, x1, x2, x3, x4, x5, x6, x7, x8, x9, x10, x11, x12, x13, x14, x15, x16], h⟩ = fin h0 (some x4) h := by kernel_rfl
end Go.Am
namespace Go.Am
open Go.Proofs
set_option maxRecDepth 100000
noncomputable def c14_0 : Code := bodyC Try.f14 []
theorem c14_0_eq {β : Type} (x0 x1 x2 x3 x4 x5 x6 : Value) (h : Heap) (k : Ex → St → Option β) : codeK Try.prog (evC Try.prog) loopL c14_0 ⟨#[x0, x1, x2, x3, x4, x5, x6], h⟩ k =
obH (builtinV Try.prog .max #[3, 3] #[x0, (Go.Value.int Go.IntKind.i64 0)] h) fun t4_0 h1 =>
obH (builtinV Try.prog .min #[3, 3] #[t4_0, (Go.Value.int Go.IntKind.i64 64)] h1) fun t5_2 h3 =>
obH (makeSliceV Try.prog 27 t5_2 t5_2 h3) fun t6_4 h5 =>
k .ret ⟨#[x0, x1, t6_4, x0, t4_0, t5_2, t6_4], h5⟩ := by kernel_rfl
theorem call14 (x0 : Value) (h : Heap) : evC Try.prog 14 #[x0] h = codeK Try.prog (evC Try.prog) loopL c14_0 ⟨#[x0, undef, undef, undef, undef, undef, undef], nm h⟩ (retK Try.f14 Try.prog h) :=
  (evC_call 14 Try.f14 c14_0 Try.func14 (by kernel_rfl) #[x0] h).trans (by kernel_rfl)
theorem ret14 (x0 x1 x2 x3 x4 x5 x6 : Value) (h0 h : Heap) : retK Try.f14 Try.prog h0 .ret ⟨#[x0, x1, x2, x3, x4, x5, x6], h⟩ = fin h0 (some x2) h := by kernel_rfl
theorem retn14 (x0 x1 x2 x3 x4 x5 x6 : Value) (h0 h : Heap) : retK Try.f14 Try.prog h0 .normal ⟨#[x0, x1, x2, x3, x4, x5, x6], h⟩ = fin h0 (some x2) h := by kernel_rfl
end Go.Am
namespace Go.Am
open Go.Proofs
set_option maxRecDepth 100000
noncomputable def c13_0 : Code := bodyC Try.f13 []
noncomputable def c13_1 : Code := bodyC Try.f13 [true, true, false, true, false, false]
noncomputable def c13_2 : Code := bodyC Try.f13 [true, true, true]
theorem c13_0_eq {β : Type} (x0 x1 x2 x3 x4 x5 x6 x7 x8 x9 x10 x11 x12 x13 x14 x15 x16 x17 x18 x19 x20 x21 x22 x23 x24 x25 x26 x27 x28 x29 x30 x31 x32 x33 x34 x35 x36 x37 x38 x39 x40 x41 x42 x43 x44 x45 : Value) (h : Heap) (k : Ex → St → Option β) : codeK Try.prog (evC Try.prog) loopL c13_0 ⟨#[x0, x1, x2, x3, x4, x5, x6, x7, x8, x9, x10, x11, x12, x13, x14, x15, x16, x17, x18, x19, x20, x21, x22, x23, x24, x25, x26, x27, x28, x29, x30, x31, x32, x33, x34, x35, x36, x37, x38, x39, x40, x41, x42, x43, x44, x45], h⟩ k =
(lenV Try.prog 27 x0 h).bind fun t11_0 =>
(lenV Try.prog 27 x1 h).bind fun t13_1 =>
obH (builtinV Try.prog .max #[3, 3] #[t11_0, t13_1] h) fun t14_2 h3 =>
loopK Try.prog (evC Try.prog) c13_1 ⟨#[x0, x1, x2, x3, (Go.Value.int Go.IntKind.i64 0), (Go.Value.bool Bool.false), (Go.Value.bool Bool.false), x7, x8, x9, x0, t11_0, x1, t13_1, t14_2, (Go.Value.int Go.IntKind.i64 0), x16, x17, x18, x19, x20, x21, x22, x23, x24, x25, x26, x27, x28, x29, x30, x31, x32, x33, x34, x35, x36, x37, x38, x39, x40, x41, x42, x43, x44, x45], h3⟩ (blockK 0 (seqK Try.prog (evC Try.prog) c13_2 k)) := by kernel_rfl
theorem c13_1_eq {β : Type} (x0 x1 x2 x3 x4 x5 x6 x7 x8 x9 x10 x11 x12 x13 x14 x15 x16 x17 x18 x19 x20 x21 x22 x23 x24 x25 x26 x27 x28 x29 x30 x31 x32 x33 x34 x35 x36 x37 x38 x39 x40 x41 x42 x43 x44 x45 : Value) (h : Heap) (k : Ex → St → Option β) : codeK Try.prog (evC Try.prog) loopL c13_1 ⟨#[x0, x1, x2, x3, x4, x5, x6, x7, x8, x9, x10, x11, x12, x13, x14, x15, x16, x17, x18, x19, x20, x21, x22, x23, x24, x25, x26, x27, x28, x29, x30, x31, x32, x33, x34, x35, x36, x37, x38, x39, x40, x41, x42, x43, x44, x45], h⟩ k =
(binV Try.prog .lss 3 (.tmp 15) (.tmp 14) x15 x14).bind fun t16_4 =>
cnd t16_4 (
obH (evC Try.prog 16 #[x0, x15] h) fun t20_5 h6 =>
obH (evC Try.prog 16 #[x1, x15] h6) fun t23_7 h8 =>
(gd (wt x5 false) (binV Try.prog .lss 29 (.tmp 26) (.tmp 27) (gdV (wt x5 false) t20_5) (gdV (wt x5 false) t23_7))).bind fun t28_9 =>
(pickV x5 (Go.Value.bool Bool.true) t28_9).bind fun t29_10 =>
(gd (wt x6 false) (binV Try.prog .gtr 29 (.tmp 32) (.tmp 33) (gdV (wt x6 false) t20_5) (gdV (wt x6 false) t23_7))).bind fun t34_11 =>
(pickV x6 (Go.Value.bool Bool.true) t34_11).bind fun t35_12 =>
(binV Try.prog .add 3 (.tmp 15) (.const (Go.Value.int Go.IntKind.i64 1)) x15 (Go.Value.int Go.IntKind.i64 1)).bind fun t36_13 =>
k .normal ⟨#[x0, x1, x2, x3, x4, t29_10, t35_12, x15, t20_5, t23_7, x10, x11, x12, x13, x14, t36_13, t16_4, x15, x0, x15, t20_5, x1, x15, t23_7, x5, x5, (gdV (wt x5 false) t20_5), (gdV (wt x5 false) t23_7), t28_9, t29_10, x6, x6, (gdV (wt x6 false) t20_5), (gdV (wt x6 false) t23_7), t34_11, t35_12, t36_13, x37, x38, x39, x40, x41, x42, x43, x44, x45], h8⟩) (
k (.exit 0) ⟨#[x0, x1, x2, x3, x4, x5, x6, x7, x8, x9, x10, x11, x12, x13, x14, x15, t16_4, x17, x18, x19, x20, x21, x22, x23, x24, x25, x26, x27, x28, x29, x30, x31, x32, x33, x34, x35, x36, x37, x38, x39, x40, x41, x42, x43, x44, x45], h⟩) := by kernel_rfl
theorem c13_2_eq {β : Type} (x0 x1 x2 x3 x4 x5 x6 x7 x8 x9 x10 x11 x12 x13 x14 x15 x16 x17 x18 x19 x20 x21 x22 x23 x24 x25 x26 x27 x28 x29 x30 x31 x32 x33 x34 x35 x36 x37 x38 x39 x40 x41 x42 x43 x44 x45 : Value) (h : Heap) (k : Ex → St → Option β) : codeK Try.prog (evC Try.prog) loopL c13_2 ⟨#[x0, x1, x2, x3, x4, x5, x6, x7, x8, x9, x10, x11, x12, x13, x14, x15, x16, x17, x18, x19, x20, x21, x22, x23, x24, x25, x26, x27, x28, x29, x30, x31, x32, x33, x34, x35, x36, x37, x38, x39, x40, x41, x42, x43, x44, x45], h⟩ k =
(pickV x5 (gdV (wt x5 true) x6) (Go.Value.bool Bool.false)).bind fun t41_14 =>
cnd t41_14 (
k .ret ⟨#[x0, x1, x2, x3, (Go.Value.int Go.IntKind.i64 2), x5, x6, x7, x8, x9, x10, x11, x12, x13, x14, x15, x16, x17, x18, x19, x20, x21, x22, x23, x24, x25, x26, x27, x28, x29, x30, x31, x32, x33, x34, x35, x36, t41_14, x5, x5, (gdV (wt x5 true) x6), t41_14, x42, x43, x44, x45], h⟩) (
cnd x5 (
k .ret ⟨#[x0, x1, x2, x3, (Go.Value.int Go.IntKind.i64 (-1)), x5, x6, x7, x8, x9, x10, x11, x12, x13, x14, x15, x16, x17, x18, x19, x20, x21, x22, x23, x24, x25, x26, x27, x28, x29, x30, x31, x32, x33, x34, x35, x36, t41_14, x5, x5, (gdV (wt x5 true) x6), t41_14, x5, x5, x44, x45], h⟩) (
cnd x6 (
k .ret ⟨#[x0, x1, x2, x3, (Go.Value.int Go.IntKind.i64 1), x5, x6, x7, x8, x9, x10, x11, x12, x13, x14, x15, x16, x17, x18, x19, x20, x21, x22, x23, x24, x25, x26, x27, x28, x29, x30, x31, x32, x33, x34, x35, x36, t41_14, x5, x5, (gdV (wt x5 true) x6), t41_14, x5, x5, x6, x6], h⟩) (
k .ret ⟨#[x0, x1, x2, x3, (Go.Value.int Go.IntKind.i64 0), x5, x6, x7, x8, x9, x10, x11, x12, x13, x14, x15, x16, x17, x18, x19, x20, x21, x22, x23, x24, x25, x26, x27, x28, x29, x30, x31, x32, x33, x34, x35, x36, t41_14, x5, x5, (gdV (wt x5 true) x6), t41_14, x5, x5, x6, x6], h⟩))) := by kernel_rfl
theorem call13 (x0 x1 : Value) (h : Heap) : evC Try.prog 13 #[x0, x1] h = codeK Try.prog (evC Try.prog) loopL c13_0 ⟨#[x0, x1, undef, undef, undef, undef, undef, undef, undef, undef, undef, undef, undef, undef, undef, undef, undef, undef, undef, undef, undef, undef, undef, undef, undef, undef, undef, undef, undef, undef, undef, undef, undef, undef, undef, undef, undef, undef, undef, undef, undef, undef, undef, undef, undef, undef], nm h⟩ (retK Try.f13 Try.prog h) :=
  (evC_call 13 Try.f13 c13_0 Try.func13 (by kernel_rfl) #[x0, x1] h).trans (by kernel_rfl)
theorem ret13 (x0 x1 x2 x3 x4 x5 x6 x7 x8 x9 x10 x11 x12 x13 x14 x15 x16 x17 x18 x19 x20 x21 x22 x23 x24 x25 x26 x27 x28 x29 x30 x31 x32 x33 x34 x35 x36 x37 x38 x39 x40 x41 x42 x43 x44 x45 : Value) (h0 h : Heap) : retK Try.f13 Try.prog h0 .ret ⟨#[x0, x1, x2, x3, x4, x5, x6, x7, x8, x9, x10, x11, x12, x13, x14, x15, x16, x17, x18, x19, x20, x21, x22, x23, x24, x25, x26, x27, x28, x29, x30, x31, x32, x33, x34, x35, x36, x37, x38, x39, x40, x41, x42, x43, x44, x45], h⟩ = fin h0 (some x4) h := by kernel_rfl
theorem retn13 (x0 x1 x2 x3 x4 x5 x6 x7 x8 x9 x10 x11 x12 x13 x14 x15 x16 x17 x18 x19 x20 x21 x22 x23 x24 x25 x26 x27 x28 x29 x30 x31 x32 x33 x34 x35 x36 x37 x38 x39 x40 x41 x42 x43 x44 x45 : Value) (h0 h : Heap) : retK Try.f13 Try.prog h0 .normal ⟨#[x0, x1, x2, x3, x4, x5, x6, x7, x8, x9, x10, x11, x12, x13, x14, x15, x16, x17, x18, x19, x20, x21, x22, x23, x24, x25, x26, x27, x28, x29, x30, x31, x32, x33, x34, x35, x36, x37, x38, x39, x40, x41, x42, x43, x44, x45], h⟩ = fin h0 (some x4) h := by kernel_rfl
end Go.Am
namespace Go.Am
open Go.Proofs
set_option maxRecDepth 100000
noncomputable def c42_0 : Code := bodyC Try.f42 []
theorem c42_0_eq {β : Type} (x0 x1 x2 x3 x4 x5 x6 x7 x8 x9 x10 x11 x12 x13 x14 x15 x16 x17 x18 : Value) (h : Heap) (k : Ex → St → Option β) : codeK Try.prog (evC Try.prog) loopL c42_0 ⟨#[x0, x1, x2, x3, x4, x5, x6, x7, x8, x9, x10, x11, x12, x13, x14, x15, x16, x17, x18], h⟩ k =
obH (evC Try.prog 41 #[x0] h) fun t7_0 h1 =>
(lenV Try.prog 27 t7_0 h1).bind fun t10_2 =>
(binV Try.prog .gtr 3 (.tmp 8) (.tmp 10) x1 t10_2).bind fun t11_3 =>
cnd t11_3 (
(lenV Try.prog 27 t7_0 h1).bind fun t15_4 =>
(binV Try.prog .sub 3 (.tmp 13) (.tmp 15) x1 t15_4).bind fun t16_5 =>
obH (appendV Try.prog 27 (some 3) t7_0 t16_5 h1) fun t17_6 h7 =>
k .ret ⟨#[x0, x1, x2, x3, t17_6, t17_6, x0, t7_0, x1, t7_0, t10_2, t11_3, t7_0, x1, t7_0, t15_4, t16_5, t17_6, t17_6], h7⟩) (
k .ret ⟨#[x0, x1, x2, x3, t7_0, t7_0, x0, t7_0, x1, t7_0, t10_2, t11_3, x12, x13, x14, x15, x16, x17, t7_0], h1⟩) := by kernel_rfl
theorem call42 (x0 x1 : Value) (h : Heap) : evC Try.prog 42 #[x0, x1] h = codeK Try.prog (evC Try.prog) loopL c42_0 ⟨#[x0, x1, undef, undef, undef, undef, undef, undef, undef, undef, undef, undef, undef, undef, undef, undef, undef, undef, undef], nm h⟩ (retK Try.f42 Try.prog h) :=
  (evC_call 42 Try.f42 c42_0 Try.func42 (by kernel_rfl) #[x0, x1] h).trans (by kernel_rfl)
theorem ret42 (x0 x1 x2 x3 x4 x5 x6 x7 x8 x9 x10 x11 x12 x13 x14 x15 x16 x17 x18 : Value) (h0 h : Heap) : retK Try.f42 Try.prog h0 .ret ⟨#[x0, x1, x2, x3, x4, x5, x6, x7, x8, x9, x10, x11, x12, x13, x14, x15, x16, x17, x18], h⟩ = fin h0 (some x4) h := by kernel_rfl
theorem retn42 (x0 x1 x2 x3 x4 x5 x6 x7 x8 x9 x10 x11 x12 x13 x14 x15 x16 x17 x18 : Value) (h0 h : Heap) : retK Try.f42 Try.prog h0 .normal ⟨#[x0, x1, x2, x3, x4, x5, x6, x7, x8, x9, x10, x11, x12, x13, x14, x15, x16, x17, x18], h⟩ = fin h0 (some x4) h := by kernel_rfl
end Go.Am
namespace Go.Am
open Go.Proofs
set_option maxRecDepth 100000
noncomputable def c15_0 : Code := bodyC Try.f15 []
theorem c15_0_eq {β : Type} (x0 x1 x2 x3 x4 x5 x6 x7 x8 x9 x10 x11 x12 x13 x14 x15 x16 x17 x18 x19 x20 x21 x22 x23 x24 x25 x26 x27 x28 x29 x30 x31 : Value) (h : Heap) (k : Ex → St → Option β) : codeK Try.prog (evC Try.prog) loopL c15_0 ⟨#[x0, x1, x2, x3, x4, x5, x6, x7, x8, x9, x10, x11, x12, x13, x14, x15, x16, x17, x18, x19, x20, x21, x22, x23, x24, x25, x26, x27, x28, x29, x30, x31], h⟩ k =
(binV Try.prog .lss 3 (.tmp 7) (.const (Go.Value.int Go.IntKind.i64 0)) x1 (Go.Value.int Go.IntKind.i64 0)).bind fun t8_0 =>
(gd (wt t8_0 false) (binV Try.prog .geq 3 (.tmp 10) (.const (Go.Value.int Go.IntKind.i64 64)) (gdV (wt t8_0 false) x1) (Go.Value.int Go.IntKind.i64 64))).bind fun t11_1 =>
(pickV t8_0 (Go.Value.bool Bool.true) t11_1).bind fun t12_2 =>
obH (gdH (wt t12_2 false) h (evC Try.prog 16 #[(gdV (wt t12_2 false) x0), (gdV (wt t12_2 false) x1)] h)) fun t16_3 h4 =>
(gd (wt t12_2 false) (binV Try.prog .eql 29 (.tmp 16) (.const (Go.Value.int Go.IntKind.u64 18446744073709551615)) t16_3 (Go.Value.int Go.IntKind.u64 18446744073709551615))).bind fun t17_5 =>
(pickV t12_2 (Go.Value.bool Bool.true) t17_5).bind fun t18_6 =>
cnd t18_6 (
obH (evC Try.prog 41 #[x0] h4) fun t20_7 h8 =>
k .ret ⟨#[x0, x1, x2, x3, t20_7, (Go.Value.bool Bool.false), x6, x1, t8_0, t8_0, (gdV (wt t8_0 false) x1), t11_1, t12_2, t12_2, (gdV (wt t12_2 false) x0), (gdV (wt t12_2 false) x1), t16_3, t17_5, t18_6, x0, t20_7, x21, x22, x23, x24, x25, x26, x27, x28, x29, x30, x31], h8⟩) (
(binV Try.prog .add 3 (.tmp 22) (.const (Go.Value.int Go.IntKind.i64 1)) x1 (Go.Value.int Go.IntKind.i64 1)).bind fun t23_9 =>
obH (evC Try.prog 42 #[x0, t23_9] h4) fun t24_10 h11 =>
(indexAddrV Try.prog 27 t24_10 x1).bind fun t27_12 =>
(loadV Try.prog 29 t27_12 h11).bind fun t28_13 =>
(binV Try.prog .add 29 (.tmp 28) (.const (Go.Value.int Go.IntKind.u64 1)) t28_13 (Go.Value.int Go.IntKind.u64 1)).bind fun t29_14 =>
(indexAddrV Try.prog 27 t24_10 x1).bind fun t30_15 =>
(storeV Try.prog 29 t30_15 t29_14 h11).bind fun h16 =>
k .ret ⟨#[x0, x1, x2, x3, t24_10, (Go.Value.bool Bool.true), t24_10, x1, t8_0, t8_0, (gdV (wt t8_0 false) x1), t11_1, t12_2, t12_2, (gdV (wt t12_2 false) x0), (gdV (wt t12_2 false) x1), t16_3, t17_5, t18_6, x19, x20, x0, x1, t23_9, t24_10, t24_10, x1, t27_12, t28_13, t29_14, t30_15, t24_10], h16⟩) := by kernel_rfl
theorem call15 (x0 x1 : Value) (h : Heap) : evC Try.prog 15 #[x0, x1] h = codeK Try.prog (evC Try.prog) loopL c15_0 ⟨#[x0, x1, undef, undef, undef, undef, undef, undef, undef, undef, undef, undef, undef, undef, undef, undef, undef, undef, undef, undef, undef, undef, undef, undef, undef, undef, undef, undef, undef, undef, undef, undef], nm h⟩ (retK Try.f15 Try.prog h) :=
  (evC_call 15 Try.f15 c15_0 Try.func15 (by kernel_rfl) #[x0, x1] h).trans (by kernel_rfl)
theorem ret15 (x0 x1 x2 x3 x4 x5 x6 x7 x8 x9 x10 x11 x12 x13 x14 x15 x16 x17 x18 x19 x20 x21 x22 x23 x24 x25 x26 x27 x28 x29 x30 x31 : Value) (h0 h : Heap) : retK Try.f15 Try.prog h0 .ret ⟨#[x0, x1, x2, x3, x4, x5, x6, x7, x8, x9, x10, x11, x12, x13, x14, x15, x16, x17, x18, x19, x20, x21, x22, x23, x24, x25, x26, x27, x28, x29, x30, x31], h⟩ = fin h0 (some (.tuple #[x4, x5])) h := by kernel_rfl
theorem retn15 (x0 x1 x2 x3 x4 x5 x6 x7 x8 x9 x10 x11 x12 x13 x14 x15 x16 x17 x18 x19 x20 x21 x22 x23 x24 x25 x26 x27 x28 x29 x30 x31 : Value) (h0 h : Heap) : retK Try.f15 Try.prog h0 .normal ⟨#[x0, x1, x2, x3, x4, x5, x6, x7, x8, x9, x10, x11, x12, x13, x14, x15, x16, x17, x18, x19, x20, x21, x22, x23, x24, x25, x26, x27, x28, x29, x30, x31], h⟩ = fin h0 (some (.tuple #[x4, x5])) h := by kernel_rfl
end Go.Am
namespace Go.Am
open Go.Proofs
set_option maxRecDepth 100000
noncomputable def c18_0 : Code := bodyC Try.f18 []
noncomputable def c18_1 : Code := bodyC Try.f18 [true, true, false, true, false, false]
noncomputable def c18_2 : Code := bodyC Try.f18 [true, true, true]
theorem c18_0_eq {β : Type} (x0 x1 x2 x3 x4 x5 x6 x7 x8 x9 x10 x11 x12 x13 x14 x15 x16 x17 x18 x19 x20 x21 x22 x23 x24 x25 x26 x27 x28 x29 : Value) (h : Heap) (k : Ex → St → Option β) : codeK Try.prog (evC Try.prog) loopL c18_0 ⟨#[x0, x1, x2, x3, x4, x5, x6, x7, x8, x9, x10, x11, x12, x13, x14, x15, x16, x17, x18, x19, x20, x21, x22, x23, x24, x25, x26, x27, x28, x29], h⟩ k =
(lenV Try.prog 27 x1 h).bind fun t10_0 =>
obH (evC Try.prog 42 #[x0, t10_0] h) fun t11_1 h2 =>
(lenV Try.prog 27 x1 h2).bind fun t13_3 =>
loopK Try.prog (evC Try.prog) c18_1 ⟨#[x0, x1, x2, x3, (Go.Value.slice Option.none 0 0), t11_1, x6, x7, x0, x1, t10_0, t11_1, x1, t13_3, (Go.Value.int Go.IntKind.i64 0), x15, x16, x17, x18, x19, x20, x21, x22, x23, x24, x25, x26, x27, x28, x29], h2⟩ (blockK 0 (seqK Try.prog (evC Try.prog) c18_2 k)) := by kernel_rfl
theorem c18_1_eq {β : Type} (x0 x1 x2 x3 x4 x5 x6 x7 x8 x9 x10 x11 x12 x13 x14 x15 x16 x17 x18 x19 x20 x21 x22 x23 x24 x25 x26 x27 x28 x29 : Value) (h : Heap) (k : Ex → St → Option β) : codeK Try.prog (evC Try.prog) loopL c18_1 ⟨#[x0, x1, x2, x3, x4, x5, x6, x7, x8, x9, x10, x11, x12, x13, x14, x15, x16, x17, x18, x19, x20, x21, x22, x23, x24, x25, x26, x27, x28, x29], h⟩ k =
(binV Try.prog .lss 3 (.tmp 14) (.tmp 13) x14 x13).bind fun t15_4 =>
cnd t15_4 (
(indexAddrV Try.prog 27 x12 x14).bind fun t17_5 =>
(loadV Try.prog 29 t17_5 h).bind fun t18_6 =>
(indexAddrV Try.prog 27 x5 x14).bind fun t23_7 =>
(loadV Try.prog 29 t23_7 h).bind fun t24_8 =>
obH (builtinV Try.prog .max #[29, 29] #[t24_8, t18_6] h) fun t26_9 h10 =>
(indexAddrV Try.prog 27 x5 x14).bind fun t27_11 =>
(storeV Try.prog 29 t27_11 t26_9 h10).bind fun h12 =>
(binV Try.prog .add 3 (.tmp 14) (.const (Go.Value.int Go.IntKind.i64 1)) x14 (Go.Value.int Go.IntKind.i64 1)).bind fun t28_13 =>
k .normal ⟨#[x0, x1, x2, x3, x4, x5, x14, t18_6, x8, x9, x10, x11, x12, x13, t28_13, t15_4, x14, t17_5, t18_6, x5, x14, x5, x14, t23_7, t24_8, t18_6, t26_9, t27_11, t28_13, x29], h12⟩) (
k (.exit 0) ⟨#[x0, x1, x2, x3, x4, x5, x6, x7, x8, x9, x10, x11, x12, x13, x14, t15_4, x16, x17, x18, x19, x20, x21, x22, x23, x24, x25, x26, x27, x28, x29], h⟩) := by kernel_rfl
theorem c18_2_eq {β : Type} (x0 x1 x2 x3 x4 x5 x6 x7 x8 x9 x10 x11 x12 x13 x14 x15 x16 x17 x18 x19 x20 x21 x22 x23 x24 x25 x26 x27 x28 x29 : Value) (h : Heap) (k : Ex → St → Option β) : codeK Try.prog (evC Try.prog) loopL c18_2 ⟨#[x0, x1, x2, x3, x4, x5, x6, x7, x8, x9, x10, x11, x12, x13, x14, x15, x16, x17, x18, x19, x20, x21, x22, x23, x24, x25, x26, x27, x28, x29], h⟩ k =
k .ret ⟨#[x0, x1, x2, x3, x5, x5, x6, x7, x8, x9, x10, x11, x12, x13, x14, x15, x16, x17, x18, x19, x20, x21, x22, x23, x24, x25, x26, x27, x28, x5], h⟩ := by kernel_rfl
theorem call18 (x0 x1 : Value) (h : Heap) : evC Try.prog 18 #[x0, x1] h = codeK Try.prog (evC Try.prog) loopL c18_0 ⟨#[x0, x1, undef, undef, undef, undef, undef, undef, undef, undef, undef, undef, undef, undef, undef, undef, undef, undef, undef, undef, undef, undef, undef, undef, undef, undef, undef, undef, undef, undef], nm h⟩ (retK Try.f18 Try.prog h) :=
  (evC_call 18 Try.f18 c18_0 Try.func18 (by kernel_rfl) #[x0, x1] h).trans (by kernel_rfl)
theorem ret18 (x0 x1 x2 x3 x4 x5 x6 x7 x8 x9 x10 x11 x12 x13 x14 x15 x16 x17 x18 x19 x20 x21 x22 x23 x24 x25 x26 x27 x28 x29 : Value) (h0 h : Heap) : retK Try.f18 Try.prog h0 .ret ⟨#[x0, x1, x2, x3, x4, x5, x6, x7, x8, x9, x10, x11, x12, x13, x14, x15, x16, x17, x18, x19, x20, x21, x22, x23, x24, x25, x26, x27, x28, x29], h⟩ = fin h0 (some x4) h := by kernel_rfl
theorem retn18 (x0 x1 x2 x3 x4 x5 x6 x7 x8 x9 x10 x11 x12 x13 x14 x15 x16 x17 x18 x19 x20 x21 x22 x23 x24 x25 x26 x27 x28 x29 : Value) (h0 h : Heap) : retK Try.f18 Try.prog h0 .normal ⟨#[x0, x1, x2, x3, x4, x5, x6, x7, x8, x9, x10, x11, x12, x13, x14, x15, x16, x17, x18, x19, x20, x21, x22, x23, x24, x25, x26, x27, x28, x29], h⟩ = fin h0 (some x4) h := by kernel_rfl
end Go.Am
namespace Go.Am
open Go.Proofs
set_option maxRecDepth 100000
noncomputable def c41_0 : Code := bodyC Try.f41 []
theorem c41_0_eq {β : Type} (x0 x1 x2 x3 x4 x5 x6 x7 : Value) (h : Heap) (k : Ex → St → Option β) : codeK Try.prog (evC Try.prog) loopL c41_0 ⟨#[x0, x1, x2, x3, x4, x5, x6, x7], h⟩ k =
(binV Try.prog .eql 27 (.tmp 3) (.const (Go.Value.slice Option.none 0 0)) x0 (Go.Value.slice Option.none 0 0)).bind fun t4_0 =>
cnd t4_0 (
k .ret ⟨#[x0, x1, (Go.Value.slice Option.none 0 0), x0, t4_0, x5, x6, x7], h⟩) (
obH (buildSliceV Try.prog 27 0 #[] h) fun t5_1 h2 =>
obH (appendV Try.prog 27 (some 27) t5_1 x0 h2) fun t7_3 h4 =>
k .ret ⟨#[x0, x1, t7_3, x0, t4_0, t5_1, x0, t7_3], h4⟩) := by kernel_rfl
theorem call41 (x0 : Value) (h : Heap) : evC Try.prog 41 #[x0] h = codeK Try.prog (evC Try.prog) loopL c41_0 ⟨#[x0, undef, undef, undef, undef, undef, undef, undef], nm h⟩ (retK Try.f41 Try.prog h) :=
  (evC_call 41 Try.f41 c41_0 Try.func41 (by kernel_rfl) #[x0] h).trans (by kernel_rfl)
theorem ret41 (x0 x1 x2 x3 x4 x5 x6 x7 : Value) (h0 h : Heap) : retK Try.f41 Try.prog h0 .ret ⟨#[x0, x1, x2, x3, x4, x5, x6, x7], h⟩ = fin h0 (some x2) h := by kernel_rfl
theorem retn41 (x0 x1 x2 x3 x4 x5 x6 x7 : Value) (h0 h : Heap) : retK Try.f41 Try.prog h0 .normal ⟨#[x0, x1, x2, x3, x4, x5, x6, x7], h⟩ = fin h0 (some x2) h := by kernel_rfl
end Go.Am
namespace Go.Am
open Go.Proofs
set_option maxRecDepth 100000
noncomputable def c22_0 : Code := bodyC Try.f22 []
theorem c22_0_eq {β : Type} (x0 x1 x2 x3 x4 x5 x6 x7 x8 x9 x10 x11 x12 x13 x14 x15 x16 : Value) (h : Heap) (k : Ex → St → Option β) : codeK Try.prog (evC Try.prog) loopL c22_0 ⟨#[x0, x1, x2, x3, x4, x5, x6, x7, x8, x9, x10, x11, x12, x13, x14, x15, x16], h⟩ k =
(binV Try.prog .lss 3 (.tmp 5) (.const (Go.Value.int Go.IntKind.i64 0)) x1 (Go.Value.int Go.IntKind.i64 0)).bind fun t6_0 =>
(gd (wt t6_0 false) (lenV Try.prog 22 (gdV (wt t6_0 false) x0) h)).bind fun t10_1 =>
(gd (wt t6_0 false) (binV Try.prog .geq 3 (.tmp 8) (.tmp 10) (gdV (wt t6_0 false) x1) t10_1)).bind fun t11_2 =>
(pickV t6_0 (Go.Value.bool Bool.true) t11_2).bind fun t12_3 =>
cnd t12_3 (
k .ret ⟨#[x0, x1, x2, x3, (Go.Value.int Go.IntKind.u64 0), x1, t6_0, t6_0, (gdV (wt t6_0 false) x1), (gdV (wt t6_0 false) x0), t10_1, t11_2, t12_3, x13, x14, x15, x16], h⟩) (
(indexAddrV Try.prog 22 x0 x1).bind fun t15_4 =>
(loadV Try.prog 29 t15_4 h).bind fun t16_5 =>
k .ret ⟨#[x0, x1, x2, x3, t16_5, x1, t6_0, t6_0, (gdV (wt t6_0 false) x1), (gdV (wt t6_0 false) x0), t10_1, t11_2, t12_3, x0, x1, t15_4, t16_5], h⟩) := by kernel_rfl
theorem call22 (x0 x1 : Value) (h : Heap) : evC Try.prog 22 #[x0, x1] h = codeK Try.prog (evC Try.prog) loopL c22_0 ⟨#[x0, x1, undef, undef, undef, undef, undef, undef, undef, undef, undef, undef, undef, undef, undef, undef, undef], nm h⟩ (retK Try.f22 Try.prog h) :=
  (evC_call 22 Try.f22 c22_0 Try.func22 (by kernel_rfl) #[x0, x1] h).trans (by kernel_rfl)
theorem ret22 (x0 x1 x2 x3 x4 x5 x6 x7 x8 x9 x10 x11 x12 x13 x14 x15 x16 : Value) (h0 h : Heap) : retK Try.f22 Try.prog h0 .ret ⟨#[x0, x1, x2, x3, x4, x5, x6, x7, x8, x9, x10, x11, x12, x13, x14, x15, x16], h⟩ = fin h0 (some x4) h := by kernel_rfl
theorem retn22 (x0 x1 x2 x3 x4 x5 x6 x7 x8 x9 x10 x11 x12 x13 x14 x15 x16 : Value) (h0 h : Heap) : retK Try.f22 Try.prog h0 .normal ⟨#[x0, x1, x2, x3, x4, x5, x6, x7, x8, x9, x10, x11, x12, x13, x14, x15, x16], h⟩ = fin h0 (some x4) h := by kernel_rfl
end Go.Am
namespace Go.Am
open Go.Proofs
set_option maxRecDepth 100000
noncomputable def c19_0 : Code := bodyC Try.f19 []
noncomputable def c19_1 : Code := bodyC Try.f19 [true, true, true, false, false, false]
noncomputable def c19_2 : Code := bodyC Try.f19 [true, true, true, true]
theorem c19_0_eq {β : Type} (x0 x1 x2 x3 x4 x5 x6 x7 x8 x9 x10 x11 x12 x13 x14 x15 x16 x17 x18 x19 x20 x21 x22 x23 x24 x25 x26 x27 x28 x29 x30 x31 x32 x33 x34 x35 x36 : Value) (h : Heap) (k : Ex → St → Option β) : codeK Try.prog (evC Try.prog) loopL c19_0 ⟨#[x0, x1, x2, x3, x4, x5, x6, x7, x8, x9, x10, x11, x12, x13, x14, x15, x16, x17, x18, x19, x20, x21, x22, x23, x24, x25, x26, x27, x28, x29, x30, x31, x32, x33, x34, x35, x36], h⟩ k =
obH (buildSliceV Try.prog 22 0 #[] h) fun t7_0 h1 =>
obH (appendV Try.prog 22 (some 22) t7_0 x0 h1) fun t9_2 h3 =>
(binV Try.prog .lss 3 (.tmp 10) (.const (Go.Value.int Go.IntKind.i64 0)) x1 (Go.Value.int Go.IntKind.i64 0)).bind fun t11_4 =>
(gd (wt t11_4 false) (binV Try.prog .gtr 3 (.tmp 13) (.const (Go.Value.int Go.IntKind.i64 63)) (gdV (wt t11_4 false) x1) (Go.Value.int Go.IntKind.i64 63))).bind fun t14_5 =>
(pickV t11_4 (Go.Value.bool Bool.true) t14_5).bind fun t15_6 =>
obH (gdH (wt t15_6 false) h3 (evC Try.prog 22 #[(gdV (wt t15_6 false) x0), (gdV (wt t15_6 false) x1)] h3)) fun t19_7 h8 =>
(gd (wt t15_6 false) (binV Try.prog .eql 29 (.tmp 19) (.const (Go.Value.int Go.IntKind.u64 18446744073709551615)) t19_7 (Go.Value.int Go.IntKind.u64 18446744073709551615))).bind fun t20_9 =>
(pickV t15_6 (Go.Value.bool Bool.true) t20_9).bind fun t21_10 =>
cnd t21_10 (
k .ret ⟨#[x0, x1, x2, x3, t9_2, (Go.Value.bool Bool.false), t9_2, t7_0, x0, t9_2, x1, t11_4, t11_4, (gdV (wt t11_4 false) x1), t14_5, t15_6, t15_6, (gdV (wt t15_6 false) x0), (gdV (wt t15_6 false) x1), t19_7, t20_9, t21_10, t9_2, x23, x24, x25, x26, x27, x28, x29, x30, x31, x32, x33, x34, x35, x36], h8⟩) (
loopK Try.prog (evC Try.prog) c19_1 ⟨#[x0, x1, x2, x3, (Go.Value.slice Option.none 0 0), (Go.Value.bool Bool.false), t9_2, t7_0, x0, t9_2, x1, t11_4, t11_4, (gdV (wt t11_4 false) x1), t14_5, t15_6, t15_6, (gdV (wt t15_6 false) x0), (gdV (wt t15_6 false) x1), t19_7, t20_9, t21_10, x22, x23, x24, x25, x26, x27, x28, x29, x30, x31, x32, x33, x34, x35, x36], h8⟩ (blockK 0 (seqK Try.prog (evC Try.prog) c19_2 k))) := by kernel_rfl
theorem c19_1_eq {β : Type} (x0 x1 x2 x3 x4 x5 x6 x7 x8 x9 x10 x11 x12 x13 x14 x15 x16 x17 x18 x19 x20 x21 x22 x23 x24 x25 x26 x27 x28 x29 x30 x31 x32 x33 x34 x35 x36 : Value) (h : Heap) (k : Ex → St → Option β) : codeK Try.prog (evC Try.prog) loopL c19_1 ⟨#[x0, x1, x2, x3, x4, x5, x6, x7, x8, x9, x10, x11, x12, x13, x14, x15, x16, x17, x18, x19, x20, x21, x22, x23, x24, x25, x26, x27, x28, x29, x30, x31, x32, x33, x34, x35, x36], h⟩ k =
(lenV Try.prog 22 x6 h).bind fun t24_11 =>
(binV Try.prog .leq 3 (.tmp 24) (.tmp 25) t24_11 x1).bind fun t26_12 =>
cnd t26_12 (
obH (buildSliceV Try.prog 22 1 #[(0, (Go.Value.int Go.IntKind.u64 0))] h) fun t28_13 h14 =>
obH (appendV Try.prog 22 (some 22) x6 t28_13 h14) fun t29_15 h16 =>
k .normal ⟨#[x0, x1, x2, x3, x4, x5, t29_15, x7, x8, x9, x10, x11, x12, x13, x14, x15, x16, x17, x18, x19, x20, x21, x22, x6, t24_11, x1, t26_12, x6, t28_13, t29_15, x30, x31, x32, x33, x34, x35, x36], h16⟩) (
k (.exit 0) ⟨#[x0, x1, x2, x3, x4, x5, x6, x7, x8, x9, x10, x11, x12, x13, x14, x15, x16, x17, x18, x19, x20, x21, x22, x6, t24_11, x1, t26_12, x27, x28, x29, x30, x31, x32, x33, x34, x35, x36], h⟩) := by kernel_rfl
theorem c19_2_eq {β : Type} (x0 x1 x2 x3 x4 x5 x6 x7 x8 x9 x10 x11 x12 x13 x14 x15 x16 x17 x18 x19 x20 x21 x22 x23 x24 x25 x26 x27 x28 x29 x30 x31 x32 x33 x34 x35 x36 : Value) (h : Heap) (k : Ex → St → Option β) : codeK Try.prog (evC Try.prog) loopL c19_2 ⟨#[x0, x1, x2, x3, x4, x5, x6, x7, x8, x9, x10, x11, x12, x13, x14, x15, x16, x17, x18, x19, x20, x21, x22, x23, x24, x25, x26, x27, x28, x29, x30, x31, x32, x33, x34, x35, x36], h⟩ k =
(indexAddrV Try.prog 22 x6 x1).bind fun t32_17 =>
(loadV Try.prog 29 t32_17 h).bind fun t33_18 =>
(binV Try.prog .add 29 (.tmp 33) (.const (Go.Value.int Go.IntKind.u64 1)) t33_18 (Go.Value.int Go.IntKind.u64 1)).bind fun t34_19 =>
(indexAddrV Try.prog 22 x6 x1).bind fun t35_20 =>
(storeV Try.prog 29 t35_20 t34_19 h).bind fun h21 =>
k .ret ⟨#[x0, x1, x2, x3, x6, (Go.Value.bool Bool.true), x6, x7, x8, x9, x10, x11, x12, x13, x14, x15, x16, x17, x18, x19, x20, x21, x22, x23, x24, x25, x26, x27, x28, x29, x6, x1, t32_17, t33_18, t34_19, t35_20, x6], h21⟩ := by kernel_rfl
theorem call19 (x0 x1 : Value) (h : Heap) : evC Try.prog 19 #[x0, x1] h = codeK Try.prog (evC Try.prog) loopL c19_0 ⟨#[x0, x1, undef, undef, undef, undef, undef, undef, undef, undef, undef, undef, undef, undef, undef, undef, undef, undef, undef, undef, undef, undef, undef, undef, undef, undef, undef, undef, undef, undef, undef, undef, undef, undef, undef, undef, undef], nm h⟩ (retK Try.f19 Try.prog h) :=
  (evC_call 19 Try.f19 c19_0 Try.func19 (by kernel_rfl) #[x0, x1] h).trans (by kernel_rfl)
theorem ret19 (x0 x1 x2 x3 x4 x5 x6 x7 x8 x9 x10 x11 x12 x13 x14 x15 x16 x17 x18 x19 x20 x21 x22 x23 x24 x25 x26 x27 x28 x29 x30 x31 x32 x33 x34 x35 x36 : Value) (h0 h : Heap) : retK Try.f19 Try.prog h0 .ret ⟨#[x0, x1, x2, x3, x4, x5, x6, x7, x8, x9, x10, x11, x12, x13, x14, x15, x16, x17, x18, x19, x20, x21, x22, x23, x24, x25, x26, x27, x28, x29, x30, x31, x32, x33, x34, x35, x36], h⟩ = fin h0 (some (.tuple #[x4, x5])) h := by kernel_rfl
theorem retn19 (x0 x1 x2 x3 x4 x5 x6 x7 x8 x9 x10 x11 x12 x13 x14 x15 x16 x17 x18 x19 x20 x21 x22 x23 x24 x25 x26 x27 x28 x29 x30 x31 x32 x33 x34 x35 x36 : Value) (h0 h : Heap) : retK Try.f19 Try.prog h0 .normal ⟨#[x0, x1, x2, x3, x4, x5, x6, x7, x8, x9, x10, x11, x12, x13, x14, x15, x16, x17, x18, x19, x20, x21, x22, x23, x24, x25, x26, x27, x28, x29, x30, x31, x32, x33, x34, x35, x36], h⟩ = fin h0 (some (.tuple #[x4, x5])) h := by kernel_rfl
end Go.Am
namespace Go.Am
open Go.Proofs
set_option maxRecDepth 100000
noncomputable def c20_0 : Code := bodyC Try.f20 []
noncomputable def c20_1 : Code := bodyC Try.f20 [true, true, false, true, false, false]
noncomputable def c20_2 : Code := bodyC Try.f20 [true, true, true]
theorem c20_0_eq {β : Type} (x0 x1 x2 x3 x4 x5 x6 x7 x8 x9 x10 x11 x12 x13 x14 x15 x16 x17 x18 x19 x20 x21 x22 x23 x24 x25 x26 x27 x28 x29 x30 x31 x32 x33 x34 x35 : Value) (h : Heap) (k : Ex → St → Option β) : codeK Try.prog (evC Try.prog) loopL c20_0 ⟨#[x0, x1, x2, x3, x4, x5, x6, x7, x8, x9, x10, x11, x12, x13, x14, x15, x16, x17, x18, x19, x20, x21, x22, x23, x24, x25, x26, x27, x28, x29, x30, x31, x32, x33, x34, x35], h⟩ k =
loopK Try.prog (evC Try.prog) c20_1 ⟨#[x0, x1, x2, x3, (Go.Value.slice Option.none 0 0), (Go.Value.slice Option.none 0 0), (Go.Value.int Go.IntKind.i64 0), x7, x8, x9, x10, x11, x12, x13, x14, x15, x16, x17, x18, x19, x20, x21, x22, x23, x24, x25, x26, x27, x28, x29, x30, x31, x32, x33, x34, x35], h⟩ (blockK 0 (seqK Try.prog (evC Try.prog) c20_2 k)) := by kernel_rfl
theorem c20_1_eq {β : Type} (x0 x1 x2 x3 x4 x5 x6 x7 x8 x9 x10 x11 x12 x13 x14 x15 x16 x17 x18 x19 x20 x21 x22 x23 x24 x25 x26 x27 x28 x29 x30 x31 x32 x33 x34 x35 : Value) (h : Heap) (k : Ex → St → Option β) : codeK Try.prog (evC Try.prog) loopL c20_1 ⟨#[x0, x1, x2, x3, x4, x5, x6, x7, x8, x9, x10, x11, x12, x13, x14, x15, x16, x17, x18, x19, x20, x21, x22, x23, x24, x25, x26, x27, x28, x29, x30, x31, x32, x33, x34, x35], h⟩ k =
(lenV Try.prog 22 x0 h).bind fun t10_0 =>
(binV Try.prog .lss 3 (.tmp 8) (.tmp 10) x6 t10_0).bind fun t11_1 =>
(gd (wt t11_1 false) (lenV Try.prog 22 (gdV (wt t11_1 false) x1) h)).bind fun t15_2 =>
(gd (wt t11_1 false) (binV Try.prog .lss 3 (.tmp 13) (.tmp 15) (gdV (wt t11_1 false) x6) t15_2)).bind fun t16_3 =>
(pickV t11_1 (Go.Value.bool Bool.true) t16_3).bind fun t17_4 =>
cnd t17_4 (
obH (evC Try.prog 22 #[x0, x6] h) fun t22_5 h6 =>
obH (evC Try.prog 22 #[x1, x6] h6) fun t25_7 h8 =>
(binV Try.prog .gtr 29 (.tmp 25) (.tmp 26) t25_7 t22_5).bind fun t27_9 =>
cnd t27_9 (
obH (evC Try.prog 22 #[x1, x6] h8) fun t30_10 h11 =>
obH (buildSliceV Try.prog 22 1 #[(0, t30_10)] h11) fun t33_12 h13 =>
obH (appendV Try.prog 22 (some 22) x5 t33_12 h13) fun t34_14 h15 =>
(binV Try.prog .add 3 (.tmp 18) (.const (Go.Value.int Go.IntKind.i64 1)) x6 (Go.Value.int Go.IntKind.i64 1)).bind fun t19_16 =>
k .normal ⟨#[x0, x1, x2, x3, x4, t34_14, t19_16, t30_10, x6, x0, t10_0, t11_1, t11_1, (gdV (wt t11_1 false) x6), (gdV (wt t11_1 false) x1), t15_2, t16_3, t17_4, x6, t19_16, x0, x6, t22_5, x1, x6, t25_7, t22_5, t27_9, x1, x6, t30_10, x5, t30_10, t33_12, t34_14, x35], h15⟩) (
obH (buildSliceV Try.prog 22 1 #[(0, t22_5)] h8) fun t33_17 h18 =>
obH (appendV Try.prog 22 (some 22) x5 t33_17 h18) fun t34_19 h20 =>
(binV Try.prog .add 3 (.tmp 18) (.const (Go.Value.int Go.IntKind.i64 1)) x6 (Go.Value.int Go.IntKind.i64 1)).bind fun t19_21 =>
k .normal ⟨#[x0, x1, x2, x3, x4, t34_19, t19_21, t22_5, x6, x0, t10_0, t11_1, t11_1, (gdV (wt t11_1 false) x6), (gdV (wt t11_1 false) x1), t15_2, t16_3, t17_4, x6, t19_21, x0, x6, t22_5, x1, x6, t25_7, t22_5, t27_9, x28, x29, x30, x5, t22_5, t33_17, t34_19, x35], h20⟩)) (
k (.exit 0) ⟨#[x0, x1, x2, x3, x4, x5, x6, x7, x6, x0, t10_0, t11_1, t11_1, (gdV (wt t11_1 false) x6), (gdV (wt t11_1 false) x1), t15_2, t16_3, t17_4, x18, x19, x20, x21, x22, x23, x24, x25, x26, x27, x28, x29, x30, x31, x32, x33, x34, x35], h⟩) := by kernel_rfl
theorem c20_2_eq {β : Type} (x0 x1 x2 x3 x4 x5 x6 x7 x8 x9 x10 x11 x12 x13 x14 x15 x16 x17 x18 x19 x20 x21 x22 x23 x24 x25 x26 x27 x28 x29 x30 x31 x32 x33 x34 x35 : Value) (h : Heap) (k : Ex → St → Option β) : codeK Try.prog (evC Try.prog) loopL c20_2 ⟨#[x0, x1, x2, x3, x4, x5, x6, x7, x8, x9, x10, x11, x12, x13, x14, x15, x16, x17, x18, x19, x20, x21, x22, x23, x24, x25, x26, x27, x28, x29, x30, x31, x32, x33, x34, x35], h⟩ k =
k .ret ⟨#[x0, x1, x2, x3, x5, x5, x6, x7, x8, x9, x10, x11, x12, x13, x14, x15, x16, x17, x18, x19, x20, x21, x22, x23, x24, x25, x26, x27, x28, x29, x30, x31, x32, x33, x34, x5], h⟩ := by kernel_rfl
theorem call20 (x0 x1 : Value) (h : Heap) : evC Try.prog 20 #[x0, x1] h = codeK Try.prog (evC Try.prog) loopL c20_0 ⟨#[x0, x1, undef, undef, undef, undef, undef, undef, undef, undef, undef, undef, undef, undef, undef, undef, undef, undef, undef, undef, undef, undef, undef, undef, undef, undef, undef, undef, undef, undef, undef, undef, undef, undef, undef, undef], nm h⟩ (retK Try.f20 Try.prog h) :=
  (evC_call 20 Try.f20 c20_0 Try.func20 (by kernel_rfl) #[x0, x1] h).trans (by kernel_rfl)
theorem ret20 (x0 x1 x2 x3 x4 x5 x6 x7 x8 x9 x10 x11 x12 x13 x14 x15 x16 x17 x18 x19 x20 x21 x22 x23 x24 x25 x26 x27 x28 x29 x30 x31 x32 x33 x34 x35 : Value) (h0 h : Heap) : retK Try.f20 Try.prog h0 .ret ⟨#[x0, x1, x2, x3, x4, x5, x6, x7, x8, x9, x10, x11, x12, x13, x14, x15, x16, x17, x18, x19, x20, x21, x22, x23, x24, x25, x26, x27, x28, x29, x30, x31, x32, x33, x34, x35], h⟩ = fin h0 (some x4) h := by kernel_rfl
theorem retn20 (x0 x1 x2 x3 x4 x5 x6 x7 x8 x9 x10 x11 x12 x13 x14 x15 x16 x17 x18 x19 x20 x21 x22 x23 x24 x25 x26 x27 x28 x29 x30 x31 x32 x33 x34 x35 : Value) (h0 h : Heap) : retK Try.f20 Try.prog h0 .normal ⟨#[x0, x1, x2, x3, x4, x5, x6, x7, x8, x9, x10, x11, x12, x13, x14, x15, x16, x17, x18, x19, x20, x21, x22, x23, x24, x25, x26, x27, x28, x29, x30, x31, x32, x33, x34, x35], h⟩ = fin h0 (some x4) h := by kernel_rfl
end Go.Am
namespace Go.Am
open Go.Proofs
set_option maxRecDepth 100000
noncomputable def c24_0 : Code := bodyC Try.f24 []
noncomputable def c24_1 : Code := bodyC Try.f24 [true, true, true, false, true, false, false]
noncomputable def c24_2 : Code := bodyC Try.f24 [true, true, true, true]
theorem c24_0_eq {β : Type} (x0 x1 x2 x3 x4 x5 x6 x7 x8 x9 x10 x11 x12 x13 x14 x15 x16 x17 x18 x19 x20 x21 x22 x23 x24 x25 : Value) (h : Heap) (k : Ex → St → Option β) : codeK Try.prog (evC Try.prog) loopL c24_0 ⟨#[x0, x1, x2, x3, x4, x5, x6, x7, x8, x9, x10, x11, x12, x13, x14, x15, x16, x17, x18, x19, x20, x21, x22, x23, x24, x25], h⟩ k =
obH (allocV Try.prog 45 h) fun t2_0 h1 =>
(binV Try.prog .lss 3 (.tmp 5) (.const (Go.Value.int Go.IntKind.i64 1)) x0 (Go.Value.int Go.IntKind.i64 1)).bind fun t6_2 =>
(gd (wt t6_2 false) (binV Try.prog .gtr 3 (.tmp 8) (.const (Go.Value.int Go.IntKind.i64 16)) (gdV (wt t6_2 false) x0) (Go.Value.int Go.IntKind.i64 16))).bind fun t9_3 =>
(pickV t6_2 (Go.Value.bool Bool.true) t9_3).bind fun t10_4 =>
cnd t10_4 (
(buildV Try.prog 45 #[]).bind fun t11_5 =>
(storeV Try.prog 45 t2_0 t11_5 h1).bind fun h6 =>
k .ret ⟨#[x0, x1, t2_0, (Go.Value.int Go.IntKind.i64 1), x4, x0, t6_2, t6_2, (gdV (wt t6_2 false) x0), t9_3, t10_4, t11_5, x12, x13, x14, x15, x16, x17, x18, x19, x20, x21, x22, x23, x24, x25], h6⟩) (
(buildV Try.prog 45 #[(0, x0)]).bind fun t13_7 =>
obH (allocV Try.prog 45 h1) fun t4_8 h9 =>
(storeV Try.prog 45 t4_8 t13_7 h9).bind fun h10 =>
loopK Try.prog (evC Try.prog) c24_1 ⟨#[x0, x1, t2_0, (Go.Value.int Go.IntKind.i64 0), t4_8, x0, t6_2, t6_2, (gdV (wt t6_2 false) x0), t9_3, t10_4, x11, x0, t13_7, x0, (Go.Value.int Go.IntKind.i64 0), x16, x17, x18, x19, x20, x21, x22, x23, x24, x25], h10⟩ (blockK 0 (seqK Try.prog (evC Try.prog) c24_2 k))) := by kernel_rfl
theorem c24_1_eq {β : Type} (x0 x1 x2 x3 x4 x5 x6 x7 x8 x9 x10 x11 x12 x13 x14 x15 x16 x17 x18 x19 x20 x21 x22 x23 x24 x25 : Value) (h : Heap) (k : Ex → St → Option β) : codeK Try.prog (evC Try.prog) loopL c24_1 ⟨#[x0, x1, x2, x3, x4, x5, x6, x7, x8, x9, x10, x11, x12, x13, x14, x15, x16, x17, x18, x19, x20, x21, x22, x23, x24, x25], h⟩ k =
(binV Try.prog .lss 3 (.tmp 15) (.tmp 14) x15 x14).bind fun t16_11 =>
cnd t16_11 (
(fieldAddrV Try.prog 45 x4 1).bind fun t17_12 =>
(loadV Try.prog 43 t17_12 h).bind fun t18_13 =>
obH (evC Try.prog 14 #[x0] (nm h)) fun t20_14 h15 =>
obH (buildSliceV Try.prog 43 1 #[(0, t20_14)] (am h15 h)) fun t21_16 h17 =>
obH (appendV Try.prog 43 (some 43) t18_13 t21_16 h17) fun t22_18 h19 =>
(fieldAddrV Try.prog 45 x4 1).bind fun t23_20 =>
(storeV Try.prog 43 t23_20 t22_18 h19).bind fun h21 =>
chk ((rb t17_12) ++ []) (h15.mods ++ []) (
(binV Try.prog .add 3 (.tmp 15) (.const (Go.Value.int Go.IntKind.i64 1)) x15 (Go.Value.int Go.IntKind.i64 1)).bind fun t24_22 =>
k .normal ⟨#[x0, x1, x2, x3, x4, x5, x6, x7, x8, x9, x10, x11, x12, x13, x14, t24_22, t16_11, t17_12, t18_13, x0, t20_14, t21_16, t22_18, t23_20, t24_22, x25], h21⟩)) (
k (.exit 0) ⟨#[x0, x1, x2, x3, x4, x5, x6, x7, x8, x9, x10, x11, x12, x13, x14, x15, t16_11, x17, x18, x19, x20, x21, x22, x23, x24, x25], h⟩) := by kernel_rfl
theorem c24_2_eq {β : Type} (x0 x1 x2 x3 x4 x5 x6 x7 x8 x9 x10 x11 x12 x13 x14 x15 x16 x17 x18 x19 x20 x21 x22 x23 x24 x25 : Value) (h : Heap) (k : Ex → St → Option β) : codeK Try.prog (evC Try.prog) loopL c24_2 ⟨#[x0, x1, x2, x3, x4, x5, x6, x7, x8, x9, x10, x11, x12, x13, x14, x15, x16, x17, x18, x19, x20, x21, x22, x23, x24, x25], h⟩ k =
(loadV Try.prog 45 x4 h).bind fun t25_23 =>
(storeV Try.prog 45 x2 t25_23 h).bind fun h24 =>
k .ret ⟨#[x0, x1, x2, (Go.Value.int Go.IntKind.i64 0), x4, x5, x6, x7, x8, x9, x10, x11, x12, x13, x14, x15, x16, x17, x18, x19, x20, x21, x22, x23, x24, t25_23], h24⟩ := by kernel_rfl
theorem call24 (x0 : Value) (h : Heap) : evC Try.prog 24 #[x0] h = codeK Try.prog (evC Try.prog) loopL c24_0 ⟨#[x0, undef, undef, undef, undef, undef, undef, undef, undef, undef, undef, undef, undef, undef, undef, undef, undef, undef, undef, undef, undef, undef, undef, undef, undef, undef], nm h⟩ (retK Try.f24 Try.prog h) :=
  (evC_call 24 Try.f24 c24_0 Try.func24 (by kernel_rfl) #[x0] h).trans (by kernel_rfl)
theorem ret24 (x0 x1 x2 x3 x4 x5 x6 x7 x8 x9 x10 x11 x12 x13 x14 x15 x16 x17 x18 x19 x20 x21 x22 x23 x24 x25 : Value) (h0 h : Heap) : retK Try.f24 Try.prog h0 .ret ⟨#[x0, x1, x2, x3, x4, x5, x6, x7, x8, x9, x10, x11, x12, x13, x14, x15, x16, x17, x18, x19, x20, x21, x22, x23, x24, x25], h⟩ = fin h0 (rvals ((loadV Try.prog 45 x2 h).bind fun r0 => some [r0, x3])) h := by kernel_rfl
theorem retn24 (x0 x1 x2 x3 x4 x5 x6 x7 x8 x9 x10 x11 x12 x13 x14 x15 x16 x17 x18 x19 x20 x21 x22 x23 x24 x25 : Value) (h0 h : Heap) : retK Try.f24 Try.prog h0 .normal ⟨#[x0, x1, x2, x3, x4, x5, x6, x7, x8, x9, x10, x11, x12, x13, x14, x15, x16, x17, x18, x19, x20, x21, x22, x23, x24, x25], h⟩ = fin h0 (rvals ((loadV Try.prog 45 x2 h).bind fun r0 => some [r0, x3])) h := by kernel_rfl
end Go.Am
namespace Go.Am
open Go.Proofs
set_option maxRecDepth 100000
noncomputable def c38_0 : Code := bodyC Try.f38 []
theorem c38_0_eq {β : Type} (x0 x1 x2 x3 x4 x5 x6 x7 x8 x9 x10 x11 x12 x13 x14 x15 x16 x17 x18 x19 x20 x21 x22 x23 : Value) (h : Heap) (k : Ex → St → Option β) : codeK Try.prog (evC Try.prog) loopL c38_0 ⟨#[x0, x1, x2, x3, x4, x5, x6, x7, x8, x9, x10, x11, x12, x13, x14, x15, x16, x17, x18, x19, x20, x21, x22, x23], h⟩ k =
obH (boxV Try.prog 45 x0 h) fun t1_0 h1 =>
(fieldAddrV Try.prog 45 t1_0 0).bind fun t3_2 =>
(loadV Try.prog 3 t3_2 h1).bind fun t4_3 =>
(binV Try.prog .lss 3 (.tmp 4) (.const (Go.Value.int Go.IntKind.i64 1)) t4_3 (Go.Value.int Go.IntKind.i64 1)).bind fun t5_4 =>
(gd (wt t5_4 false) (fieldAddrV Try.prog 45 t1_0 0)).bind fun t7_5 =>
(gd (wt t5_4 false) (loadV Try.prog 3 t7_5 h1)).bind fun t8_6 =>
(gd (wt t5_4 false) (binV Try.prog .gtr 3 (.tmp 8) (.const (Go.Value.int Go.IntKind.i64 16)) t8_6 (Go.Value.int Go.IntKind.i64 16))).bind fun t9_7 =>
(pickV t5_4 (Go.Value.bool Bool.true) t9_7).bind fun t10_8 =>
(gd (wt t10_8 false) (fieldAddrV Try.prog 45 t1_0 1)).bind fun t12_9 =>
(gd (wt t10_8 false) (loadV Try.prog 43 t12_9 h1)).bind fun t13_10 =>
(gd (wt t10_8 false) (lenV Try.prog 43 t13_10 h1)).bind fun t14_11 =>
(gd (wt t10_8 false) (fieldAddrV Try.prog 45 t1_0 0)).bind fun t15_12 =>
(gd (wt t10_8 false) (loadV Try.prog 3 t15_12 h1)).bind fun t16_13 =>
(gd (wt t10_8 false) (binV Try.prog .neq 3 (.tmp 14) (.tmp 16) t14_11 t16_13)).bind fun t17_14 =>
(pickV t10_8 (Go.Value.bool Bool.true) t17_14).bind fun t18_15 =>
cnd t18_15 (
k .ret ⟨#[x0, t1_0, (Go.Value.bool Bool.false), t3_2, t4_3, t5_4, t5_4, t7_5, t8_6, t9_7, t10_8, t10_8, t12_9, t13_10, t14_11, t15_12, t16_13, t17_14, t18_15, x19, x20, x21, x22, x23], h1⟩) (
(fieldAddrV Try.prog 45 t1_0 1).bind fun t19_16 =>
(loadV Try.prog 43 t19_16 h1).bind fun t20_17 =>
obH (evC Try.prog 44 #[t20_17, (.func (Go.Fn.func 45) #[] #[t1_0])] h1) fun t22_18 h19 =>
(unV Try.prog .not t22_18).bind fun t23_20 =>
k .ret ⟨#[x0, t1_0, t23_20, t3_2, t4_3, t5_4, t5_4, t7_5, t8_6, t9_7, t10_8, t10_8, t12_9, t13_10, t14_11, t15_12, t16_13, t17_14, t18_15, t19_16, t20_17, (.func (Go.Fn.func 45) #[] #[t1_0]), t22_18, t23_20], h19⟩) := by kernel_rfl
theorem call38 (x0 : Value) (h : Heap) : evC Try.prog 38 #[x0] h = codeK Try.prog (evC Try.prog) loopL c38_0 ⟨#[x0, undef, undef, undef, undef, undef, undef, undef, undef, undef, undef, undef, undef, undef, undef, undef, undef, undef, undef, undef, undef, undef, undef, undef], nm h⟩ (retK Try.f38 Try.prog h) :=
  (evC_call 38 Try.f38 c38_0 Try.func38 (by kernel_rfl) #[x0] h).trans (by kernel_rfl)
theorem ret38 (x0 x1 x2 x3 x4 x5 x6 x7 x8 x9 x10 x11 x12 x13 x14 x15 x16 x17 x18 x19 x20 x21 x22 x23 : Value) (h0 h : Heap) : retK Try.f38 Try.prog h0 .ret ⟨#[x0, x1, x2, x3, x4, x5, x6, x7, x8, x9, x10, x11, x12, x13, x14, x15, x16, x17, x18, x19, x20, x21, x22, x23], h⟩ = fin h0 (some x2) h := by kernel_rfl
theorem retn38 (x0 x1 x2 x3 x4 x5 x6 x7 x8 x9 x10 x11 x12 x13 x14 x15 x16 x17 x18 x19 x20 x21 x22 x23 : Value) (h0 h : Heap) : retK Try.f38 Try.prog h0 .normal ⟨#[x0, x1, x2, x3, x4, x5, x6, x7, x8, x9, x10, x11, x12, x13, x14, x15, x16, x17, x18, x19, x20, x21, x22, x23], h⟩ = fin h0 (some x2) h := by kernel_rfl
end Go.Am
namespace Go.Am
open Go.Proofs
set_option maxRecDepth 100000
noncomputable def c45_0 : Code := bodyC Try.f45 []
theorem c45_0_eq {β : Type} (x0 x1 x2 x3 x4 x5 x6 x7 x8 : Value) (h : Heap) (k : Ex → St → Option β) : codeK Try.prog (evC Try.prog) loopL c45_0 ⟨#[x0, x1, x2, x3, x4, x5, x6, x7, x8], h⟩ k =
(lenV Try.prog 27 x0 h).bind fun t5_0 =>
(fieldAddrV Try.prog 45 x1 0).bind fun t6_1 =>
(loadV Try.prog 3 t6_1 h).bind fun t7_2 =>
(binV Try.prog .neq 3 (.tmp 5) (.tmp 7) t5_0 t7_2).bind fun t8_3 =>
k .ret ⟨#[x0, x1, x2, t8_3, x0, t5_0, t6_1, t7_2, t8_3], h⟩ := by kernel_rfl
theorem call45 (x0 : Value) (h : Heap) : evC Try.prog 45 #[x0] h = codeK Try.prog (evC Try.prog) loopL c45_0 ⟨#[x0, undef, undef, undef, undef, undef, undef, undef, undef], nm h⟩ (retK Try.f45 Try.prog h) :=
  (evC_call 45 Try.f45 c45_0 Try.func45 (by kernel_rfl) #[x0] h).trans (by kernel_rfl)
theorem ret45 (x0 x1 x2 x3 x4 x5 x6 x7 x8 : Value) (h0 h : Heap) : retK Try.f45 Try.prog h0 .ret ⟨#[x0, x1, x2, x3, x4, x5, x6, x7, x8], h⟩ = fin h0 (some x3) h := by kernel_rfl
theorem retn45 (x0 x1 x2 x3 x4 x5 x6 x7 x8 : Value) (h0 h : Heap) : retK Try.f45 Try.prog h0 .normal ⟨#[x0, x1, x2, x3, x4, x5, x6, x7, x8], h⟩ = fin h0 (some x3) h := by kernel_rfl
end Go.Am
namespace Go.Am
open Go.Proofs
set_option maxRecDepth 100000
noncomputable def c27_0 : Code := bodyC Try.f27 []
theorem c27_0_eq {β : Type} (x0 x1 x2 x3 x4 x5 x6 x7 x8 x9 x10 x11 x12 x13 x14 x15 x16 x17 x18 x19 x20 x21 x22 : Value) (h : Heap) (k : Ex → St → Option β) : codeK Try.prog (evC Try.prog) loopL c27_0 ⟨#[x0, x1, x2, x3, x4, x5, x6, x7, x8, x9, x10, x11, x12, x13, x14, x15, x16, x17, x18, x19, x20, x21, x22], h⟩ k =
obH (boxV Try.prog 45 x0 h) fun t3_0 h1 =>
(binV Try.prog .lss 3 (.tmp 7) (.const (Go.Value.int Go.IntKind.i64 0)) x1 (Go.Value.int Go.IntKind.i64 0)).bind fun t8_2 =>
(gd (wt t8_2 false) (fieldAddrV Try.prog 45 t3_0 1)).bind fun t11_3 =>
(gd (wt t8_2 false) (loadV Try.prog 43 t11_3 h1)).bind fun t12_4 =>
(gd (wt t8_2 false) (lenV Try.prog 43 t12_4 h1)).bind fun t13_5 =>
(gd (wt t8_2 false) (binV Try.prog .geq 3 (.tmp 10) (.tmp 13) (gdV (wt t8_2 false) x1) t13_5)).bind fun t14_6 =>
(pickV t8_2 (Go.Value.bool Bool.true) t14_6).bind fun t15_7 =>
cnd t15_7 (
k .ret ⟨#[x0, x1, x2, t3_0, x4, x5, (Go.Value.int Go.IntKind.u64 0), x1, t8_2, t8_2, (gdV (wt t8_2 false) x1), t11_3, t12_4, t13_5, t14_6, t15_7, x16, x17, x18, x19, x20, x21, x22], h1⟩) (
(fieldAddrV Try.prog 45 t3_0 1).bind fun t16_8 =>
(loadV Try.prog 43 t16_8 h1).bind fun t17_9 =>
(indexAddrV Try.prog 43 t17_9 x1).bind fun t19_10 =>
(loadV Try.prog 27 t19_10 h1).bind fun t20_11 =>
obH (evC Try.prog 16 #[t20_11, x2] h1) fun t22_12 h13 =>
k .ret ⟨#[x0, x1, x2, t3_0, x4, x5, t22_12, x1, t8_2, t8_2, (gdV (wt t8_2 false) x1), t11_3, t12_4, t13_5, t14_6, t15_7, t16_8, t17_9, x1, t19_10, t20_11, x2, t22_12], h13⟩) := by kernel_rfl
theorem call27 (x0 x1 x2 : Value) (h : Heap) : evC Try.prog 27 #[x0, x1, x2] h = codeK Try.prog (evC Try.prog) loopL c27_0 ⟨#[x0, x1, x2, undef, undef, undef, undef, undef, undef, undef, undef, undef, undef, undef, undef, undef, undef, undef, undef, undef, undef, undef, undef], nm h⟩ (retK Try.f27 Try.prog h) :=
  (evC_call 27 Try.f27 c27_0 Try.func27 (by kernel_rfl) #[x0, x1, x2] h).trans (by kernel_rfl)
theorem ret27 (x0 x1 x2 x3 x4 x5 x6 x7 x8 x9 x10 x11 x12 x13 x14 x15 x16 x17 x18 x19 x20 x21 x22 : Value) (h0 h : Heap) : retK Try.f27 Try.prog h0 .ret ⟨#[x0, x1, x2, x3, x4, x5, x6, x7, x8, x9, x10, x11, x12, x13, x14, x15, x16, x17, x18, x19, x20, x21, x22], h⟩ = fin h0 (some x6) h := by kernel_rfl
theorem retn27 (x0 x1 x2 x3 x4 x5 x6 x7 x8 x9 x10 x11 x12 x13 x14 x15 x16 x17 x18 x19 x20 x21 x22 : Value) (h0 h : Heap) : retK Try.f27 Try.prog h0 .normal ⟨#[x0, x1, x2, x3, x4, x5, x6, x7, x8, x9, x10, x11, x12, x13, x14, x15, x16, x17, x18, x19, x20, x21, x22], h⟩ = fin h0 (some x6) h := by kernel_rfl
end Go.Am
namespace Go.Am
open Go.Proofs
set_option maxRecDepth 100000
noncomputable def c44_0 : Code := bodyC Try.f44 []
theorem c44_0_eq {β : Type} (x0 x1 x2 x3 x4 x5 x6 x7 x8 : Value) (h : Heap) (k : Ex → St → Option β) : codeK Try.prog (evC Try.prog) loopL c44_0 ⟨#[x0, x1, x2, x3, x4, x5, x6, x7, x8], h⟩ k =
obH (evC Try.prog 48 #[x0, x1] h) fun t7_0 h1 =>
(binV Try.prog .geq 3 (.tmp 7) (.const (Go.Value.int Go.IntKind.i64 0)) t7_0 (Go.Value.int Go.IntKind.i64 0)).bind fun t8_2 =>
k .ret ⟨#[x0, x1, x2, x3, t8_2, x0, x1, t7_0, t8_2], h1⟩ := by kernel_rfl
theorem call44 (x0 x1 : Value) (h : Heap) : evC Try.prog 44 #[x0, x1] h = codeK Try.prog (evC Try.prog) loopL c44_0 ⟨#[x0, x1, undef, undef, undef, undef, undef, undef, undef], nm h⟩ (retK Try.f44 Try.prog h) :=
  (evC_call 44 Try.f44 c44_0 Try.func44 (by kernel_rfl) #[x0, x1] h).trans (by kernel_rfl)
theorem ret44 (x0 x1 x2 x3 x4 x5 x6 x7 x8 : Value) (h0 h : Heap) : retK Try.f44 Try.prog h0 .ret ⟨#[x0, x1, x2, x3, x4, x5, x6, x7, x8], h⟩ = fin h0 (some x4) h := by kernel_rfl
theorem retn44 (x0 x1 x2 x3 x4 x5 x6 x7 x8 : Value) (h0 h : Heap) : retK Try.f44 Try.prog h0 .normal ⟨#[x0, x1, x2, x3, x4, x5, x6, x7, x8], h⟩ = fin h0 (some x4) h := by kernel_rfl
end Go.Am
namespace Go.Am
open Go.Proofs
set_option maxRecDepth 100000
noncomputable def c48_0 : Code := bodyC Try.f48 []
noncomputable def c48_1 : Code := bodyC Try.f48 [true, false, true, false, false]
noncomputable def c48_2 : Code := bodyC Try.f48 [true, true]
theorem c48_0_eq {β : Type} (x0 x1 x2 x3 x4 x5 x6 x7 x8 x9 x10 x11 x12 x13 x14 x15 x16 x17 x18 : Value) (h : Heap) (k : Ex → St → Option β) : codeK Try.prog (evC Try.prog) loopL c48_0 ⟨#[x0, x1, x2, x3, x4, x5, x6, x7, x8, x9, x10, x11, x12, x13, x14, x15, x16, x17, x18], h⟩ k =
(lenV Try.prog 43 x0 h).bind fun t7_0 =>
loopK Try.prog (evC Try.prog) c48_1 ⟨#[x0, x1, x2, x3, (Go.Value.int Go.IntKind.i64 0), x5, x0, t7_0, (Go.Value.int Go.IntKind.i64 0), x9, x10, x11, x12, x13, x14, x15, x16, x17, x18], h⟩ (blockK 0 (seqK Try.prog (evC Try.prog) c48_2 k)) := by kernel_rfl
theorem c48_1_eq {β : Type} (x0 x1 x2 x3 x4 x5 x6 x7 x8 x9 x10 x11 x12 x13 x14 x15 x16 x17 x18 : Value) (h : Heap) (k : Ex → St → Option β) : codeK Try.prog (evC Try.prog) loopL c48_1 ⟨#[x0, x1, x2, x3, x4, x5, x6, x7, x8, x9, x10, x11, x12, x13, x14, x15, x16, x17, x18], h⟩ k =
(binV Try.prog .lss 3 (.tmp 8) (.tmp 7) x8 x7).bind fun t9_1 =>
cnd t9_1 (
(indexAddrV Try.prog 43 x0 x8).bind fun t14_2 =>
(loadV Try.prog 27 t14_2 h).bind fun t15_3 =>
obH (callV Try.prog (evC Try.prog) x1 #[t15_3] h) fun t16_4 h5 =>
cnd t16_4 (
k .ret ⟨#[x0, x1, x2, x3, x8, x8, x6, x7, x8, t9_1, x8, x1, x0, x8, t14_2, t15_3, t16_4, x8, x18], h5⟩) (
(binV Try.prog .add 3 (.tmp 8) (.const (Go.Value.int Go.IntKind.i64 1)) x8 (Go.Value.int Go.IntKind.i64 1)).bind fun t18_6 =>
k .normal ⟨#[x0, x1, x2, x3, x4, x8, x6, x7, t18_6, t9_1, x8, x1, x0, x8, t14_2, t15_3, t16_4, x17, t18_6], h5⟩)) (
k (.exit 0) ⟨#[x0, x1, x2, x3, x4, x5, x6, x7, x8, t9_1, x10, x11, x12, x13, x14, x15, x16, x17, x18], h⟩) := by kernel_rfl
theorem c48_2_eq {β : Type} (x0 x1 x2 x3 x4 x5 x6 x7 x8 x9 x10 x11 x12 x13 x14 x15 x16 x17 x18 : Value) (h : Heap) (k : Ex → St → Option β) : codeK Try.prog (evC Try.prog) loopL c48_2 ⟨#[x0, x1, x2, x3, x4, x5, x6, x7, x8, x9, x10, x11, x12, x13, x14, x15, x16, x17, x18], h⟩ k =
k .ret ⟨#[x0, x1, x2, x3, (Go.Value.int Go.IntKind.i64 (-1)), x5, x6, x7, x8, x9, x10, x11, x12, x13, x14, x15, x16, x17, x18], h⟩ := by kernel_rfl
theorem call48 (x0 x1 : Value) (h : Heap) : evC Try.prog 48 #[x0, x1] h = codeK Try.prog (evC Try.prog) loopL c48_0 ⟨#[x0, x1, undef, undef, undef, undef, undef, undef, undef, undef, undef, undef, undef, undef, undef, undef, undef, undef, undef], nm h⟩ (retK Try.f48 Try.prog h) :=
  (evC_call 48 Try.f48 c48_0 Try.func48 (by kernel_rfl) #[x0, x1] h).trans (by kernel_rfl)
theorem ret48 (x0 x1 x2 x3 x4 x5 x6 x7 x8 x9 x10 x11 x12 x13 x14 x15 x16 x17 x18 : Value) (h0 h : Heap) : retK Try.f48 Try.prog h0 .ret ⟨#[x0, x1, x2, x3, x4, x5, x6, x7, x8, x9, x10, x11, x12, x13, x14, x15, x16, x17, x18], h⟩ = fin h0 (some x4) h := by kernel_rfl
theorem retn48 (x0 x1 x2 x3 x4 x5 x6 x7 x8 x9 x10 x11 x12 x13 x14 x15 x16 x17 x18 : Value) (h0 h : Heap) : retK Try.f48 Try.prog h0 .normal ⟨#[x0, x1, x2, x3, x4, x5, x6, x7, x8, x9, x10, x11, x12, x13, x14, x15, x16, x17, x18], h⟩ = fin h0 (some x4) h := by kernel_rfl
end Go.Am
namespace Go.Am
open Go.Proofs
set_option maxRecDepth 100000
noncomputable def c43_0 : Code := bodyC Try.f43 []
noncomputable def c43_1 : Code := bodyC Try.f43 [true, true, false, true, false, false]
noncomputable def c43_2 : Code := bodyC Try.f43 [true, true, true]
theorem c43_0_eq {β : Type} (x0 x1 x2 x3 x4 x5 x6 x7 x8 x9 x10 x11 x12 x13 x14 x15 x16 x17 x18 x19 x20 x21 x22 x23 x24 : Value) (h : Heap) (k : Ex → St → Option β) : codeK Try.prog (evC Try.prog) loopL c43_0 ⟨#[x0, x1, x2, x3, x4, x5, x6, x7, x8, x9, x10, x11, x12, x13, x14, x15, x16, x17, x18, x19, x20, x21, x22, x23, x24], h⟩ k =
obH (boxV Try.prog 45 x0 h) fun t1_0 h1 =>
obH (allocV Try.prog 45 h1) fun t2_2 h3 =>
(fieldAddrV Try.prog 45 t1_0 0).bind fun t6_4 =>
(loadV Try.prog 3 t6_4 h3).bind fun t7_5 =>
(buildV Try.prog 45 #[(0, t7_5)]).bind fun t8_6 =>
obH (allocV Try.prog 45 h3) fun t3_7 h8 =>
(storeV Try.prog 45 t3_7 t8_6 h8).bind fun h9 =>
(fieldAddrV Try.prog 45 t1_0 1).bind fun t9_10 =>
(loadV Try.prog 43 t9_10 h9).bind fun t10_11 =>
(lenV Try.prog 43 t10_11 h9).bind fun t11_12 =>
loopK Try.prog (evC Try.prog) c43_1 ⟨#[x0, t1_0, t2_2, t3_7, x4, x5, t6_4, t7_5, t8_6, t9_10, t10_11, t11_12, (Go.Value.int Go.IntKind.i64 0), x13, x14, x15, x16, x17, x18, x19, x20, x21, x22, x23, x24], h9⟩ (blockK 0 (seqK Try.prog (evC Try.prog) c43_2 k)) := by kernel_rfl
theorem c43_1_eq {β : Type} (x0 x1 x2 x3 x4 x5 x6 x7 x8 x9 x10 x11 x12 x13 x14 x15 x16 x17 x18 x19 x20 x21 x22 x23 x24 : Value) (h : Heap) (k : Ex → St → Option β) : codeK Try.prog (evC Try.prog) loopL c43_1 ⟨#[x0, x1, x2, x3, x4, x5, x6, x7, x8, x9, x10, x11, x12, x13, x14, x15, x16, x17, x18, x19, x20, x21, x22, x23, x24], h⟩ k =
(binV Try.prog .lss 3 (.tmp 12) (.tmp 11) x12 x11).bind fun t13_13 =>
cnd t13_13 (
(indexAddrV Try.prog 43 x10 x12).bind fun t14_14 =>
(loadV Try.prog 27 t14_14 h).bind fun t15_15 =>
(fieldAddrV Try.prog 45 x3 1).bind fun t16_16 =>
(loadV Try.prog 43 t16_16 h).bind fun t17_17 =>
obH (evC Try.prog 41 #[t15_15] (nm h)) fun t19_18 h19 =>
obH (buildSliceV Try.prog 43 1 #[(0, t19_18)] (am h19 h)) fun t20_20 h21 =>
obH (appendV Try.prog 43 (some 43) t17_17 t20_20 h21) fun t21_22 h23 =>
(fieldAddrV Try.prog 45 x3 1).bind fun t22_24 =>
(storeV Try.prog 43 t22_24 t21_22 h23).bind fun h25 =>
chk ((rb t16_16) ++ []) (h19.mods ++ []) (
(binV Try.prog .add 3 (.tmp 12) (.const (Go.Value.int Go.IntKind.i64 1)) x12 (Go.Value.int Go.IntKind.i64 1)).bind fun t23_26 =>
k .normal ⟨#[x0, x1, x2, x3, x4, t15_15, x6, x7, x8, x9, x10, x11, t23_26, t13_13, t14_14, t15_15, t16_16, t17_17, t15_15, t19_18, t20_20, t21_22, t22_24, t23_26, x24], h25⟩)) (
k (.exit 0) ⟨#[x0, x1, x2, x3, x4, x5, x6, x7, x8, x9, x10, x11, x12, t13_13, x14, x15, x16, x17, x18, x19, x20, x21, x22, x23, x24], h⟩) := by kernel_rfl
theorem c43_2_eq {β : Type} (x0 x1 x2 x3 x4 x5 x6 x7 x8 x9 x10 x11 x12 x13 x14 x15 x16 x17 x18 x19 x20 x21 x22 x23 x24 : Value) (h : Heap) (k : Ex → St → Option β) : codeK Try.prog (evC Try.prog) loopL c43_2 ⟨#[x0, x1, x2, x3, x4, x5, x6, x7, x8, x9, x10, x11, x12, x13, x14, x15, x16, x17, x18, x19, x20, x21, x22, x23, x24], h⟩ k =
(loadV Try.prog 45 x3 h).bind fun t24_27 =>
(storeV Try.prog 45 x2 t24_27 h).bind fun h28 =>
k .ret ⟨#[x0, x1, x2, x3, x4, x5, x6, x7, x8, x9, x10, x11, x12, x13, x14, x15, x16, x17, x18, x19, x20, x21, x22, x23, t24_27], h28⟩ := by kernel_rfl
theorem call43 (x0 : Value) (h : Heap) : evC Try.prog 43 #[x0] h = codeK Try.prog (evC Try.prog) loopL c43_0 ⟨#[x0, undef, undef, undef, undef, undef, undef, undef, undef, undef, undef, undef, undef, undef, undef, undef, undef, undef, undef, undef, undef, undef, undef, undef, undef], nm h⟩ (retK Try.f43 Try.prog h) :=
  (evC_call 43 Try.f43 c43_0 Try.func43 (by kernel_rfl) #[x0] h).trans (by kernel_rfl)
theorem ret43 (x0 x1 x2 x3 x4 x5 x6 x7 x8 x9 x10 x11 x12 x13 x14 x15 x16 x17 x18 x19 x20 x21 x22 x23 x24 : Value) (h0 h : Heap) : retK Try.f43 Try.prog h0 .ret ⟨#[x0, x1, x2, x3, x4, x5, x6, x7, x8, x9, x10, x11, x12, x13, x14, x15, x16, x17, x18, x19, x20, x21, x22, x23, x24], h⟩ = fin h0 (rvals ((loadV Try.prog 45 x2 h).bind fun r0 => some [r0])) h := by kernel_rfl
theorem retn43 (x0 x1 x2 x3 x4 x5 x6 x7 x8 x9 x10 x11 x12 x13 x14 x15 x16 x17 x18 x19 x20 x21 x22 x23 x24 : Value) (h0 h : Heap) : retK Try.f43 Try.prog h0 .normal ⟨#[x0, x1, x2, x3, x4, x5, x6, x7, x8, x9, x10, x11, x12, x13, x14, x15, x16, x17, x18, x19, x20, x21, x22, x23, x24], h⟩ = fin h0 (rvals ((loadV Try.prog 45 x2 h).bind fun r0 => some [r0])) h := by kernel_rfl
end Go.Am
namespace Go.Am
open Go.Proofs
set_option maxRecDepth 100000
noncomputable def c25_0 : Code := bodyC Try.f25 []
noncomputable def c25_1 : Code := bodyC Try.f25 [true, true, true, false, true, false, false]
noncomputable def c25_2 : Code := bodyC Try.f25 [true, true, true, true]
theorem c25_0_eq {β : Type} (x0 x1 x2 x3 x4 x5 x6 x7 x8 x9 x10 x11 x12 x13 x14 x15 x16 x17 x18 x19 x20 x21 x22 x23 x24 x25 x26 x27 x28 x29 x30 x31 x32 x33 x34 x35 x36 x37 x38 x39 x40 x41 x42 x43 x44 x45 x46 x47 x48 x49 x50 x51 x52 x53 x54 x55 : Value) (h : Heap) (k : Ex → St → Option β) : codeK Try.prog (evC Try.prog) loopL c25_0 ⟨#[x0, x1, x2, x3, x4, x5, x6, x7, x8, x9, x10, x11, x12, x13, x14, x15, x16, x17, x18, x19, x20, x21, x22, x23, x24, x25, x26, x27, x28, x29, x30, x31, x32, x33, x34, x35, x36, x37, x38, x39, x40, x41, x42, x43, x44, x45, x46, x47, x48, x49, x50, x51, x52, x53, x54, x55], h⟩ k =
obH (boxV Try.prog 45 x0 h) fun t3_0 h1 =>
obH (allocV Try.prog 45 h1) fun t6_2 h3 =>
(loadV Try.prog 45 t3_0 h3).bind fun t10_4 =>
obH (evC Try.prog 43 #[t10_4] h3) fun t11_5 h6 =>
obH (allocV Try.prog 45 h6) fun t7_7 h8 =>
(storeV Try.prog 45 t7_7 t11_5 h8).bind fun h9 =>
(loadV Try.prog 45 t3_0 h9).bind fun t12_10 =>
obH (evC Try.prog 38 #[t12_10] h9) fun t13_11 h12 =>
(unV Try.prog .not t13_11).bind fun t14_13 =>
(gd (wt t14_13 false) (binV Try.prog .lss 3 (.tmp 16) (.const (Go.Value.int Go.IntKind.i64 0)) (gdV (wt t14_13 false) x1) (Go.Value.int Go.IntKind.i64 0))).bind fun t17_14 =>
(pickV t14_13 (Go.Value.bool Bool.true) t17_14).bind fun t18_15 =>
(gd (wt t18_15 false) (fieldAddrV Try.prog 45 t3_0 0)).bind fun t21_16 =>
(gd (wt t18_15 false) (loadV Try.prog 3 t21_16 h12)).bind fun t22_17 =>
(gd (wt t18_15 false) (binV Try.prog .geq 3 (.tmp 20) (.tmp 22) (gdV (wt t18_15 false) x1) t22_17)).bind fun t23_18 =>
(pickV t18_15 (Go.Value.bool Bool.true) t23_18).bind fun t24_19 =>
cnd t24_19 (
(loadV Try.prog 45 t7_7 h12).bind fun t25_20 =>
(storeV Try.prog 45 t6_2 t25_20 h12).bind fun h21 =>
k .ret ⟨#[x0, x1, x2, t3_0, x4, x5, t6_2, t7_7, x8, x9, t10_4, t11_5, t12_10, t13_11, t14_13, t14_13, (gdV (wt t14_13 false) x1), t17_14, t18_15, t18_15, (gdV (wt t18_15 false) x1), t21_16, t22_17, t23_18, t24_19, t25_20, x26, x27, x28, x29, x30, x31, x32, x33, x34, x35, x36, x37, x38, x39, x40, x41, x42, x43, x44, x45, x46, x47, x48, x49, x50, x51, x52, x53, x54, x55], h21⟩) (
(fieldAddrV Try.prog 45 t7_7 1).bind fun t26_22 =>
(loadV Try.prog 43 t26_22 h12).bind fun t27_23 =>
(indexAddrV Try.prog 43 t27_23 x1).bind fun t29_24 =>
(loadV Try.prog 27 t29_24 h12).bind fun t30_25 =>
(lenV Try.prog 27 t30_25 h12).bind fun t31_26 =>
loopK Try.prog (evC Try.prog) c25_1 ⟨#[x0, x1, x2, t3_0, x4, x5, t6_2, t7_7, x8, x9, t10_4, t11_5, t12_10, t13_11, t14_13, t14_13, (gdV (wt t14_13 false) x1), t17_14, t18_15, t18_15, (gdV (wt t18_15 false) x1), t21_16, t22_17, t23_18, t24_19, x25, t26_22, t27_23, x1, t29_24, t30_25, t31_26, (Go.Value.int Go.IntKind.i64 0), x33, x34, x35, x36, x37, x38, x39, x40, x41, x42, x43, x44, x45, x46, x47, x48, x49, x50, x51, x52, x53, x54, x55], h12⟩ (blockK 0 (seqK Try.prog (evC Try.prog) c25_2 k))) := by kernel_rfl
theorem c25_1_eq {β : Type} (x0 x1 x2 x3 x4 x5 x6 x7 x8 x9 x10 x11 x12 x13 x14 x15 x16 x17 x18 x19 x20 x21 x22 x23 x24 x25 x26 x27 x28 x29 x30 x31 x32 x33 x34 x35 x36 x37 x38 x39 x40 x41 x42 x43 x44 x45 x46 x47 x48 x49 x50 x51 x52 x53 x54 x55 : Value) (h : Heap) (k : Ex → St → Option β) : codeK Try.prog (evC Try.prog) loopL c25_1 ⟨#[x0, x1, x2, x3, x4, x5, x6, x7, x8, x9, x10, x11, x12, x13, x14, x15, x16, x17, x18, x19, x20, x21, x22, x23, x24, x25, x26, x27, x28, x29, x30, x31, x32, x33, x34, x35, x36, x37, x38, x39, x40, x41, x42, x43, x44, x45, x46, x47, x48, x49, x50, x51, x52, x53, x54, x55], h⟩ k =
(binV Try.prog .lss 3 (.tmp 32) (.tmp 31) x32 x31).bind fun t33_27 =>
cnd t33_27 (
(indexAddrV Try.prog 27 x30 x32).bind fun t35_28 =>
(loadV Try.prog 29 t35_28 h).bind fun t36_29 =>
obH (evC Try.prog 26 #[x2, x32] h) fun t39_30 h31 =>
(gd (wt t39_30 true) (binV Try.prog .lss 29 (.tmp 41) (.const (Go.Value.int Go.IntKind.u64 18446744073709551615)) (gdV (wt t39_30 true) t36_29) (Go.Value.int Go.IntKind.u64 18446744073709551615))).bind fun t42_32 =>
(pickV t39_30 t42_32 (Go.Value.bool Bool.false)).bind fun t43_33 =>
cnd t43_33 (
(fieldAddrV Try.prog 45 x7 1).bind fun t44_34 =>
(loadV Try.prog 43 t44_34 h31).bind fun t45_35 =>
(indexAddrV Try.prog 43 t45_35 x1).bind fun t47_36 =>
(loadV Try.prog 27 t47_36 h31).bind fun t48_37 =>
(indexAddrV Try.prog 27 t48_37 x32).bind fun t50_38 =>
(loadV Try.prog 29 t50_38 h31).bind fun t51_39 =>
(binV Try.prog .add 29 (.tmp 51) (.const (Go.Value.int Go.IntKind.u64 1)) t51_39 (Go.Value.int Go.IntKind.u64 1)).bind fun t52_40 =>
(indexAddrV Try.prog 27 t48_37 x32).bind fun t53_41 =>
(storeV Try.prog 29 t53_41 t52_40 h31).bind fun h42 =>
(binV Try.prog .add 3 (.tmp 32) (.const (Go.Value.int Go.IntKind.i64 1)) x32 (Go.Value.int Go.IntKind.i64 1)).bind fun t54_43 =>
k .normal ⟨#[x0, x1, x2, x3, x4, x5, x6, x7, x32, t36_29, x10, x11, x12, x13, x14, x15, x16, x17, x18, x19, x20, x21, x22, x23, x24, x25, x26, x27, x28, x29, x30, x31, t54_43, t33_27, x32, t35_28, t36_29, x2, x32, t39_30, t39_30, (gdV (wt t39_30 true) t36_29), t42_32, t43_33, t44_34, t45_35, x1, t47_36, t48_37, x32, t50_38, t51_39, t52_40, t53_41, t54_43, x55], h42⟩) (
(binV Try.prog .add 3 (.tmp 32) (.const (Go.Value.int Go.IntKind.i64 1)) x32 (Go.Value.int Go.IntKind.i64 1)).bind fun t54_44 =>
k .normal ⟨#[x0, x1, x2, x3, x4, x5, x6, x7, x32, t36_29, x10, x11, x12, x13, x14, x15, x16, x17, x18, x19, x20, x21, x22, x23, x24, x25, x26, x27, x28, x29, x30, x31, t54_44, t33_27, x32, t35_28, t36_29, x2, x32, t39_30, t39_30, (gdV (wt t39_30 true) t36_29), t42_32, t43_33, x44, x45, x46, x47, x48, x49, x50, x51, x52, x53, t54_44, x55], h31⟩)) (
k (.exit 0) ⟨#[x0, x1, x2, x3, x4, x5, x6, x7, x8, x9, x10, x11, x12, x13, x14, x15, x16, x17, x18, x19, x20, x21, x22, x23, x24, x25, x26, x27, x28, x29, x30, x31, x32, t33_27, x34, x35, x36, x37, x38, x39, x40, x41, x42, x43, x44, x45, x46, x47, x48, x49, x50, x51, x52, x53, x54, x55], h⟩) := by kernel_rfl
theorem c25_2_eq {β : Type} (x0 x1 x2 x3 x4 x5 x6 x7 x8 x9 x10 x11 x12 x13 x14 x15 x16 x17 x18 x19 x20 x21 x22 x23 x24 x25 x26 x27 x28 x29 x30 x31 x32 x33 x34 x35 x36 x37 x38 x39 x40 x41 x42 x43 x44 x45 x46 x47 x48 x49 x50 x51 x52 x53 x54 x55 : Value) (h : Heap) (k : Ex → St → Option β) : codeK Try.prog (evC Try.prog) loopL c25_2 ⟨#[x0, x1, x2, x3, x4, x5, x6, x7, x8, x9, x10, x11, x12, x13, x14, x15, x16, x17, x18, x19, x20, x21, x22, x23, x24, x25, x26, x27, x28, x29, x30, x31, x32, x33, x34, x35, x36, x37, x38, x39, x40, x41, x42, x43, x44, x45, x46, x47, x48, x49, x50, x51, x52, x53, x54, x55], h⟩ k =
(loadV Try.prog 45 x7 h).bind fun t55_45 =>
(storeV Try.prog 45 x6 t55_45 h).bind fun h46 =>
k .ret ⟨#[x0, x1, x2, x3, x4, x5, x6, x7, x8, x9, x10, x11, x12, x13, x14, x15, x16, x17, x18, x19, x20, x21, x22, x23, x24, x25, x26, x27, x28, x29, x30, x31, x32, x33, x34, x35, x36, x37, x38, x39, x40, x41, x42, x43, x44, x45, x46, x47, x48, x49, x50, x51, x52, x53, x54, t55_45], h46⟩ := by kernel_rfl
theorem call25 (x0 x1 x2 : Value) (h : Heap) : evC Try.prog 25 #[x0, x1, x2] h = codeK Try.prog (evC Try.prog) loopL c25_0 ⟨#[x0, x1, x2, undef, undef, undef, undef, undef, undef, undef, undef, undef, undef, undef, undef, undef, undef, undef, undef, undef, undef, undef, undef, undef, undef, undef, undef, undef, undef, undef, undef, undef, undef, undef, undef, undef, undef, undef, undef, undef, undef, undef, undef, undef, undef, undef, undef, undef, undef, undef, undef, undef, undef, undef, undef, undef], nm h⟩ (retK Try.f25 Try.prog h) :=
  (evC_call 25 Try.f25 c25_0 Try.func25 (by kernel_rfl) #[x0, x1, x2] h).trans (by kernel_rfl)
theorem ret25 (x0 x1 x2 x3 x4 x5 x6 x7 x8 x9 x10 x11 x12 x13 x14 x15 x16 x17 x18 x19 x20 x21 x22 x23 x24 x25 x26 x27 x28 x29 x30 x31 x32 x33 x34 x35 x36 x37 x38 x39 x40 x41 x42 x43 x44 x45 x46 x47 x48 x49 x50 x51 x52 x53 x54 x55 : Value) (h0 h : Heap) : retK Try.f25 Try.prog h0 .ret ⟨#[x0, x1, x2, x3, x4, x5, x6, x7, x8, x9, x10, x11, x12, x13, x14, x15, x16, x17, x18, x19, x20, x21, x22, x23, x24, x25, x26, x27, x28, x29, x30, x31, x32, x33, x34, x35, x36, x37, x38, x39, x40, x41, x42, x43, x44, x45, x46, x47, x48, x49, x50, x51, x52, x53, x54, x55], h⟩ = fin h0 (rvals ((loadV Try.prog 45 x6 h).bind fun r0 => some [r0])) h := by kernel_rfl
theorem retn25 (x0 x1 x2 x3 x4 x5 x6 x7 x8 x9 x10 x11 x12 x13 x14 x15 x16 x17 x18 x19 x20 x21 x22 x23 x24 x25 x26 x27 x28 x29 x30 x31 x32 x33 x34 x35 x36 x37 x38 x39 x40 x41 x42 x43 x44 x45 x46 x47 x48 x49 x50 x51 x52 x53 x54 x55 : Value) (h0 h : Heap) : retK Try.f25 Try.prog h0 .normal ⟨#[x0, x1, x2, x3, x4, x5, x6, x7, x8, x9, x10, x11, x12, x13, x14, x15, x16, x17, x18, x19, x20, x21, x22, x23, x24, x25, x26, x27, x28, x29, x30, x31, x32, x33, x34, x35, x36, x37, x38, x39, x40, x41, x42, x43, x44, x45, x46, x47, x48, x49, x50, x51, x52, x53, x54, x55], h⟩ = fin h0 (rvals ((loadV Try.prog 45 x6 h).bind fun r0 => some [r0])) h := by kernel_rfl
end Go.Am
namespace Go.Am
open Go.Proofs
set_option maxRecDepth 100000
noncomputable def c33_0 : Code := bodyC Try.f33 []
noncomputable def c33_1 : Code := bodyC Try.f33 [true, true, true, false, true, false, false]
noncomputable def c33_2 : Code := bodyC Try.f33 [true, true, true, true]
theorem c33_0_eq {β : Type} (x0 x1 x2 x3 x4 x5 x6 x7 x8 x9 x10 x11 x12 x13 x14 x15 x16 x17 x18 x19 x20 x21 x22 x23 x24 x25 x26 x27 x28 x29 x30 x31 x32 x33 x34 x35 x36 x37 x38 x39 x40 x41 x42 x43 x44 x45 x46 x47 x48 x49 : Value) (h : Heap) (k : Ex → St → Option β) : codeK Try.prog (evC Try.prog) loopL c33_0 ⟨#[x0, x1, x2, x3, x4, x5, x6, x7, x8, x9, x10, x11, x12, x13, x14, x15, x16, x17, x18, x19, x20, x21, x22, x23, x24, x25, x26, x27, x28, x29, x30, x31, x32, x33, x34, x35, x36, x37, x38, x39, x40, x41, x42, x43, x44, x45, x46, x47, x48, x49], h⟩ k =
obH (boxV Try.prog 45 x0 h) fun t2_0 h1 =>
obH (boxV Try.prog 45 x1 h1) fun t3_2 h3 =>
obH (allocV Try.prog 45 h3) fun t4_4 h5 =>
(loadV Try.prog 45 t2_0 h5).bind fun t9_6 =>
obH (evC Try.prog 38 #[t9_6] h5) fun t10_7 h8 =>
(unV Try.prog .not t10_7).bind fun t11_9 =>
(gd (wt t11_9 false) (loadV Try.prog 45 t3_2 h8)).bind fun t13_10 =>
obH (gdH (wt t11_9 false) h8 (evC Try.prog 38 #[t13_10] h8)) fun t14_11 h12 =>
(gd (wt t11_9 false) (unV Try.prog .not t14_11)).bind fun t15_13 =>
(pickV t11_9 (Go.Value.bool Bool.true) t15_13).bind fun t16_14 =>
(gd (wt t16_14 false) (fieldAddrV Try.prog 45 t2_0 0)).bind fun t18_15 =>
(gd (wt t16_14 false) (loadV Try.prog 3 t18_15 h12)).bind fun t19_16 =>
(gd (wt t16_14 false) (fieldAddrV Try.prog 45 t3_2 0)).bind fun t20_17 =>
(gd (wt t16_14 false) (loadV Try.prog 3 t20_17 h12)).bind fun t21_18 =>
(gd (wt t16_14 false) (binV Try.prog .neq 3 (.tmp 19) (.tmp 21) t19_16 t21_18)).bind fun t22_19 =>
(pickV t16_14 (Go.Value.bool Bool.true) t22_19).bind fun t23_20 =>
cnd t23_20 (
(buildV Try.prog 45 #[]).bind fun t24_21 =>
(storeV Try.prog 45 t4_4 t24_21 h12).bind fun h22 =>
k .ret ⟨#[x0, x1, t2_0, t3_2, t4_4, (Go.Value.int Go.IntKind.i64 1), x6, x7, x8, t9_6, t10_7, t11_9, t11_9, t13_10, t14_11, t15_13, t16_14, t16_14, t18_15, t19_16, t20_17, t21_18, t22_19, t23_20, t24_21, x25, x26, x27, x28, x29, x30, x31, x32, x33, x34, x35, x36, x37, x38, x39, x40, x41, x42, x43, x44, x45, x46, x47, x48, x49], h22⟩) (
(fieldAddrV Try.prog 45 t2_0 0).bind fun t25_23 =>
(loadV Try.prog 3 t25_23 h12).bind fun t26_24 =>
(buildV Try.prog 45 #[(0, t26_24)]).bind fun t27_25 =>
obH (allocV Try.prog 45 h12) fun t6_26 h27 =>
(storeV Try.prog 45 t6_26 t27_25 h27).bind fun h28 =>
(fieldAddrV Try.prog 45 t2_0 1).bind fun t28_29 =>
(loadV Try.prog 43 t28_29 h28).bind fun t29_30 =>
(lenV Try.prog 43 t29_30 h28).bind fun t30_31 =>
loopK Try.prog (evC Try.prog) c33_1 ⟨#[x0, x1, t2_0, t3_2, t4_4, (Go.Value.int Go.IntKind.i64 0), t6_26, x7, x8, t9_6, t10_7, t11_9, t11_9, t13_10, t14_11, t15_13, t16_14, t16_14, t18_15, t19_16, t20_17, t21_18, t22_19, t23_20, x24, t25_23, t26_24, t27_25, t28_29, t29_30, t30_31, (Go.Value.int Go.IntKind.i64 0), x32, x33, x34, x35, x36, x37, x38, x39, x40, x41, x42, x43, x44, x45, x46, x47, x48, x49], h28⟩ (blockK 0 (seqK Try.prog (evC Try.prog) c33_2 k))) := by kernel_rfl
theorem c33_1_eq {β : Type} (x0 x1 x2 x3 x4 x5 x6 x7 x8 x9 x10 x11 x12 x13 x14 x15 x16 x17 x18 x19 x20 x21 x22 x23 x24 x25 x26 x27 x28 x29 x30 x31 x32 x33 x34 x35 x36 x37 x38 x39 x40 x41 x42 x43 x44 x45 x46 x47 x48 x49 : Value) (h : Heap) (k : Ex → St → Option β) : codeK Try.prog (evC Try.prog) loopL c33_1 ⟨#[x0, x1, x2, x3, x4, x5, x6, x7, x8, x9, x10, x11, x12, x13, x14, x15, x16, x17, x18, x19, x20, x21, x22, x23, x24, x25, x26, x27, x28, x29, x30, x31, x32, x33, x34, x35, x36, x37, x38, x39, x40, x41, x42, x43, x44, x45, x46, x47, x48, x49], h⟩ k =
(binV Try.prog .lss 3 (.tmp 31) (.tmp 30) x31 x30).bind fun t32_32 =>
cnd t32_32 (
(indexAddrV Try.prog 43 x29 x31).bind fun t34_33 =>
(loadV Try.prog 27 t34_33 h).bind fun t35_34 =>
(fieldAddrV Try.prog 45 x6 1).bind fun t36_35 =>
(loadV Try.prog 43 t36_35 h).bind fun t37_36 =>
(fieldAddrV Try.prog 45 x3 1).bind fun t39_37 =>
(loadV Try.prog 43 t39_37 h).bind fun t40_38 =>
(indexAddrV Try.prog 43 t40_38 x31).bind fun t42_39 =>
(loadV Try.prog 27 t42_39 h).bind fun t43_40 =>
obH (evC Try.prog 18 #[t35_34, t43_40] (nm h)) fun t44_41 h42 =>
obH (buildSliceV Try.prog 43 1 #[(0, t44_41)] (am h42 h)) fun t45_43 h44 =>
obH (appendV Try.prog 43 (some 43) t37_36 t45_43 h44) fun t46_45 h46 =>
(fieldAddrV Try.prog 45 x6 1).bind fun t47_47 =>
(storeV Try.prog 43 t47_47 t46_45 h46).bind fun h48 =>
chk ((rb t36_35) ++ []) (h42.mods ++ []) (
(binV Try.prog .add 3 (.tmp 31) (.const (Go.Value.int Go.IntKind.i64 1)) x31 (Go.Value.int Go.IntKind.i64 1)).bind fun t48_49 =>
k .normal ⟨#[x0, x1, x2, x3, x4, x5, x6, x31, t35_34, x9, x10, x11, x12, x13, x14, x15, x16, x17, x18, x19, x20, x21, x22, x23, x24, x25, x26, x27, x28, x29, x30, t48_49, t32_32, x31, t34_33, t35_34, t36_35, t37_36, t35_34, t39_37, t40_38, x31, t42_39, t43_40, t44_41, t45_43, t46_45, t47_47, t48_49, x49], h48⟩)) (
k (.exit 0) ⟨#[x0, x1, x2, x3, x4, x5, x6, x7, x8, x9, x10, x11, x12, x13, x14, x15, x16, x17, x18, x19, x20, x21, x22, x23, x24, x25, x26, x27, x28, x29, x30, x31, t32_32, x33, x34, x35, x36, x37, x38, x39, x40, x41, x42, x43, x44, x45, x46, x47, x48, x49], h⟩) := by kernel_rfl
theorem c33_2_eq {β : Type} (x0 x1 x2 x3 x4 x5 x6 x7 x8 x9 x10 x11 x12 x13 x14 x15 x16 x17 x18 x19 x20 x21 x22 x23 x24 x25 x26 x27 x28 x29 x30 x31 x32 x33 x34 x35 x36 x37 x38 x39 x40 x41 x42 x43 x44 x45 x46 x47 x48 x49 : Value) (h : Heap) (k : Ex → St → Option β) : codeK Try.prog (evC Try.prog) loopL c33_2 ⟨#[x0, x1, x2, x3, x4, x5, x6, x7, x8, x9, x10, x11, x12, x13, x14, x15, x16, x17, x18, x19, x20, x21, x22, x23, x24, x25, x26, x27, x28, x29, x30, x31, x32, x33, x34, x35, x36, x37, x38, x39, x40, x41, x42, x43, x44, x45, x46, x47, x48, x49], h⟩ k =
(loadV Try.prog 45 x6 h).bind fun t49_50 =>
(storeV Try.prog 45 x4 t49_50 h).bind fun h51 =>
k .ret ⟨#[x0, x1, x2, x3, x4, (Go.Value.int Go.IntKind.i64 0), x6, x7, x8, x9, x10, x11, x12, x13, x14, x15, x16, x17, x18, x19, x20, x21, x22, x23, x24, x25, x26, x27, x28, x29, x30, x31, x32, x33, x34, x35, x36, x37, x38, x39, x40, x41, x42, x43, x44, x45, x46, x47, x48, t49_50], h51⟩ := by kernel_rfl
theorem call33 (x0 x1 : Value) (h : Heap) : evC Try.prog 33 #[x0, x1] h = codeK Try.prog (evC Try.prog) loopL c33_0 ⟨#[x0, x1, undef, undef, undef, undef, undef, undef, undef, undef, undef, undef, undef, undef, undef, undef, undef, undef, undef, undef, undef, undef, undef, undef, undef, undef, undef, undef, undef, undef, undef, undef, undef, undef, undef, undef, undef, undef, undef, undef, undef, undef, undef, undef, undef, undef, undef, undef, undef, undef], nm h⟩ (retK Try.f33 Try.prog h) :=
  (evC_call 33 Try.f33 c33_0 Try.func33 (by kernel_rfl) #[x0, x1] h).trans (by kernel_rfl)
theorem ret33 (x0 x1 x2 x3 x4 x5 x6 x7 x8 x9 x10 x11 x12 x13 x14 x15 x16 x17 x18 x19 x20 x21 x22 x23 x24 x25 x26 x27 x28 x29 x30 x31 x32 x33 x34 x35 x36 x37 x38 x39 x40 x41 x42 x43 x44 x45 x46 x47 x48 x49 : Value) (h0 h : Heap) : retK Try.f33 Try.prog h0 .ret ⟨#[x0, x1, x2, x3, x4, x5, x6, x7, x8, x9, x10, x11, x12, x13, x14, x15, x16, x17, x18, x19, x20, x21, x22, x23, x24, x25, x26, x27, x28, x29, x30, x31, x32, x33, x34, x35, x36, x37, x38, x39, x40, x41, x42, x43, x44, x45, x46, x47, x48, x49], h⟩ = fin h0 (rvals ((loadV Try.prog 45 x4 h).bind fun r0 => some [r0, x5])) h := by kernel_rfl
theorem retn33 (x0 x1 x2 x3 x4 x5 x6 x7 x8 x9 x10 x11 x12 x13 x14 x15 x16 x17 x18 x19 x20 x21 x22 x23 x24 x25 x26 x27 x28 x29 x30 x31 x32 x33 x34 x35 x36 x37 x38 x39 x40 x41 x42 x43 x44 x45 x46 x47 x48 x49 : Value) (h0 h : Heap) : retK Try.f33 Try.prog h0 .normal ⟨#[x0, x1, x2, x3, x4, x5, x6, x7, x8, x9, x10, x11, x12, x13, x14, x15, x16, x17, x18, x19, x20, x21, x22, x23, x24, x25, x26, x27, x28, x29, x30, x31, x32, x33, x34, x35, x36, x37, x38, x39, x40, x41, x42, x43, x44, x45, x46, x47, x48, x49], h⟩ = fin h0 (rvals ((loadV Try.prog 45 x4 h).bind fun r0 => some [r0, x5])) h := by kernel_rfl
end Go.Am
namespace Go.Am
open Go.Proofs
set_option maxRecDepth 100000
noncomputable def c28_0 : Code := bodyC Try.f28 []
noncomputable def c28_1 : Code := bodyC Try.f28 [true, true, true, false, true, false, false]
noncomputable def c28_2 : Code := bodyC Try.f28 [true, true, true, true]
theorem c28_0_eq {β : Type} (x0 x1 x2 x3 x4 x5 x6 x7 x8 x9 x10 x11 x12 x13 x14 x15 x16 x17 x18 x19 x20 x21 x22 x23 x24 x25 x26 x27 x28 x29 x30 x31 x32 x33 x34 x35 x36 : Value) (h : Heap) (k : Ex → St → Option β) : codeK Try.prog (evC Try.prog) loopL c28_0 ⟨#[x0, x1, x2, x3, x4, x5, x6, x7, x8, x9, x10, x11, x12, x13, x14, x15, x16, x17, x18, x19, x20, x21, x22, x23, x24, x25, x26, x27, x28, x29, x30, x31, x32, x33, x34, x35, x36], h⟩ k =
obH (boxV Try.prog 45 x0 h) fun t2_0 h1 =>
(loadV Try.prog 45 t2_0 h1).bind fun t8_2 =>
obH (evC Try.prog 38 #[t8_2] h1) fun t9_3 h4 =>
(unV Try.prog .not t9_3).bind fun t10_5 =>
(gd (wt t10_5 false) (binV Try.prog .lss 3 (.tmp 12) (.const (Go.Value.int Go.IntKind.i64 0)) (gdV (wt t10_5 false) x1) (Go.Value.int Go.IntKind.i64 0))).bind fun t13_6 =>
(pickV t10_5 (Go.Value.bool Bool.true) t13_6).bind fun t14_7 =>
(gd (wt t14_7 false) (fieldAddrV Try.prog 45 t2_0 0)).bind fun t17_8 =>
(gd (wt t14_7 false) (loadV Try.prog 3 t17_8 h4)).bind fun t18_9 =>
(gd (wt t14_7 false) (binV Try.prog .geq 3 (.tmp 16) (.tmp 18) (gdV (wt t14_7 false) x1) t18_9)).bind fun t19_10 =>
(pickV t14_7 (Go.Value.bool Bool.true) t19_10).bind fun t20_11 =>
cnd t20_11 (
k .ret ⟨#[x0, x1, t2_0, x3, (Go.Value.slice Option.none 0 0), x5, x6, x7, t8_2, t9_3, t10_5, t10_5, (gdV (wt t10_5 false) x1), t13_6, t14_7, t14_7, (gdV (wt t14_7 false) x1), t17_8, t18_9, t19_10, t20_11, x21, x22, x23, x24, x25, x26, x27, x28, x29, x30, x31, x32, x33, x34, x35, x36], h4⟩) (
(fieldAddrV Try.prog 45 t2_0 1).bind fun t21_12 =>
(loadV Try.prog 43 t21_12 h4).bind fun t22_13 =>
(lenV Try.prog 43 t22_13 h4).bind fun t23_14 =>
loopK Try.prog (evC Try.prog) c28_1 ⟨#[x0, x1, t2_0, x3, (Go.Value.slice Option.none 0 0), (Go.Value.slice Option.none 0 0), x6, x7, t8_2, t9_3, t10_5, t10_5, (gdV (wt t10_5 false) x1), t13_6, t14_7, t14_7, (gdV (wt t14_7 false) x1), t17_8, t18_9, t19_10, t20_11, t21_12, t22_13, t23_14, (Go.Value.int Go.IntKind.i64 0), x25, x26, x27, x28, x29, x30, x31, x32, x33, x34, x35, x36], h4⟩ (blockK 0 (seqK Try.prog (evC Try.prog) c28_2 k))) := by kernel_rfl
theorem c28_1_eq {β : Type} (x0 x1 x2 x3 x4 x5 x6 x7 x8 x9 x10 x11 x12 x13 x14 x15 x16 x17 x18 x19 x20 x21 x22 x23 x24 x25 x26 x27 x28 x29 x30 x31 x32 x33 x34 x35 x36 : Value) (h : Heap) (k : Ex → St → Option β) : codeK Try.prog (evC Try.prog) loopL c28_1 ⟨#[x0, x1, x2, x3, x4, x5, x6, x7, x8, x9, x10, x11, x12, x13, x14, x15, x16, x17, x18, x19, x20, x21, x22, x23, x24, x25, x26, x27, x28, x29, x30, x31, x32, x33, x34, x35, x36], h⟩ k =
(binV Try.prog .lss 3 (.tmp 24) (.tmp 23) x24 x23).bind fun t25_15 =>
cnd t25_15 (
(indexAddrV Try.prog 43 x22 x24).bind fun t26_16 =>
(loadV Try.prog 27 t26_16 h).bind fun t27_17 =>
(indexAddrV Try.prog 27 t27_17 x1).bind fun t31_18 =>
(loadV Try.prog 29 t31_18 h).bind fun t32_19 =>
obH (buildSliceV Try.prog 27 1 #[(0, t32_19)] h) fun t33_20 h21 =>
obH (appendV Try.prog 27 (some 27) x5 t33_20 h21) fun t34_22 h23 =>
(binV Try.prog .add 3 (.tmp 24) (.const (Go.Value.int Go.IntKind.i64 1)) x24 (Go.Value.int Go.IntKind.i64 1)).bind fun t35_24 =>
k .normal ⟨#[x0, x1, x2, x3, x4, t34_22, x6, t27_17, x8, x9, x10, x11, x12, x13, x14, x15, x16, x17, x18, x19, x20, x21, x22, x23, t35_24, t25_15, t26_16, t27_17, x5, t27_17, x1, t31_18, t32_19, t33_20, t34_22, t35_24, x36], h23⟩) (
k (.exit 0) ⟨#[x0, x1, x2, x3, x4, x5, x6, x7, x8, x9, x10, x11, x12, x13, x14, x15, x16, x17, x18, x19, x20, x21, x22, x23, x24, t25_15, x26, x27, x28, x29, x30, x31, x32, x33, x34, x35, x36], h⟩) := by kernel_rfl
theorem c28_2_eq {β : Type} (x0 x1 x2 x3 x4 x5 x6 x7 x8 x9 x10 x11 x12 x13 x14 x15 x16 x17 x18 x19 x20 x21 x22 x23 x24 x25 x26 x27 x28 x29 x30 x31 x32 x33 x34 x35 x36 : Value) (h : Heap) (k : Ex → St → Option β) : codeK Try.prog (evC Try.prog) loopL c28_2 ⟨#[x0, x1, x2, x3, x4, x5, x6, x7, x8, x9, x10, x11, x12, x13, x14, x15, x16, x17, x18, x19, x20, x21, x22, x23, x24, x25, x26, x27, x28, x29, x30, x31, x32, x33, x34, x35, x36], h⟩ k =
k .ret ⟨#[x0, x1, x2, x3, x5, x5, x6, x7, x8, x9, x10, x11, x12, x13, x14, x15, x16, x17, x18, x19, x20, x21, x22, x23, x24, x25, x26, x27, x28, x29, x30, x31, x32, x33, x34, x35, x5], h⟩ := by kernel_rfl
theorem call28 (x0 x1 : Value) (h : Heap) : evC Try.prog 28 #[x0, x1] h = codeK Try.prog (evC Try.prog) loopL c28_0 ⟨#[x0, x1, undef, undef, undef, undef, undef, undef, undef, undef, undef, undef, undef, undef, undef, undef, undef, undef, undef, undef, undef, undef, undef, undef, undef, undef, undef, undef, undef, undef, undef, undef, undef, undef, undef, undef, undef], nm h⟩ (retK Try.f28 Try.prog h) :=
  (evC_call 28 Try.f28 c28_0 Try.func28 (by kernel_rfl) #[x0, x1] h).trans (by kernel_rfl)
theorem ret28 (x0 x1 x2 x3 x4 x5 x6 x7 x8 x9 x10 x11 x12 x13 x14 x15 x16 x17 x18 x19 x20 x21 x22 x23 x24 x25 x26 x27 x28 x29 x30 x31 x32 x33 x34 x35 x36 : Value) (h0 h : Heap) : retK Try.f28 Try.prog h0 .ret ⟨#[x0, x1, x2, x3, x4, x5, x6, x7, x8, x9, x10, x11, x12, x13, x14, x15, x16, x17, x18, x19, x20, x21, x22, x23, x24, x25, x26, x27, x28, x29, x30, x31, x32, x33, x34, x35, x36], h⟩ = fin h0 (some x4) h := by kernel_rfl
theorem retn28 (x0 x1 x2 x3 x4 x5 x6 x7 x8 x9 x10 x11 x12 x13 x14 x15 x16 x17 x18 x19 x20 x21 x22 x23 x24 x25 x26 x27 x28 x29 x30 x31 x32 x33 x34 x35 x36 : Value) (h0 h : Heap) : retK Try.f28 Try.prog h0 .normal ⟨#[x0, x1, x2, x3, x4, x5, x6, x7, x8, x9, x10, x11, x12, x13, x14, x15, x16, x17, x18, x19, x20, x21, x22, x23, x24, x25, x26, x27, x28, x29, x30, x31, x32, x33, x34, x35, x36], h⟩ = fin h0 (some x4) h := by kernel_rfl
end Go.Am
namespace Go.Am
open Go.Proofs
set_option maxRecDepth 100000
noncomputable def c29_0 : Code := bodyC Try.f29 []
noncomputable def c29_1 : Code := bodyC Try.f29 [true, true, false, true, false, false]
noncomputable def c29_2 : Code := bodyC Try.f29 [true, true, true]
theorem c29_0_eq {β : Type} (x0 x1 x2 x3 x4 x5 x6 x7 x8 x9 x10 x11 x12 x13 x14 x15 x16 x17 x18 x19 x20 x21 x22 x23 x24 x25 x26 x27 x28 x29 x30 x31 x32 x33 x34 x35 x36 x37 x38 x39 x40 x41 x42 x43 x44 : Value) (h : Heap) (k : Ex → St → Option β) : codeK Try.prog (evC Try.prog) loopL c29_0 ⟨#[x0, x1, x2, x3, x4, x5, x6, x7, x8, x9, x10, x11, x12, x13, x14, x15, x16, x17, x18, x19, x20, x21, x22, x23, x24, x25, x26, x27, x28, x29, x30, x31, x32, x33, x34, x35, x36, x37, x38, x39, x40, x41, x42, x43, x44], h⟩ k =
obH (boxV Try.prog 45 x0 h) fun t2_0 h1 =>
obH (boxV Try.prog 45 x1 h1) fun t3_2 h3 =>
(loadV Try.prog 45 t2_0 h3).bind fun t8_4 =>
obH (evC Try.prog 38 #[t8_4] h3) fun t9_5 h6 =>
(unV Try.prog .not t9_5).bind fun t10_7 =>
(gd (wt t10_7 false) (loadV Try.prog 45 t3_2 h6)).bind fun t12_8 =>
obH (gdH (wt t10_7 false) h6 (evC Try.prog 38 #[t12_8] h6)) fun t13_9 h10 =>
(gd (wt t10_7 false) (unV Try.prog .not t13_9)).bind fun t14_11 =>
(pickV t10_7 (Go.Value.bool Bool.true) t14_11).bind fun t15_12 =>
(gd (wt t15_12 false) (fieldAddrV Try.prog 45 t2_0 0)).bind fun t17_13 =>
(gd (wt t15_12 false) (loadV Try.prog 3 t17_13 h10)).bind fun t18_14 =>
(gd (wt t15_12 false) (fieldAddrV Try.prog 45 t3_2 0)).bind fun t19_15 =>
(gd (wt t15_12 false) (loadV Try.prog 3 t19_15 h10)).bind fun t20_16 =>
(gd (wt t15_12 false) (binV Try.prog .neq 3 (.tmp 18) (.tmp 20) t18_14 t20_16)).bind fun t21_17 =>
(pickV t15_12 (Go.Value.bool Bool.true) t21_17).bind fun t22_18 =>
cnd t22_18 (
k .ret ⟨#[x0, x1, t2_0, t3_2, (Go.Value.bool Bool.false), x5, x6, x7, t8_4, t9_5, t10_7, t10_7, t12_8, t13_9, t14_11, t15_12, t15_12, t17_13, t18_14, t19_15, t20_16, t21_17, t22_18, x23, x24, x25, x26, x27, x28, x29, x30, x31, x32, x33, x34, x35, x36, x37, x38, x39, x40, x41, x42, x43, x44], h10⟩) (
(fieldAddrV Try.prog 45 t2_0 1).bind fun t23_19 =>
(loadV Try.prog 43 t23_19 h10).bind fun t24_20 =>
(lenV Try.prog 43 t24_20 h10).bind fun t25_21 =>
loopK Try.prog (evC Try.prog) c29_1 ⟨#[x0, x1, t2_0, t3_2, (Go.Value.bool Bool.false), x5, x6, x7, t8_4, t9_5, t10_7, t10_7, t12_8, t13_9, t14_11, t15_12, t15_12, t17_13, t18_14, t19_15, t20_16, t21_17, t22_18, t23_19, t24_20, t25_21, (Go.Value.int Go.IntKind.i64 0), x27, x28, x29, x30, x31, x32, x33, x34, x35, x36, x37, x38, x39, x40, x41, x42, x43, x44], h10⟩ (blockK 0 (seqK Try.prog (evC Try.prog) c29_2 k))) := by kernel_rfl
theorem c29_1_eq {β : Type} (x0 x1 x2 x3 x4 x5 x6 x7 x8 x9 x10 x11 x12 x13 x14 x15 x16 x17 x18 x19 x20 x21 x22 x23 x24 x25 x26 x27 x28 x29 x30 x31 x32 x33 x34 x35 x36 x37 x38 x39 x40 x41 x42 x43 x44 : Value) (h : Heap) (k : Ex → St → Option β) : codeK Try.prog (evC Try.prog) loopL c29_1 ⟨#[x0, x1, x2, x3, x4, x5, x6, x7, x8, x9, x10, x11, x12, x13, x14, x15, x16, x17, x18, x19, x20, x21, x22, x23, x24, x25, x26, x27, x28, x29, x30, x31, x32, x33, x34, x35, x36, x37, x38, x39, x40, x41, x42, x43, x44], h⟩ k =
(binV Try.prog .lss 3 (.tmp 26) (.tmp 25) x26 x25).bind fun t27_22 =>
cnd t27_22 (
(indexAddrV Try.prog 43 x24 x26).bind fun t29_23 =>
(loadV Try.prog 27 t29_23 h).bind fun t30_24 =>
(fieldAddrV Try.prog 45 x3 1).bind fun t32_25 =>
(loadV Try.prog 43 t32_25 h).bind fun t33_26 =>
(indexAddrV Try.prog 43 t33_26 x26).bind fun t35_27 =>
(loadV Try.prog 27 t35_27 h).bind fun t36_28 =>
obH (evC Try.prog 13 #[t30_24, t36_28] h) fun t37_29 h30 =>
(binV Try.prog .neq 3 (.tmp 38) (.const (Go.Value.int Go.IntKind.i64 0)) t37_29 (Go.Value.int Go.IntKind.i64 0)).bind fun t39_31 =>
(gd (wt t39_31 true) (binV Try.prog .neq 3 (.tmp 41) (.const (Go.Value.int Go.IntKind.i64 (-1))) (gdV (wt t39_31 true) t37_29) (Go.Value.int Go.IntKind.i64 (-1)))).bind fun t42_32 =>
(pickV t39_31 t42_32 (Go.Value.bool Bool.false)).bind fun t43_33 =>
cnd t43_33 (
k .ret ⟨#[x0, x1, x2, x3, (Go.Value.bool Bool.false), x26, t30_24, t37_29, x8, x9, x10, x11, x12, x13, x14, x15, x16, x17, x18, x19, x20, x21, x22, x23, x24, x25, x26, t27_22, x26, t29_23, t30_24, t30_24, t32_25, t33_26, x26, t35_27, t36_28, t37_29, t37_29, t39_31, t39_31, (gdV (wt t39_31 true) t37_29), t42_32, t43_33, x44], h30⟩) (
(binV Try.prog .add 3 (.tmp 26) (.const (Go.Value.int Go.IntKind.i64 1)) x26 (Go.Value.int Go.IntKind.i64 1)).bind fun t44_34 =>
k .normal ⟨#[x0, x1, x2, x3, x4, x26, t30_24, t37_29, x8, x9, x10, x11, x12, x13, x14, x15, x16, x17, x18, x19, x20, x21, x22, x23, x24, x25, t44_34, t27_22, x26, t29_23, t30_24, t30_24, t32_25, t33_26, x26, t35_27, t36_28, t37_29, t37_29, t39_31, t39_31, (gdV (wt t39_31 true) t37_29), t42_32, t43_33, t44_34], h30⟩)) (
k (.exit 0) ⟨#[x0, x1, x2, x3, x4, x5, x6, x7, x8, x9, x10, x11, x12, x13, x14, x15, x16, x17, x18, x19, x20, x21, x22, x23, x24, x25, x26, t27_22, x28, x29, x30, x31, x32, x33, x34, x35, x36, x37, x38, x39, x40, x41, x42, x43, x44], h⟩) := by kernel_rfl
theorem c29_2_eq {β : Type} (x0 x1 x2 x3 x4 x5 x6 x7 x8 x9 x10 x11 x12 x13 x14 x15 x16 x17 x18 x19 x20 x21 x22 x23 x24 x25 x26 x27 x28 x29 x30 x31 x32 x33 x34 x35 x36 x37 x38 x39 x40 x41 x42 x43 x44 : Value) (h : Heap) (k : Ex → St → Option β) : codeK Try.prog (evC Try.prog) loopL c29_2 ⟨#[x0, x1, x2, x3, x4, x5, x6, x7, x8, x9, x10, x11, x12, x13, x14, x15, x16, x17, x18, x19, x20, x21, x22, x23, x24, x25, x26, x27, x28, x29, x30, x31, x32, x33, x34, x35, x36, x37, x38, x39, x40, x41, x42, x43, x44], h⟩ k =
k .ret ⟨#[x0, x1, x2, x3, (Go.Value.bool Bool.true), x5, x6, x7, x8, x9, x10, x11, x12, x13, x14, x15, x16, x17, x18, x19, x20, x21, x22, x23, x24, x25, x26, x27, x28, x29, x30, x31, x32, x33, x34, x35, x36, x37, x38, x39, x40, x41, x42, x43, x44], h⟩ := by kernel_rfl
theorem call29 (x0 x1 : Value) (h : Heap) : evC Try.prog 29 #[x0, x1] h = codeK Try.prog (evC Try.prog) loopL c29_0 ⟨#[x0, x1, undef, undef, undef, undef, undef, undef, undef, undef, undef, undef, undef, undef, undef, undef, undef, undef, undef, undef, undef, undef, undef, undef, undef, undef, undef, undef, undef, undef, undef, undef, undef, undef, undef, undef, undef, undef, undef, undef, undef, undef, undef, undef, undef], nm h⟩ (retK Try.f29 Try.prog h) :=
  (evC_call 29 Try.f29 c29_0 Try.func29 (by kernel_rfl) #[x0, x1] h).trans (by kernel_rfl)
theorem ret29 (x0 x1 x2 x3 x4 x5 x6 x7 x8 x9 x10 x11 x12 x13 x14 x15 x16 x17 x18 x19 x20 x21 x22 x23 x24 x25 x26 x27 x28 x29 x30 x31 x32 x33 x34 x35 x36 x37 x38 x39 x40 x41 x42 x43 x44 : Value) (h0 h : Heap) : retK Try.f29 Try.prog h0 .ret ⟨#[x0, x1, x2, x3, x4, x5, x6, x7, x8, x9, x10, x11, x12, x13, x14, x15, x16, x17, x18, x19, x20, x21, x22, x23, x24, x25, x26, x27, x28, x29, x30, x31, x32, x33, x34, x35, x36, x37, x38, x39, x40, x41, x42, x43, x44], h⟩ = fin h0 (some x4) h := by kernel_rfl
theorem retn29 (x0 x1 x2 x3 x4 x5 x6 x7 x8 x9 x10 x11 x12 x13 x14 x15 x16 x17 x18 x19 x20 x21 x22 x23 x24 x25 x26 x27 x28 x29 x30 x31 x32 x33 x34 x35 x36 x37 x38 x39 x40 x41 x42 x43 x44 : Value) (h0 h : Heap) : retK Try.f29 Try.prog h0 .normal ⟨#[x0, x1, x2, x3, x4, x5, x6, x7, x8, x9, x10, x11, x12, x13, x14, x15, x16, x17, x18, x19, x20, x21, x22, x23, x24, x25, x26, x27, x28, x29, x30, x31, x32, x33, x34, x35, x36, x37, x38, x39, x40, x41, x42, x43, x44], h⟩ = fin h0 (some x4) h := by kernel_rfl
end Go.Am
namespace Go.Am
open Go.Proofs
set_option maxRecDepth 100000
noncomputable def c26_0 : Code := bodyC Try.f26 []
theorem c26_0_eq {β : Type} (x0 x1 x2 x3 x4 x5 x6 x7 x8 x9 x10 x11 x12 x13 x14 x15 x16 x17 : Value) (h : Heap) (k : Ex → St → Option β) : codeK Try.prog (evC Try.prog) loopL c26_0 ⟨#[x0, x1, x2, x3, x4, x5, x6, x7, x8, x9, x10, x11, x12, x13, x14, x15, x16, x17], h⟩ k =
(binV Try.prog .geq 3 (.tmp 5) (.const (Go.Value.int Go.IntKind.i64 0)) x1 (Go.Value.int Go.IntKind.i64 0)).bind fun t6_0 =>
(gd (wt t6_0 true) (binV Try.prog .lss 3 (.tmp 8) (.const (Go.Value.int Go.IntKind.i64 64)) (gdV (wt t6_0 true) x1) (Go.Value.int Go.IntKind.i64 64))).bind fun t9_1 =>
(pickV t6_0 t9_1 (Go.Value.bool Bool.false)).bind fun t10_2 =>
(gd (wt t10_2 true) (binV Try.prog .shr 50 (.tmp 12) (.tmp 13) (gdV (wt t10_2 true) x0) (gdV (wt t10_2 true) x1))).bind fun t14_3 =>
(gd (wt t10_2 true) (binV Try.prog .and 50 (.tmp 14) (.const (Go.Value.int Go.IntKind.u64 1)) t14_3 (Go.Value.int Go.IntKind.u64 1))).bind fun t15_4 =>
(gd (wt t10_2 true) (binV Try.prog .eql 50 (.tmp 15) (.const (Go.Value.int Go.IntKind.u64 1)) t15_4 (Go.Value.int Go.IntKind.u64 1))).bind fun t16_5 =>
(pickV t10_2 t16_5 (Go.Value.bool Bool.false)).bind fun t17_6 =>
k .ret ⟨#[x0, x1, x2, x3, t17_6, x1, t6_0, t6_0, (gdV (wt t6_0 true) x1), t9_1, t10_2, t10_2, (gdV (wt t10_2 true) x0), (gdV (wt t10_2 true) x1), t14_3, t15_4, t16_5, t17_6], h⟩ := by kernel_rfl
theorem call26 (x0 x1 : Value) (h : Heap) : evC Try.prog 26 #[x0, x1] h = codeK Try.prog (evC Try.prog) loopL c26_0 ⟨#[x0, x1, undef, undef, undef, undef, undef, undef, undef, undef, undef, undef, undef, undef, undef, undef, undef, undef], nm h⟩ (retK Try.f26 Try.prog h) :=
  (evC_call 26 Try.f26 c26_0 Try.func26 (by kernel_rfl) #[x0, x1] h).trans (by kernel_rfl)
theorem ret26 (x0 x1 x2 x3 x4 x5 x6 x7 x8 x9 x10 x11 x12 x13 x14 x15 x16 x17 : Value) (h0 h : Heap) : retK Try.f26 Try.prog h0 .ret ⟨#[x0, x1, x2, x3, x4, x5, x6, x7, x8, x9, x10, x11, x12, x13, x14, x15, x16, x17], h⟩ = fin h0 (some x4) h := by kernel_rfl
theorem retn26 (x0 x1 x2 x3 x4 x5 x6 x7 x8 x9 x10 x11 x12 x13 x14 x15 x16 x17 : Value) (h0 h : Heap) : retK Try.f26 Try.prog h0 .normal ⟨#[x0, x1, x2, x3, x4, x5, x6, x7, x8, x9, x10, x11, x12, x13, x14, x15, x16, x17], h⟩ = fin h0 (some x4) h := by kernel_rfl
end Go.Am
namespace Go.Am
open Go.Proofs
set_option maxRecDepth 100000
noncomputable def c31_0 : Code := bodyC Try.f31 []
noncomputable def c31_1 : Code := bodyC Try.f31 [true, true, false, true, false, false]
noncomputable def c31_2 : Code := bodyC Try.f31 [true, true, true]
theorem c31_0_eq {β : Type} (x0 x1 x2 x3 x4 x5 x6 x7 x8 x9 x10 x11 x12 x13 x14 x15 x16 x17 x18 x19 x20 x21 x22 x23 x24 x25 x26 x27 x28 x29 : Value) (h : Heap) (k : Ex → St → Option β) : codeK Try.prog (evC Try.prog) loopL c31_0 ⟨#[x0, x1, x2, x3, x4, x5, x6, x7, x8, x9, x10, x11, x12, x13, x14, x15, x16, x17, x18, x19, x20, x21, x22, x23, x24, x25, x26, x27, x28, x29], h⟩ k =
(binV Try.prog .lss 3 (.tmp 6) (.const (Go.Value.int Go.IntKind.i64 1)) x0 (Go.Value.int Go.IntKind.i64 1)).bind fun t7_0 =>
(gd (wt t7_0 false) (binV Try.prog .gtr 3 (.tmp 9) (.const (Go.Value.int Go.IntKind.i64 16)) (gdV (wt t7_0 false) x0) (Go.Value.int Go.IntKind.i64 16))).bind fun t10_1 =>
(pickV t7_0 (Go.Value.bool Bool.true) t10_1).bind fun t11_2 =>
(gd (wt t11_2 false) (lenV Try.prog 56 (gdV (wt t11_2 false) x1) h)).bind fun t14_3 =>
(gd (wt t11_2 false) (binV Try.prog .neq 3 (.tmp 14) (.tmp 15) t14_3 (gdV (wt t11_2 false) x0))).bind fun t16_4 =>
(pickV t11_2 (Go.Value.bool Bool.true) t16_4).bind fun t17_5 =>
cnd t17_5 (
k .ret ⟨#[x0, x1, x2, x3, (Go.Value.bool Bool.false), x5, x0, t7_0, t7_0, (gdV (wt t7_0 false) x0), t10_1, t11_2, t11_2, (gdV (wt t11_2 false) x1), t14_3, (gdV (wt t11_2 false) x0), t16_4, t17_5, x18, x19, x20, x21, x22, x23, x24, x25, x26, x27, x28, x29], h⟩) (
loopK Try.prog (evC Try.prog) c31_1 ⟨#[x0, x1, x2, x3, (Go.Value.bool Bool.false), (Go.Value.int Go.IntKind.i64 0), x0, t7_0, t7_0, (gdV (wt t7_0 false) x0), t10_1, t11_2, t11_2, (gdV (wt t11_2 false) x1), t14_3, (gdV (wt t11_2 false) x0), t16_4, t17_5, x18, x19, x20, x21, x22, x23, x24, x25, x26, x27, x28, x29], h⟩ (blockK 0 (seqK Try.prog (evC Try.prog) c31_2 k))) := by kernel_rfl
theorem c31_1_eq {β : Type} (x0 x1 x2 x3 x4 x5 x6 x7 x8 x9 x10 x11 x12 x13 x14 x15 x16 x17 x18 x19 x20 x21 x22 x23 x24 x25 x26 x27 x28 x29 : Value) (h : Heap) (k : Ex → St → Option β) : codeK Try.prog (evC Try.prog) loopL c31_1 ⟨#[x0, x1, x2, x3, x4, x5, x6, x7, x8, x9, x10, x11, x12, x13, x14, x15, x16, x17, x18, x19, x20, x21, x22, x23, x24, x25, x26, x27, x28, x29], h⟩ k =
(binV Try.prog .lss 3 (.tmp 18) (.tmp 19) x5 x0).bind fun t20_6 =>
cnd t20_6 (
(indexAddrV Try.prog 56 x1 x5).bind fun t25_7 =>
(loadV Try.prog 22 t25_7 h).bind fun t26_8 =>
(lenV Try.prog 22 t26_8 h).bind fun t27_9 =>
(binV Try.prog .neq 3 (.tmp 27) (.tmp 28) t27_9 x0).bind fun t29_10 =>
cnd t29_10 (
k .ret ⟨#[x0, x1, x2, x3, (Go.Value.bool Bool.false), x5, x6, x7, x8, x9, x10, x11, x12, x13, x14, x15, x16, x17, x5, x0, t20_6, x21, x22, x1, x5, t25_7, t26_8, t27_9, x0, t29_10], h⟩) (
(binV Try.prog .add 3 (.tmp 21) (.const (Go.Value.int Go.IntKind.i64 1)) x5 (Go.Value.int Go.IntKind.i64 1)).bind fun t22_11 =>
k .normal ⟨#[x0, x1, x2, x3, x4, t22_11, x6, x7, x8, x9, x10, x11, x12, x13, x14, x15, x16, x17, x5, x0, t20_6, x5, t22_11, x1, x5, t25_7, t26_8, t27_9, x0, t29_10], h⟩)) (
k (.exit 0) ⟨#[x0, x1, x2, x3, x4, x5, x6, x7, x8, x9, x10, x11, x12, x13, x14, x15, x16, x17, x5, x0, t20_6, x21, x22, x23, x24, x25, x26, x27, x28, x29], h⟩) := by kernel_rfl
theorem c31_2_eq {β : Type} (x0 x1 x2 x3 x4 x5 x6 x7 x8 x9 x10 x11 x12 x13 x14 x15 x16 x17 x18 x19 x20 x21 x22 x23 x24 x25 x26 x27 x28 x29 : Value) (h : Heap) (k : Ex → St → Option β) : codeK Try.prog (evC Try.prog) loopL c31_2 ⟨#[x0, x1, x2, x3, x4, x5, x6, x7, x8, x9, x10, x11, x12, x13, x14, x15, x16, x17, x18, x19, x20, x21, x22, x23, x24, x25, x26, x27, x28, x29], h⟩ k =
k .ret ⟨#[x0, x1, x2, x3, (Go.Value.bool Bool.true), x5, x6, x7, x8, x9, x10, x11, x12, x13, x14, x15, x16, x17, x18, x19, x20, x21, x22, x23, x24, x25, x26, x27, x28, x29], h⟩ := by kernel_rfl
theorem call31 (x0 x1 : Value) (h : Heap) : evC Try.prog 31 #[x0, x1] h = codeK Try.prog (evC Try.prog) loopL c31_0 ⟨#[x0, x1, undef, undef, undef, undef, undef, undef, undef, undef, undef, undef, undef, undef, undef, undef, undef, undef, undef, undef, undef, undef, undef, undef, undef, undef, undef, undef, undef, undef], nm h⟩ (retK Try.f31 Try.prog h) :=
  (evC_call 31 Try.f31 c31_0 Try.func31 (by kernel_rfl) #[x0, x1] h).trans (by kernel_rfl)
theorem ret31 (x0 x1 x2 x3 x4 x5 x6 x7 x8 x9 x10 x11 x12 x13 x14 x15 x16 x17 x18 x19 x20 x21 x22 x23 x24 x25 x26 x27 x28 x29 : Value) (h0 h : Heap) : retK Try.f31 Try.prog h0 .ret ⟨#[x0, x1, x2, x3, x4, x5, x6, x7, x8, x9, x10, x11, x12, x13, x14, x15, x16, x17, x18, x19, x20, x21, x22, x23, x24, x25, x26, x27, x28, x29], h⟩ = fin h0 (some x4) h := by kernel_rfl
theorem retn31 (x0 x1 x2 x3 x4 x5 x6 x7 x8 x9 x10 x11 x12 x13 x14 x15 x16 x17 x18 x19 x20 x21 x22 x23 x24 x25 x26 x27 x28 x29 : Value) (h0 h : Heap) : retK Try.f31 Try.prog h0 .normal ⟨#[x0, x1, x2, x3, x4, x5, x6, x7, x8, x9, x10, x11, x12, x13, x14, x15, x16, x17, x18, x19, x20, x21, x22, x23, x24, x25, x26, x27, x28, x29], h⟩ = fin h0 (some x4) h := by kernel_rfl
end Go.Am
namespace Go.Am
open Go.Proofs
set_option maxRecDepth 100000
noncomputable def c46_0 : Code := bodyC Try.f46 []
noncomputable def c46_1 : Code := bodyC Try.f46 [true, true, false, true, false, false]
noncomputable def c46_2 : Code := bodyC Try.f46 [true, true, true]
theorem c46_0_eq {β : Type} (x0 x1 x2 x3 x4 x5 x6 x7 x8 x9 x10 x11 x12 x13 x14 x15 x16 x17 x18 x19 x20 : Value) (h : Heap) (k : Ex → St → Option β) : codeK Try.prog (evC Try.prog) loopL c46_0 ⟨#[x0, x1, x2, x3, x4, x5, x6, x7, x8, x9, x10, x11, x12, x13, x14, x15, x16, x17, x18, x19, x20], h⟩ k =
loopK Try.prog (evC Try.prog) c46_1 ⟨#[x0, x1, (Go.Value.slice Option.none 0 0), (Go.Value.slice Option.none 0 0), (Go.Value.int Go.IntKind.i64 0), x5, x6, x7, x8, x9, x10, x11, x12, x13, x14, x15, x16, x17, x18, x19, x20], h⟩ (blockK 0 (seqK Try.prog (evC Try.prog) c46_2 k)) := by kernel_rfl
theorem c46_1_eq {β : Type} (x0 x1 x2 x3 x4 x5 x6 x7 x8 x9 x10 x11 x12 x13 x14 x15 x16 x17 x18 x19 x20 : Value) (h : Heap) (k : Ex → St → Option β) : codeK Try.prog (evC Try.prog) loopL c46_1 ⟨#[x0, x1, x2, x3, x4, x5, x6, x7, x8, x9, x10, x11, x12, x13, x14, x15, x16, x17, x18, x19, x20], h⟩ k =
(lenV Try.prog 56 x0 h).bind fun t7_0 =>
(binV Try.prog .lss 3 (.tmp 5) (.tmp 7) x4 t7_0).bind fun t8_1 =>
cnd t8_1 (
obH (buildSliceV Try.prog 22 0 #[] h) fun t12_2 h3 =>
(indexAddrV Try.prog 56 x0 x4).bind fun t15_4 =>
(loadV Try.prog 22 t15_4 h3).bind fun t16_5 =>
obH (appendV Try.prog 22 (some 22) t12_2 t16_5 h3) fun t17_6 h7 =>
obH (buildSliceV Try.prog 56 1 #[(0, t17_6)] h7) fun t18_8 h9 =>
obH (appendV Try.prog 56 (some 56) x3 t18_8 h9) fun t19_10 h11 =>
(binV Try.prog .add 3 (.tmp 9) (.const (Go.Value.int Go.IntKind.i64 1)) x4 (Go.Value.int Go.IntKind.i64 1)).bind fun t10_12 =>
k .normal ⟨#[x0, x1, x2, t19_10, t10_12, x4, x0, t7_0, t8_1, x4, t10_12, x3, t12_2, x0, x4, t15_4, t16_5, t17_6, t18_8, t19_10, x20], h11⟩) (
k (.exit 0) ⟨#[x0, x1, x2, x3, x4, x4, x0, t7_0, t8_1, x9, x10, x11, x12, x13, x14, x15, x16, x17, x18, x19, x20], h⟩) := by kernel_rfl
theorem c46_2_eq {β : Type} (x0 x1 x2 x3 x4 x5 x6 x7 x8 x9 x10 x11 x12 x13 x14 x15 x16 x17 x18 x19 x20 : Value) (h : Heap) (k : Ex → St → Option β) : codeK Try.prog (evC Try.prog) loopL c46_2 ⟨#[x0, x1, x2, x3, x4, x5, x6, x7, x8, x9, x10, x11, x12, x13, x14, x15, x16, x17, x18, x19, x20], h⟩ k =
k .ret ⟨#[x0, x1, x3, x3, x4, x5, x6, x7, x8, x9, x10, x11, x12, x13, x14, x15, x16, x17, x18, x19, x3], h⟩ := by kernel_rfl
theorem call46 (x0 : Value) (h : Heap) : evC Try.prog 46 #[x0] h = codeK Try.prog (evC Try.prog) loopL c46_0 ⟨#[x0, undef, undef, undef, undef, undef, undef, undef, undef, undef, undef, undef, undef, undef, undef, undef, undef, undef, undef, undef, undef], nm h⟩ (retK Try.f46 Try.prog h) :=
  (evC_call 46 Try.f46 c46_0 Try.func46 (by kernel_rfl) #[x0] h).trans (by kernel_rfl)
theorem ret46 (x0 x1 x2 x3 x4 x5 x6 x7 x8 x9 x10 x11 x12 x13 x14 x15 x16 x17 x18 x19 x20 : Value) (h0 h : Heap) : retK Try.f46 Try.prog h0 .ret ⟨#[x0, x1, x2, x3, x4, x5, x6, x7, x8, x9, x10, x11, x12, x13, x14, x15, x16, x17, x18, x19, x20], h⟩ = fin h0 (some x2) h := by kernel_rfl
theorem retn46 (x0 x1 x2 x3 x4 x5 x6 x7 x8 x9 x10 x11 x12 x13 x14 x15 x16 x17 x18 x19 x20 : Value) (h0 h : Heap) : retK Try.f46 Try.prog h0 .normal ⟨#[x0, x1, x2, x3, x4, x5, x6, x7, x8, x9, x10, x11, x12, x13, x14, x15, x16, x17, x18, x19, x20], h⟩ = fin h0 (some x2) h := by kernel_rfl
end Go.Am
namespace Go.Am
open Go.Proofs
set_option maxRecDepth 100000
noncomputable def c39_0 : Code := bodyC Try.f39 []
noncomputable def c39_1 : Code := bodyC Try.f39 [true, true, true, false, true, false, false]
noncomputable def c39_2 : Code := bodyC Try.f39 [true, true, true, true]
theorem c39_0_eq {β : Type} (x0 x1 x2 x3 x4 x5 x6 x7 x8 x9 x10 x11 x12 x13 x14 x15 x16 x17 x18 x19 x20 x21 x22 x23 x24 x25 x26 x27 x28 x29 x30 x31 x32 x33 x34 x35 x36 x37 x38 x39 x40 x41 x42 x43 x44 x45 x46 x47 x48 x49 x50 x51 x52 x53 x54 : Value) (h : Heap) (k : Ex → St → Option β) : codeK Try.prog (evC Try.prog) loopL c39_0 ⟨#[x0, x1, x2, x3, x4, x5, x6, x7, x8, x9, x10, x11, x12, x13, x14, x15, x16, x17, x18, x19, x20, x21, x22, x23, x24, x25, x26, x27, x28, x29, x30, x31, x32, x33, x34, x35, x36, x37, x38, x39, x40, x41, x42, x43, x44, x45, x46, x47, x48, x49, x50, x51, x52, x53, x54], h⟩ k =
obH (evC Try.prog 46 #[x1] h) fun t12_0 h1 =>
obH (evC Try.prog 31 #[x0, x1] h1) fun t15_2 h3 =>
(unV Try.prog .not t15_2).bind fun t16_4 =>
(gd (wt t16_4 false) (binV Try.prog .lss 3 (.tmp 18) (.const (Go.Value.int Go.IntKind.i64 0)) (gdV (wt t16_4 false) x2) (Go.Value.int Go.IntKind.i64 0))).bind fun t19_5 =>
(pickV t16_4 (Go.Value.bool Bool.true) t19_5).bind fun t20_6 =>
(gd (wt t20_6 false) (binV Try.prog .geq 3 (.tmp 22) (.tmp 23) (gdV (wt t20_6 false) x2) (gdV (wt t20_6 false) x0))).bind fun t24_7 =>
(pickV t20_6 (Go.Value.bool Bool.true) t24_7).bind fun t25_8 =>
cnd t25_8 (
k .ret ⟨#[x0, x1, x2, x3, x4, x5, x6, x7, t12_0, t12_0, x10, x1, t12_0, x0, x1, t15_2, t16_4, t16_4, (gdV (wt t16_4 false) x2), t19_5, t20_6, t20_6, (gdV (wt t20_6 false) x2), (gdV (wt t20_6 false) x0), t24_7, t25_8, t12_0, x27, x28, x29, x30, x31, x32, x33, x34, x35, x36, x37, x38, x39, x40, x41, x42, x43, x44, x45, x46, x47, x48, x49, x50, x51, x52, x53, x54], h3⟩) (
loopK Try.prog (evC Try.prog) c39_1 ⟨#[x0, x1, x2, x3, x4, x5, x6, x7, (Go.Value.slice Option.none 0 0), t12_0, (Go.Value.int Go.IntKind.i64 0), x1, t12_0, x0, x1, t15_2, t16_4, t16_4, (gdV (wt t16_4 false) x2), t19_5, t20_6, t20_6, (gdV (wt t20_6 false) x2), (gdV (wt t20_6 false) x0), t24_7, t25_8, x26, x27, x28, x29, x30, x31, x32, x33, x34, x35, x36, x37, x38, x39, x40, x41, x42, x43, x44, x45, x46, x47, x48, x49, x50, x51, x52, x53, x54], h3⟩ (blockK 0 (seqK Try.prog (evC Try.prog) c39_2 k))) := by kernel_rfl
theorem c39_1_eq {β : Type} (x0 x1 x2 x3 x4 x5 x6 x7 x8 x9 x10 x11 x12 x13 x14 x15 x16 x17 x18 x19 x20 x21 x22 x23 x24 x25 x26 x27 x28 x29 x30 x31 x32 x33 x34 x35 x36 x37 x38 x39 x40 x41 x42 x43 x44 x45 x46 x47 x48 x49 x50 x51 x52 x53 x54 : Value) (h : Heap) (k : Ex → St → Option β) : codeK Try.prog (evC Try.prog) loopL c39_1 ⟨#[x0, x1, x2, x3, x4, x5, x6, x7, x8, x9, x10, x11, x12, x13, x14, x15, x16, x17, x18, x19, x20, x21, x22, x23, x24, x25, x26, x27, x28, x29, x30, x31, x32, x33, x34, x35, x36, x37, x38, x39, x40, x41, x42, x43, x44, x45, x46, x47, x48, x49, x50, x51, x52, x53, x54], h⟩ k =
(binV Try.prog .lss 3 (.tmp 27) (.tmp 28) x10 x0).bind fun t29_9 =>
cnd t29_9 (
obH (evC Try.prog 47 #[x3, x10] h) fun t34_10 h11 =>
(gd (wt t34_10 true) (indexAddrV Try.prog 56 (gdV (wt t34_10 true) x9) (gdV (wt t34_10 true) x2))).bind fun t38_12 =>
(gd (wt t34_10 true) (loadV Try.prog 22 t38_12 h11)).bind fun t39_13 =>
(gd (wt t34_10 true) (indexAddrV Try.prog 22 t39_13 (gdV (wt t34_10 true) x10))).bind fun t41_14 =>
(gd (wt t34_10 true) (loadV Try.prog 29 t41_14 h11)).bind fun t42_15 =>
(gd (wt t34_10 true) (binV Try.prog .lss 29 (.tmp 42) (.const (Go.Value.int Go.IntKind.u64 18446744073709551615)) t42_15 (Go.Value.int Go.IntKind.u64 18446744073709551615))).bind fun t43_16 =>
(pickV t34_10 t43_16 (Go.Value.bool Bool.false)).bind fun t44_17 =>
cnd t44_17 (
(indexAddrV Try.prog 56 x9 x2).bind fun t47_18 =>
(loadV Try.prog 22 t47_18 h11).bind fun t48_19 =>
(indexAddrV Try.prog 22 t48_19 x10).bind fun t50_20 =>
(loadV Try.prog 29 t50_20 h11).bind fun t51_21 =>
(binV Try.prog .add 29 (.tmp 51) (.const (Go.Value.int Go.IntKind.u64 1)) t51_21 (Go.Value.int Go.IntKind.u64 1)).bind fun t52_22 =>
(indexAddrV Try.prog 22 t48_19 x10).bind fun t53_23 =>
(storeV Try.prog 29 t53_23 t52_22 h11).bind fun h24 =>
(binV Try.prog .add 3 (.tmp 30) (.const (Go.Value.int Go.IntKind.i64 1)) x10 (Go.Value.int Go.IntKind.i64 1)).bind fun t31_25 =>
k .normal ⟨#[x0, x1, x2, x3, x4, x5, x6, x7, x8, x9, t31_25, x11, x12, x13, x14, x15, x16, x17, x18, x19, x20, x21, x22, x23, x24, x25, x26, x10, x0, t29_9, x10, t31_25, x3, x10, t34_10, t34_10, (gdV (wt t34_10 true) x9), (gdV (wt t34_10 true) x2), t38_12, t39_13, (gdV (wt t34_10 true) x10), t41_14, t42_15, t43_16, t44_17, x9, x2, t47_18, t48_19, x10, t50_20, t51_21, t52_22, t53_23, x54], h24⟩) (
(binV Try.prog .add 3 (.tmp 30) (.const (Go.Value.int Go.IntKind.i64 1)) x10 (Go.Value.int Go.IntKind.i64 1)).bind fun t31_26 =>
k .normal ⟨#[x0, x1, x2, x3, x4, x5, x6, x7, x8, x9, t31_26, x11, x12, x13, x14, x15, x16, x17, x18, x19, x20, x21, x22, x23, x24, x25, x26, x10, x0, t29_9, x10, t31_26, x3, x10, t34_10, t34_10, (gdV (wt t34_10 true) x9), (gdV (wt t34_10 true) x2), t38_12, t39_13, (gdV (wt t34_10 true) x10), t41_14, t42_15, t43_16, t44_17, x45, x46, x47, x48, x49, x50, x51, x52, x53, x54], h11⟩)) (
k (.exit 0) ⟨#[x0, x1, x2, x3, x4, x5, x6, x7, x8, x9, x10, x11, x12, x13, x14, x15, x16, x17, x18, x19, x20, x21, x22, x23, x24, x25, x26, x10, x0, t29_9, x30, x31, x32, x33, x34, x35, x36, x37, x38, x39, x40, x41, x42, x43, x44, x45, x46, x47, x48, x49, x50, x51, x52, x53, x54], h⟩) := by kernel_rfl
theorem c39_2_eq {β : Type} (x0 x1 x2 x3 x4 x5 x6 x7 x8 x9 x10 x11 x12 x13 x14 x15 x16 x17 x18 x19 x20 x21 x22 x23 x24 x25 x26 x27 x28 x29 x30 x31 x32 x33 x34 x35 x36 x37 x38 x39 x40 x41 x42 x43 x44 x45 x46 x47 x48 x49 x50 x51 x52 x53 x54 : Value) (h : Heap) (k : Ex → St → Option β) : codeK Try.prog (evC Try.prog) loopL c39_2 ⟨#[x0, x1, x2, x3, x4, x5, x6, x7, x8, x9, x10, x11, x12, x13, x14, x15, x16, x17, x18, x19, x20, x21, x22, x23, x24, x25, x26, x27, x28, x29, x30, x31, x32, x33, x34, x35, x36, x37, x38, x39, x40, x41, x42, x43, x44, x45, x46, x47, x48, x49, x50, x51, x52, x53, x54], h⟩ k =
k .ret ⟨#[x0, x1, x2, x3, x4, x5, x6, x7, x9, x9, x10, x11, x12, x13, x14, x15, x16, x17, x18, x19, x20, x21, x22, x23, x24, x25, x26, x27, x28, x29, x30, x31, x32, x33, x34, x35, x36, x37, x38, x39, x40, x41, x42, x43, x44, x45, x46, x47, x48, x49, x50, x51, x52, x53, x9], h⟩ := by kernel_rfl
theorem call39 (x0 x1 x2 x3 : Value) (h : Heap) : evC Try.prog 39 #[x0, x1, x2, x3] h = codeK Try.prog (evC Try.prog) loopL c39_0 ⟨#[x0, x1, x2, x3, undef, undef, undef, undef, undef, undef, undef, undef, undef, undef, undef, undef, undef, undef, undef, undef, undef, undef, undef, undef, undef, undef, undef, undef, undef, undef, undef, undef, undef, undef, undef, undef, undef, undef, undef, undef, undef, undef, undef, undef, undef, undef, undef, undef, undef, undef, undef, undef, undef, undef, undef], nm h⟩ (retK Try.f39 Try.prog h) :=
  (evC_call 39 Try.f39 c39_0 Try.func39 (by kernel_rfl) #[x0, x1, x2, x3] h).trans (by kernel_rfl)
theorem ret39 (x0 x1 x2 x3 x4 x5 x6 x7 x8 x9 x10 x11 x12 x13 x14 x15 x16 x17 x18 x19 x20 x21 x22 x23 x24 x25 x26 x27 x28 x29 x30 x31 x32 x33 x34 x35 x36 x37 x38 x39 x40 x41 x42 x43 x44 x45 x46 x47 x48 x49 x50 x51 x52 x53 x54 : Value) (h0 h : Heap) : retK Try.f39 Try.prog h0 .ret ⟨#[x0, x1, x2, x3, x4, x5, x6, x7, x8, x9, x10, x11, x12, x13, x14, x15, x16, x17, x18, x19, x20, x21, x22, x23, x24, x25, x26, x27, x28, x29, x30, x31, x32, x33, x34, x35, x36, x37, x38, x39, x40, x41, x42, x43, x44, x45, x46, x47, x48, x49, x50, x51, x52, x53, x54], h⟩ = fin h0 (some x8) h := by kernel_rfl
theorem retn39 (x0 x1 x2 x3 x4 x5 x6 x7 x8 x9 x10 x11 x12 x13 x14 x15 x16 x17 x18 x19 x20 x21 x22 x23 x24 x25 x26 x27 x28 x29 x30 x31 x32 x33 x34 x35 x36 x37 x38 x39 x40 x41 x42 x43 x44 x45 x46 x47 x48 x49 x50 x51 x52 x53 x54 : Value) (h0 h : Heap) : retK Try.f39 Try.prog h0 .normal ⟨#[x0, x1, x2, x3, x4, x5, x6, x7, x8, x9, x10, x11, x12, x13, x14, x15, x16, x17, x18, x19, x20, x21, x22, x23, x24, x25, x26, x27, x28, x29, x30, x31, x32, x33, x34, x35, x36, x37, x38, x39, x40, x41, x42, x43, x44, x45, x46, x47, x48, x49, x50, x51, x52, x53, x54], h⟩ = fin h0 (some x8) h := by kernel_rfl
end Go.Am
namespace Go.Am
open Go.Proofs
set_option maxRecDepth 100000
noncomputable def c40_0 : Code := bodyC Try.f40 []
noncomputable def c40_1 : Code := bodyC Try.f40 [true, true, false, true, false, false]
noncomputable def c40_2 : Code := bodyC Try.f40 [true, true, true]
theorem c40_0_eq {β : Type} (x0 x1 x2 x3 x4 x5 x6 x7 x8 x9 x10 x11 x12 x13 x14 x15 x16 x17 x18 x19 x20 x21 x22 x23 x24 x25 x26 x27 : Value) (h : Heap) (k : Ex → St → Option β) : codeK Try.prog (evC Try.prog) loopL c40_0 ⟨#[x0, x1, x2, x3, x4, x5, x6, x7, x8, x9, x10, x11, x12, x13, x14, x15, x16, x17, x18, x19, x20, x21, x22, x23, x24, x25, x26, x27], h⟩ k =
obH (evC Try.prog 46 #[x0] h) fun t8_0 h1 =>
loopK Try.prog (evC Try.prog) c40_1 ⟨#[x0, x1, x2, x3, (Go.Value.slice Option.none 0 0), t8_0, (Go.Value.int Go.IntKind.i64 0), x0, t8_0, x9, x10, x11, x12, x13, x14, x15, x16, x17, x18, x19, x20, x21, x22, x23, x24, x25, x26, x27], h1⟩ (blockK 0 (seqK Try.prog (evC Try.prog) c40_2 k)) := by kernel_rfl
theorem c40_1_eq {β : Type} (x0 x1 x2 x3 x4 x5 x6 x7 x8 x9 x10 x11 x12 x13 x14 x15 x16 x17 x18 x19 x20 x21 x22 x23 x24 x25 x26 x27 : Value) (h : Heap) (k : Ex → St → Option β) : codeK Try.prog (evC Try.prog) loopL c40_1 ⟨#[x0, x1, x2, x3, x4, x5, x6, x7, x8, x9, x10, x11, x12, x13, x14, x15, x16, x17, x18, x19, x20, x21, x22, x23, x24, x25, x26, x27], h⟩ k =
(lenV Try.prog 56 x5 h).bind fun t11_2 =>
(binV Try.prog .lss 3 (.tmp 9) (.tmp 11) x6 t11_2).bind fun t12_3 =>
cnd t12_3 (
(indexAddrV Try.prog 56 x5 x6).bind fun t19_4 =>
(loadV Try.prog 22 t19_4 h).bind fun t20_5 =>
(indexAddrV Try.prog 56 x1 x6).bind fun t23_6 =>
(loadV Try.prog 22 t23_6 h).bind fun t24_7 =>
obH (evC Try.prog 20 #[t20_5, t24_7] h) fun t25_8 h9 =>
(indexAddrV Try.prog 56 x5 x6).bind fun t26_10 =>
(storeV Try.prog 22 t26_10 t25_8 h9).bind fun h11 =>
(binV Try.prog .add 3 (.tmp 13) (.const (Go.Value.int Go.IntKind.i64 1)) x6 (Go.Value.int Go.IntKind.i64 1)).bind fun t14_12 =>
k .normal ⟨#[x0, x1, x2, x3, x4, x5, t14_12, x7, x8, x6, x5, t11_2, t12_3, x6, t14_12, x5, x6, x5, x6, t19_4, t20_5, x1, x6, t23_6, t24_7, t25_8, t26_10, x27], h11⟩) (
k (.exit 0) ⟨#[x0, x1, x2, x3, x4, x5, x6, x7, x8, x6, x5, t11_2, t12_3, x13, x14, x15, x16, x17, x18, x19, x20, x21, x22, x23, x24, x25, x26, x27], h⟩) := by kernel_rfl
theorem c40_2_eq {β : Type} (x0 x1 x2 x3 x4 x5 x6 x7 x8 x9 x10 x11 x12 x13 x14 x15 x16 x17 x18 x19 x20 x21 x22 x23 x24 x25 x26 x27 : Value) (h : Heap) (k : Ex → St → Option β) : codeK Try.prog (evC Try.prog) loopL c40_2 ⟨#[x0, x1, x2, x3, x4, x5, x6, x7, x8, x9, x10, x11, x12, x13, x14, x15, x16, x17, x18, x19, x20, x21, x22, x23, x24, x25, x26, x27], h⟩ k =
k .ret ⟨#[x0, x1, x2, x3, x5, x5, x6, x7, x8, x9, x10, x11, x12, x13, x14, x15, x16, x17, x18, x19, x20, x21, x22, x23, x24, x25, x26, x5], h⟩ := by kernel_rfl
theorem call40 (x0 x1 : Value) (h : Heap) : evC Try.prog 40 #[x0, x1] h = codeK Try.prog (evC Try.prog) loopL c40_0 ⟨#[x0, x1, undef, undef, undef, undef, undef, undef, undef, undef, undef, undef, undef, undef, undef, undef, undef, undef, undef, undef, undef, undef, undef, undef, undef, undef, undef, undef], nm h⟩ (retK Try.f40 Try.prog h) :=
  (evC_call 40 Try.f40 c40_0 Try.func40 (by kernel_rfl) #[x0, x1] h).trans (by kernel_rfl)
theorem ret40 (x0 x1 x2 x3 x4 x5 x6 x7 x8 x9 x10 x11 x12 x13 x14 x15 x16 x17 x18 x19 x20 x21 x22 x23 x24 x25 x26 x27 : Value) (h0 h : Heap) : retK Try.f40 Try.prog h0 .ret ⟨#[x0, x1, x2, x3, x4, x5, x6, x7, x8, x9, x10, x11, x12, x13, x14, x15, x16, x17, x18, x19, x20, x21, x22, x23, x24, x25, x26, x27], h⟩ = fin h0 (some x4) h := by kernel_rfl
theorem retn40 (x0 x1 x2 x3 x4 x5 x6 x7 x8 x9 x10 x11 x12 x13 x14 x15 x16 x17 x18 x19 x20 x21 x22 x23 x24 x25 x26 x27 : Value) (h0 h : Heap) : retK Try.f40 Try.prog h0 .normal ⟨#[x0, x1, x2, x3, x4, x5, x6, x7, x8, x9, x10, x11, x12, x13, x14, x15, x16, x17, x18, x19, x20, x21, x22, x23, x24, x25, x26, x27], h⟩ = fin h0 (some x4) h := by kernel_rfl
end Go.Am
namespace Go.Am
open Go.Proofs
set_option maxRecDepth 100000
noncomputable def c47_0 : Code := bodyC Try.f47 []
theorem c47_0_eq {β : Type} (x0 x1 x2 x3 x4 x5 x6 x7 x8 x9 x10 x11 x12 x13 x14 x15 x16 x17 x18 : Value) (h : Heap) (k : Ex → St → Option β) : codeK Try.prog (evC Try.prog) loopL c47_0 ⟨#[x0, x1, x2, x3, x4, x5, x6, x7, x8, x9, x10, x11, x12, x13, x14, x15, x16, x17, x18], h⟩ k =
(binV Try.prog .geq 3 (.tmp 5) (.const (Go.Value.int Go.IntKind.i64 0)) x1 (Go.Value.int Go.IntKind.i64 0)).bind fun t6_0 =>
(gd (wt t6_0 true) (binV Try.prog .leq 3 (.tmp 8) (.const (Go.Value.int Go.IntKind.i64 63)) (gdV (wt t6_0 true) x1) (Go.Value.int Go.IntKind.i64 63))).bind fun t9_1 =>
(pickV t6_0 t9_1 (Go.Value.bool Bool.false)).bind fun t10_2 =>
obH (gdH (wt t10_2 true) h (convV Try.prog 3 77 (gdV (wt t10_2 true) x1) h)) fun t14_3 h4 =>
(gd (wt t10_2 true) (binV Try.prog .shr 29 (.tmp 12) (.tmp 14) (gdV (wt t10_2 true) x0) t14_3)).bind fun t15_5 =>
(gd (wt t10_2 true) (binV Try.prog .and 29 (.tmp 15) (.const (Go.Value.int Go.IntKind.u64 1)) t15_5 (Go.Value.int Go.IntKind.u64 1))).bind fun t16_6 =>
(gd (wt t10_2 true) (binV Try.prog .eql 29 (.tmp 16) (.const (Go.Value.int Go.IntKind.u64 1)) t16_6 (Go.Value.int Go.IntKind.u64 1))).bind fun t17_7 =>
(pickV t10_2 t17_7 (Go.Value.bool Bool.false)).bind fun t18_8 =>
k .ret ⟨#[x0, x1, x2, x3, t18_8, x1, t6_0, t6_0, (gdV (wt t6_0 true) x1), t9_1, t10_2, t10_2, (gdV (wt t10_2 true) x0), (gdV (wt t10_2 true) x1), t14_3, t15_5, t16_6, t17_7, t18_8], h4⟩ := by kernel_rfl
theorem call47 (x0 x1 : Value) (h : Heap) : evC Try.prog 47 #[x0, x1] h = codeK Try.prog (evC Try.prog) loopL c47_0 ⟨#[x0, x1, undef, undef, undef, undef, undef, undef, undef, undef, undef, undef, undef, undef, undef, undef, undef, undef, undef], nm h⟩ (retK Try.f47 Try.prog h) :=
  (evC_call 47 Try.f47 c47_0 Try.func47 (by kernel_rfl) #[x0, x1] h).trans (by kernel_rfl)
theorem ret47 (x0 x1 x2 x3 x4 x5 x6 x7 x8 x9 x10 x11 x12 x13 x14 x15 x16 x17 x18 : Value) (h0 h : Heap) : retK Try.f47 Try.prog h0 .ret ⟨#[x0, x1, x2, x3, x4, x5, x6, x7, x8, x9, x10, x11, x12, x13, x14, x15, x16, x17, x18], h⟩ = fin h0 (some x4) h := by kernel_rfl
theorem retn47 (x0 x1 x2 x3 x4 x5 x6 x7 x8 x9 x10 x11 x12 x13 x14 x15 x16 x17 x18 : Value) (h0 h : Heap) : retK Try.f47 Try.prog h0 .normal ⟨#[x0, x1, x2, x3, x4, x5, x6, x7, x8, x9, x10, x11, x12, x13, x14, x15, x16, x17, x18], h⟩ = fin h0 (some x4) h := by kernel_rfl
end Go.Am
namespace Go.Am
open Go.Proofs
set_option maxRecDepth 100000
noncomputable def c36_0 : Code := bodyC Try.f36 []
noncomputable def c36_1 : Code := bodyC Try.f36 [true, true, false, true, false, false]
noncomputable def c36_2 : Code := bodyC Try.f36 [true, true, true]
theorem c36_0_eq {β : Type} (x0 x1 x2 x3 x4 x5 x6 x7 x8 x9 x10 x11 x12 x13 x14 x15 x16 x17 x18 x19 x20 x21 x22 x23 : Value) (h : Heap) (k : Ex → St → Option β) : codeK Try.prog (evC Try.prog) loopL c36_0 ⟨#[x0, x1, x2, x3, x4, x5, x6, x7, x8, x9, x10, x11, x12, x13, x14, x15, x16, x17, x18, x19, x20, x21, x22, x23], h⟩ k =
(lenV Try.prog 26 x0 h).bind fun t7_0 =>
loopK Try.prog (evC Try.prog) c36_1 ⟨#[x0, x1, (Go.Value.int Go.IntKind.u64 0), (Go.Value.int Go.IntKind.u64 0), x4, x5, x0, t7_0, (Go.Value.int Go.IntKind.i64 0), x9, x10, x11, x12, x13, x14, x15, x16, x17, x18, x19, x20, x21, x22, x23], h⟩ (blockK 0 (seqK Try.prog (evC Try.prog) c36_2 k)) := by kernel_rfl
theorem c36_1_eq {β : Type} (x0 x1 x2 x3 x4 x5 x6 x7 x8 x9 x10 x11 x12 x13 x14 x15 x16 x17 x18 x19 x20 x21 x22 x23 : Value) (h : Heap) (k : Ex → St → Option β) : codeK Try.prog (evC Try.prog) loopL c36_1 ⟨#[x0, x1, x2, x3, x4, x5, x6, x7, x8, x9, x10, x11, x12, x13, x14, x15, x16, x17, x18, x19, x20, x21, x22, x23], h⟩ k =
(binV Try.prog .lss 3 (.tmp 8) (.tmp 7) x8 x7).bind fun t9_1 =>
cnd t9_1 (
(indexAddrV Try.prog 26 x6 x8).bind fun t10_2 =>
(loadV Try.prog 3 t10_2 h).bind fun t11_3 =>
(binV Try.prog .geq 3 (.tmp 12) (.const (Go.Value.int Go.IntKind.i64 0)) t11_3 (Go.Value.int Go.IntKind.i64 0)).bind fun t13_4 =>
(gd (wt t13_4 true) (binV Try.prog .lss 3 (.tmp 15) (.const (Go.Value.int Go.IntKind.i64 64)) (gdV (wt t13_4 true) t11_3) (Go.Value.int Go.IntKind.i64 64))).bind fun t16_5 =>
(pickV t13_4 t16_5 (Go.Value.bool Bool.false)).bind fun t17_6 =>
cnd t17_6 (
(binV Try.prog .shl 50 (.const (Go.Value.int Go.IntKind.u64 1)) (.tmp 19) (Go.Value.int Go.IntKind.u64 1) t11_3).bind fun t20_7 =>
(binV Try.prog .or 50 (.tmp 18) (.tmp 20) x3 t20_7).bind fun t21_8 =>
(binV Try.prog .add 3 (.tmp 8) (.const (Go.Value.int Go.IntKind.i64 1)) x8 (Go.Value.int Go.IntKind.i64 1)).bind fun t22_9 =>
k .normal ⟨#[x0, x1, x2, t21_8, x4, t11_3, x6, x7, t22_9, t9_1, t10_2, t11_3, t11_3, t13_4, t13_4, (gdV (wt t13_4 true) t11_3), t16_5, t17_6, x3, t11_3, t20_7, t21_8, t22_9, x23], h⟩) (
(binV Try.prog .add 3 (.tmp 8) (.const (Go.Value.int Go.IntKind.i64 1)) x8 (Go.Value.int Go.IntKind.i64 1)).bind fun t22_10 =>
k .normal ⟨#[x0, x1, x2, x3, x4, t11_3, x6, x7, t22_10, t9_1, t10_2, t11_3, t11_3, t13_4, t13_4, (gdV (wt t13_4 true) t11_3), t16_5, t17_6, x18, x19, x20, x21, t22_10, x23], h⟩)) (
k (.exit 0) ⟨#[x0, x1, x2, x3, x4, x5, x6, x7, x8, t9_1, x10, x11, x12, x13, x14, x15, x16, x17, x18, x19, x20, x21, x22, x23], h⟩) := by kernel_rfl
theorem c36_2_eq {β : Type} (x0 x1 x2 x3 x4 x5 x6 x7 x8 x9 x10 x11 x12 x13 x14 x15 x16 x17 x18 x19 x20 x21 x22 x23 : Value) (h : Heap) (k : Ex → St → Option β) : codeK Try.prog (evC Try.prog) loopL c36_2 ⟨#[x0, x1, x2, x3, x4, x5, x6, x7, x8, x9, x10, x11, x12, x13, x14, x15, x16, x17, x18, x19, x20, x21, x22, x23], h⟩ k =
k .ret ⟨#[x0, x1, x3, x3, x4, x5, x6, x7, x8, x9, x10, x11, x12, x13, x14, x15, x16, x17, x18, x19, x20, x21, x22, x3], h⟩ := by kernel_rfl
theorem call36 (x0 : Value) (h : Heap) : evC Try.prog 36 #[x0] h = codeK Try.prog (evC Try.prog) loopL c36_0 ⟨#[x0, undef, undef, undef, undef, undef, undef, undef, undef, undef, undef, undef, undef, undef, undef, undef, undef, undef, undef, undef, undef, undef, undef, undef], nm h⟩ (retK Try.f36 Try.prog h) :=
  (evC_call 36 Try.f36 c36_0 Try.func36 (by kernel_rfl) #[x0] h).trans (by kernel_rfl)
theorem ret36 (x0 x1 x2 x3 x4 x5 x6 x7 x8 x9 x10 x11 x12 x13 x14 x15 x16 x17 x18 x19 x20 x21 x22 x23 : Value) (h0 h : Heap) : retK Try.f36 Try.prog h0 .ret ⟨#[x0, x1, x2, x3, x4, x5, x6, x7, x8, x9, x10, x11, x12, x13, x14, x15, x16, x17, x18, x19, x20, x21, x22, x23], h⟩ = fin h0 (some x2) h := by kernel_rfl
theorem retn36 (x0 x1 x2 x3 x4 x5 x6 x7 x8 x9 x10 x11 x12 x13 x14 x15 x16 x17 x18 x19 x20 x21 x22 x23 : Value) (h0 h : Heap) : retK Try.f36 Try.prog h0 .normal ⟨#[x0, x1, x2, x3, x4, x5, x6, x7, x8, x9, x10, x11, x12, x13, x14, x15, x16, x17, x18, x19, x20, x21, x22, x23], h⟩ = fin h0 (some x2) h := by kernel_rfl
end Go.Am
namespace Go.Am
open Go.Proofs
set_option maxRecDepth 100000
noncomputable def c37_0 : Code := bodyC Try.f37 []
noncomputable def c37_1 : Code := bodyC Try.f37 [true, true, false, true, false, false]
noncomputable def c37_2 : Code := bodyC Try.f37 [true, true, true]
theorem c37_0_eq {β : Type} (x0 x1 x2 x3 x4 x5 x6 x7 x8 x9 x10 x11 x12 x13 x14 x15 x16 x17 x18 x19 x20 x21 x22 x23 x24 x25 : Value) (h : Heap) (k : Ex → St → Option β) : codeK Try.prog (evC Try.prog) loopL c37_0 ⟨#[x0, x1, x2, x3, x4, x5, x6, x7, x8, x9, x10, x11, x12, x13, x14, x15, x16, x17, x18, x19, x20, x21, x22, x23, x24, x25], h⟩ k =
(lenV Try.prog 22 x0 h).bind fun t7_0 =>
(lenV Try.prog 22 x1 h).bind fun t9_1 =>
(binV Try.prog .neq 3 (.tmp 7) (.tmp 9) t7_0 t9_1).bind fun t10_2 =>
cnd t10_2 (
k .ret ⟨#[x0, x1, x2, x3, (Go.Value.bool Bool.false), x5, x0, t7_0, x1, t9_1, t10_2, x11, x12, x13, x14, x15, x16, x17, x18, x19, x20, x21, x22, x23, x24, x25], h⟩) (
loopK Try.prog (evC Try.prog) c37_1 ⟨#[x0, x1, x2, x3, (Go.Value.bool Bool.false), (Go.Value.int Go.IntKind.i64 0), x0, t7_0, x1, t9_1, t10_2, x11, x12, x13, x14, x15, x16, x17, x18, x19, x20, x21, x22, x23, x24, x25], h⟩ (blockK 0 (seqK Try.prog (evC Try.prog) c37_2 k))) := by kernel_rfl
theorem c37_1_eq {β : Type} (x0 x1 x2 x3 x4 x5 x6 x7 x8 x9 x10 x11 x12 x13 x14 x15 x16 x17 x18 x19 x20 x21 x22 x23 x24 x25 : Value) (h : Heap) (k : Ex → St → Option β) : codeK Try.prog (evC Try.prog) loopL c37_1 ⟨#[x0, x1, x2, x3, x4, x5, x6, x7, x8, x9, x10, x11, x12, x13, x14, x15, x16, x17, x18, x19, x20, x21, x22, x23, x24, x25], h⟩ k =
(lenV Try.prog 22 x0 h).bind fun t13_3 =>
(binV Try.prog .lss 3 (.tmp 11) (.tmp 13) x5 t13_3).bind fun t14_4 =>
cnd t14_4 (
(indexAddrV Try.prog 22 x0 x5).bind fun t19_5 =>
(loadV Try.prog 29 t19_5 h).bind fun t20_6 =>
(indexAddrV Try.prog 22 x1 x5).bind fun t23_7 =>
(loadV Try.prog 29 t23_7 h).bind fun t24_8 =>
(binV Try.prog .neq 29 (.tmp 20) (.tmp 24) t20_6 t24_8).bind fun t25_9 =>
cnd t25_9 (
k .ret ⟨#[x0, x1, x2, x3, (Go.Value.bool Bool.false), x5, x6, x7, x8, x9, x10, x5, x0, t13_3, t14_4, x15, x16, x0, x5, t19_5, t20_6, x1, x5, t23_7, t24_8, t25_9], h⟩) (
(binV Try.prog .add 3 (.tmp 15) (.const (Go.Value.int Go.IntKind.i64 1)) x5 (Go.Value.int Go.IntKind.i64 1)).bind fun t16_10 =>
k .normal ⟨#[x0, x1, x2, x3, x4, t16_10, x6, x7, x8, x9, x10, x5, x0, t13_3, t14_4, x5, t16_10, x0, x5, t19_5, t20_6, x1, x5, t23_7, t24_8, t25_9], h⟩)) (
k (.exit 0) ⟨#[x0, x1, x2, x3, x4, x5, x6, x7, x8, x9, x10, x5, x0, t13_3, t14_4, x15, x16, x17, x18, x19, x20, x21, x22, x23, x24, x25], h⟩) := by kernel_rfl
theorem c37_2_eq {β : Type} (x0 x1 x2 x3 x4 x5 x6 x7 x8 x9 x10 x11 x12 x13 x14 x15 x16 x17 x18 x19 x20 x21 x22 x23 x24 x25 : Value) (h : Heap) (k : Ex → St → Option β) : codeK Try.prog (evC Try.prog) loopL c37_2 ⟨#[x0, x1, x2, x3, x4, x5, x6, x7, x8, x9, x10, x11, x12, x13, x14, x15, x16, x17, x18, x19, x20, x21, x22, x23, x24, x25], h⟩ k =
k .ret ⟨#[x0, x1, x2, x3, (Go.Value.bool Bool.true), x5, x6, x7, x8, x9, x10, x11, x12, x13, x14, x15, x16, x17, x18, x19, x20, x21, x22, x23, x24, x25], h⟩ := by kernel_rfl
theorem call37 (x0 x1 : Value) (h : Heap) : evC Try.prog 37 #[x0, x1] h = codeK Try.prog (evC Try.prog) loopL c37_0 ⟨#[x0, x1, undef, undef, undef, undef, undef, undef, undef, undef, undef, undef, undef, undef, undef, undef, undef, undef, undef, undef, undef, undef, undef, undef, undef, undef], nm h⟩ (retK Try.f37 Try.prog h) :=
  (evC_call 37 Try.f37 c37_0 Try.func37 (by kernel_rfl) #[x0, x1] h).trans (by kernel_rfl)
theorem ret37 (x0 x1 x2 x3 x4 x5 x6 x7 x8 x9 x10 x11 x12 x13 x14 x15 x16 x17 x18 x19 x20 x21 x22 x23 x24 x25 : Value) (h0 h : Heap) : retK Try.f37 Try.prog h0 .ret ⟨#[x0, x1, x2, x3, x4, x5, x6, x7, x8, x9, x10, x11, x12, x13, x14, x15, x16, x17, x18, x19, x20, x21, x22, x23, x24, x25], h⟩ = fin h0 (some x4) h := by kernel_rfl
theorem retn37 (x0 x1 x2 x3 x4 x5 x6 x7 x8 x9 x10 x11 x12 x13 x14 x15 x16 x17 x18 x19 x20 x21 x22 x23 x24 x25 : Value) (h0 h : Heap) : retK Try.f37 Try.prog h0 .normal ⟨#[x0, x1, x2, x3, x4, x5, x6, x7, x8, x9, x10, x11, x12, x13, x14, x15, x16, x17, x18, x19, x20, x21, x22, x23, x24, x25], h⟩ = fin h0 (some x4) h := by kernel_rfl
end Go.Am
namespace Go.Am
open Go.Proofs
set_option maxRecDepth 100000
noncomputable def c32_0 : Code := bodyC Try.f32 []
noncomputable def c32_1 : Code := bodyC Try.f32 [true, true, false, true, false, false]
noncomputable def c32_2 : Code := bodyC Try.f32 [true, true, true]
theorem c32_0_eq {β : Type} (x0 x1 x2 x3 x4 x5 x6 x7 x8 x9 x10 x11 x12 x13 x14 x15 x16 x17 x18 x19 x20 x21 x22 x23 x24 : Value) (h : Heap) (k : Ex → St → Option β) : codeK Try.prog (evC Try.prog) loopL c32_0 ⟨#[x0, x1, x2, x3, x4, x5, x6, x7, x8, x9, x10, x11, x12, x13, x14, x15, x16, x17, x18, x19, x20, x21, x22, x23, x24], h⟩ k =
obH (allocV Try.prog 45 h) fun t4_0 h1 =>
(buildV Try.prog 45 #[(0, x0)]).bind fun t8_2 =>
obH (allocV Try.prog 45 h1) fun t5_3 h4 =>
(storeV Try.prog 45 t5_3 t8_2 h4).bind fun h5 =>
loopK Try.prog (evC Try.prog) c32_1 ⟨#[x0, x1, x2, x3, t4_0, t5_3, (Go.Value.int Go.IntKind.i64 0), x0, t8_2, x9, x10, x11, x12, x13, x14, x15, x16, x17, x18, x19, x20, x21, x22, x23, x24], h5⟩ (blockK 0 (seqK Try.prog (evC Try.prog) c32_2 k)) := by kernel_rfl
theorem c32_1_eq {β : Type} (x0 x1 x2 x3 x4 x5 x6 x7 x8 x9 x10 x11 x12 x13 x14 x15 x16 x17 x18 x19 x20 x21 x22 x23 x24 : Value) (h : Heap) (k : Ex → St → Option β) : codeK Try.prog (evC Try.prog) loopL c32_1 ⟨#[x0, x1, x2, x3, x4, x5, x6, x7, x8, x9, x10, x11, x12, x13, x14, x15, x16, x17, x18, x19, x20, x21, x22, x23, x24], h⟩ k =
(lenV Try.prog 56 x1 h).bind fun t11_6 =>
(binV Try.prog .lss 3 (.tmp 9) (.tmp 11) x6 t11_6).bind fun t12_7 =>
cnd t12_7 (
(fieldAddrV Try.prog 45 x5 1).bind fun t15_8 =>
(loadV Try.prog 43 t15_8 h).bind fun t16_9 =>
(indexAddrV Try.prog 56 x1 x6).bind fun t19_10 =>
(loadV Try.prog 22 t19_10 h).bind fun t20_11 =>
obH (buildSliceV Try.prog 43 1 #[(0, t20_11)] h) fun t21_12 h13 =>
obH (appendV Try.prog 43 (some 43) t16_9 t21_12 h13) fun t22_14 h15 =>
(fieldAddrV Try.prog 45 x5 1).bind fun t23_16 =>
(storeV Try.prog 43 t23_16 t22_14 h15).bind fun h17 =>
(binV Try.prog .add 3 (.tmp 13) (.const (Go.Value.int Go.IntKind.i64 1)) x6 (Go.Value.int Go.IntKind.i64 1)).bind fun t14_18 =>
k .normal ⟨#[x0, x1, x2, x3, x4, x5, t14_18, x7, x8, x6, x1, t11_6, t12_7, x6, t14_18, t15_8, t16_9, x1, x6, t19_10, t20_11, t21_12, t22_14, t23_16, x24], h17⟩) (
k (.exit 0) ⟨#[x0, x1, x2, x3, x4, x5, x6, x7, x8, x6, x1, t11_6, t12_7, x13, x14, x15, x16, x17, x18, x19, x20, x21, x22, x23, x24], h⟩) := by kernel_rfl
theorem c32_2_eq {β : Type} (x0 x1 x2 x3 x4 x5 x6 x7 x8 x9 x10 x11 x12 x13 x14 x15 x16 x17 x18 x19 x20 x21 x22 x23 x24 : Value) (h : Heap) (k : Ex → St → Option β) : codeK Try.prog (evC Try.prog) loopL c32_2 ⟨#[x0, x1, x2, x3, x4, x5, x6, x7, x8, x9, x10, x11, x12, x13, x14, x15, x16, x17, x18, x19, x20, x21, x22, x23, x24], h⟩ k =
(loadV Try.prog 45 x5 h).bind fun t24_19 =>
(storeV Try.prog 45 x4 t24_19 h).bind fun h20 =>
k .ret ⟨#[x0, x1, x2, x3, x4, x5, x6, x7, x8, x9, x10, x11, x12, x13, x14, x15, x16, x17, x18, x19, x20, x21, x22, x23, t24_19], h20⟩ := by kernel_rfl
theorem call32 (x0 x1 : Value) (h : Heap) : evC Try.prog 32 #[x0, x1] h = codeK Try.prog (evC Try.prog) loopL c32_0 ⟨#[x0, x1, undef, undef, undef, undef, undef, undef, undef, undef, undef, undef, undef, undef, undef, undef, undef, undef, undef, undef, undef, undef, undef, undef, undef], nm h⟩ (retK Try.f32 Try.prog h) :=
  (evC_call 32 Try.f32 c32_0 Try.func32 (by kernel_rfl) #[x0, x1] h).trans (by kernel_rfl)
theorem ret32 (x0 x1 x2 x3 x4 x5 x6 x7 x8 x9 x10 x11 x12 x13 x14 x15 x16 x17 x18 x19 x20 x21 x22 x23 x24 : Value) (h0 h : Heap) : retK Try.f32 Try.prog h0 .ret ⟨#[x0, x1, x2, x3, x4, x5, x6, x7, x8, x9, x10, x11, x12, x13, x14, x15, x16, x17, x18, x19, x20, x21, x22, x23, x24], h⟩ = fin h0 (rvals ((loadV Try.prog 45 x4 h).bind fun r0 => some [r0])) h := by kernel_rfl
theorem retn32 (x0 x1 x2 x3 x4 x5 x6 x7 x8 x9 x10 x11 x12 x13 x14 x15 x16 x17 x18 x19 x20 x21 x22 x23 x24 : Value) (h0 h : Heap) : retK Try.f32 Try.prog h0 .normal ⟨#[x0, x1, x2, x3, x4, x5, x6, x7, x8, x9, x10, x11, x12, x13, x14, x15, x16, x17, x18, x19, x20, x21, x22, x23, x24], h⟩ = fin h0 (rvals ((loadV Try.prog 45 x4 h).bind fun r0 => some [r0])) h := by kernel_rfl
end Go.Am
namespace Go.Am
open Go.Proofs
set_option maxRecDepth 100000
noncomputable def c35_0 : Code := bodyC Try.f35 []
noncomputable def c35_1 : Code := bodyC Try.f35 [true, true, false, true, false, false]
noncomputable def c35_2 : Code := bodyC Try.f35 [true, true, true]
theorem c35_0_eq {β : Type} (x0 x1 x2 x3 x4 x5 x6 x7 x8 x9 x10 x11 x12 x13 x14 x15 x16 x17 x18 x19 x20 : Value) (h : Heap) (k : Ex → St → Option β) : codeK Try.prog (evC Try.prog) loopL c35_0 ⟨#[x0, x1, x2, x3, x4, x5, x6, x7, x8, x9, x10, x11, x12, x13, x14, x15, x16, x17, x18, x19, x20], h⟩ k =
obH (boxV Try.prog 45 x0 h) fun t1_0 h1 =>
loopK Try.prog (evC Try.prog) c35_1 ⟨#[x0, t1_0, (Go.Value.slice Option.none 0 0), (Go.Value.slice Option.none 0 0), (Go.Value.int Go.IntKind.i64 0), x5, x6, x7, x8, x9, x10, x11, x12, x13, x14, x15, x16, x17, x18, x19, x20], h1⟩ (blockK 0 (seqK Try.prog (evC Try.prog) c35_2 k)) := by kernel_rfl
theorem c35_1_eq {β : Type} (x0 x1 x2 x3 x4 x5 x6 x7 x8 x9 x10 x11 x12 x13 x14 x15 x16 x17 x18 x19 x20 : Value) (h : Heap) (k : Ex → St → Option β) : codeK Try.prog (evC Try.prog) loopL c35_1 ⟨#[x0, x1, x2, x3, x4, x5, x6, x7, x8, x9, x10, x11, x12, x13, x14, x15, x16, x17, x18, x19, x20], h⟩ k =
(fieldAddrV Try.prog 45 x1 1).bind fun t6_2 =>
(loadV Try.prog 43 t6_2 h).bind fun t7_3 =>
(lenV Try.prog 43 t7_3 h).bind fun t8_4 =>
(binV Try.prog .lss 3 (.tmp 5) (.tmp 8) x4 t8_4).bind fun t9_5 =>
cnd t9_5 (
(fieldAddrV Try.prog 45 x1 1).bind fun t13_6 =>
(loadV Try.prog 43 t13_6 h).bind fun t14_7 =>
(indexAddrV Try.prog 43 t14_7 x4).bind fun t16_8 =>
(loadV Try.prog 27 t16_8 h).bind fun t17_9 =>
obH (buildSliceV Try.prog 56 1 #[(0, t17_9)] h) fun t18_10 h11 =>
obH (appendV Try.prog 56 (some 56) x3 t18_10 h11) fun t19_12 h13 =>
(binV Try.prog .add 3 (.tmp 10) (.const (Go.Value.int Go.IntKind.i64 1)) x4 (Go.Value.int Go.IntKind.i64 1)).bind fun t11_14 =>
k .normal ⟨#[x0, x1, x2, t19_12, t11_14, x4, t6_2, t7_3, t8_4, t9_5, x4, t11_14, x3, t13_6, t14_7, x4, t16_8, t17_9, t18_10, t19_12, x20], h13⟩) (
k (.exit 0) ⟨#[x0, x1, x2, x3, x4, x4, t6_2, t7_3, t8_4, t9_5, x10, x11, x12, x13, x14, x15, x16, x17, x18, x19, x20], h⟩) := by kernel_rfl
theorem c35_2_eq {β : Type} (x0 x1 x2 x3 x4 x5 x6 x7 x8 x9 x10 x11 x12 x13 x14 x15 x16 x17 x18 x19 x20 : Value) (h : Heap) (k : Ex → St → Option β) : codeK Try.prog (evC Try.prog) loopL c35_2 ⟨#[x0, x1, x2, x3, x4, x5, x6, x7, x8, x9, x10, x11, x12, x13, x14, x15, x16, x17, x18, x19, x20], h⟩ k =
k .ret ⟨#[x0, x1, x3, x3, x4, x5, x6, x7, x8, x9, x10, x11, x12, x13, x14, x15, x16, x17, x18, x19, x3], h⟩ := by kernel_rfl
theorem call35 (x0 : Value) (h : Heap) : evC Try.prog 35 #[x0] h = codeK Try.prog (evC Try.prog) loopL c35_0 ⟨#[x0, undef, undef, undef, undef, undef, undef, undef, undef, undef, undef, undef, undef, undef, undef, undef, undef, undef, undef, undef, undef], nm h⟩ (retK Try.f35 Try.prog h) :=
  (evC_call 35 Try.f35 c35_0 Try.func35 (by kernel_rfl) #[x0] h).trans (by kernel_rfl)
theorem ret35 (x0 x1 x2 x3 x4 x5 x6 x7 x8 x9 x10 x11 x12 x13 x14 x15 x16 x17 x18 x19 x20 : Value) (h0 h : Heap) : retK Try.f35 Try.prog h0 .ret ⟨#[x0, x1, x2, x3, x4, x5, x6, x7, x8, x9, x10, x11, x12, x13, x14, x15, x16, x17, x18, x19, x20], h⟩ = fin h0 (some x2) h := by kernel_rfl
theorem retn35 (x0 x1 x2 x3 x4 x5 x6 x7 x8 x9 x10 x11 x12 x13 x14 x15 x16 x17 x18 x19 x20 : Value) (h0 h : Heap) : retK Try.f35 Try.prog h0 .normal ⟨#[x0, x1, x2, x3, x4, x5, x6, x7, x8, x9, x10, x11, x12, x13, x14, x15, x16, x17, x18, x19, x20], h⟩ = fin h0 (some x2) h := by kernel_rfl
end Go.Am
namespace Go.Am
open Go.Proofs
set_option maxRecDepth 100000
noncomputable def c34_0 : Code := bodyC Try.f34 []
noncomputable def c34_1 : Code := bodyC Try.f34 [true, true, false, true, false, false]
noncomputable def c34_2 : Code := bodyC Try.f34 [true, true, true]
theorem c34_0_eq {β : Type} (x0 x1 x2 x3 x4 x5 x6 x7 x8 x9 x10 x11 x12 x13 x14 x15 x16 x17 x18 x19 x20 x21 x22 x23 x24 x25 x26 : Value) (h : Heap) (k : Ex → St → Option β) : codeK Try.prog (evC Try.prog) loopL c34_0 ⟨#[x0, x1, x2, x3, x4, x5, x6, x7, x8, x9, x10, x11, x12, x13, x14, x15, x16, x17, x18, x19, x20, x21, x22, x23, x24, x25, x26], h⟩ k =
(lenV Try.prog 56 x0 h).bind fun t7_0 =>
(lenV Try.prog 56 x1 h).bind fun t9_1 =>
(binV Try.prog .neq 3 (.tmp 7) (.tmp 9) t7_0 t9_1).bind fun t10_2 =>
cnd t10_2 (
k .ret ⟨#[x0, x1, x2, x3, (Go.Value.bool Bool.false), x5, x0, t7_0, x1, t9_1, t10_2, x11, x12, x13, x14, x15, x16, x17, x18, x19, x20, x21, x22, x23, x24, x25, x26], h⟩) (
loopK Try.prog (evC Try.prog) c34_1 ⟨#[x0, x1, x2, x3, (Go.Value.bool Bool.false), (Go.Value.int Go.IntKind.i64 0), x0, t7_0, x1, t9_1, t10_2, x11, x12, x13, x14, x15, x16, x17, x18, x19, x20, x21, x22, x23, x24, x25, x26], h⟩ (blockK 0 (seqK Try.prog (evC Try.prog) c34_2 k))) := by kernel_rfl
theorem c34_1_eq {β : Type} (x0 x1 x2 x3 x4 x5 x6 x7 x8 x9 x10 x11 x12 x13 x14 x15 x16 x17 x18 x19 x20 x21 x22 x23 x24 x25 x26 : Value) (h : Heap) (k : Ex → St → Option β) : codeK Try.prog (evC Try.prog) loopL c34_1 ⟨#[x0, x1, x2, x3, x4, x5, x6, x7, x8, x9, x10, x11, x12, x13, x14, x15, x16, x17, x18, x19, x20, x21, x22, x23, x24, x25, x26], h⟩ k =
(lenV Try.prog 56 x0 h).bind fun t13_3 =>
(binV Try.prog .lss 3 (.tmp 11) (.tmp 13) x5 t13_3).bind fun t14_4 =>
cnd t14_4 (
(indexAddrV Try.prog 56 x0 x5).bind fun t19_5 =>
(loadV Try.prog 22 t19_5 h).bind fun t20_6 =>
(indexAddrV Try.prog 56 x1 x5).bind fun t23_7 =>
(loadV Try.prog 22 t23_7 h).bind fun t24_8 =>
obH (evC Try.prog 37 #[t20_6, t24_8] h) fun t25_9 h10 =>
(unV Try.prog .not t25_9).bind fun t26_11 =>
cnd t26_11 (
k .ret ⟨#[x0, x1, x2, x3, (Go.Value.bool Bool.false), x5, x6, x7, x8, x9, x10, x5, x0, t13_3, t14_4, x15, x16, x0, x5, t19_5, t20_6, x1, x5, t23_7, t24_8, t25_9, t26_11], h10⟩) (
(binV Try.prog .add 3 (.tmp 15) (.const (Go.Value.int Go.IntKind.i64 1)) x5 (Go.Value.int Go.IntKind.i64 1)).bind fun t16_12 =>
k .normal ⟨#[x0, x1, x2, x3, x4, t16_12, x6, x7, x8, x9, x10, x5, x0, t13_3, t14_4, x5, t16_12, x0, x5, t19_5, t20_6, x1, x5, t23_7, t24_8, t25_9, t26_11], h10⟩)) (
k (.exit 0) ⟨#[x0, x1, x2, x3, x4, x5, x6, x7, x8, x9, x10, x5, x0, t13_3, t14_4, x15, x16, x17, x18, x19, x20, x21, x22, x23, x24, x25, x26], h⟩) := by kernel_rfl
theorem c34_2_eq {β : Type} (x0 x1 x2 x3 x4 x5 x6 x7 x8 x9 x10 x11 x12 x13 x14 x15 x16 x17 x18 x19 x20 x21 x22 x23 x24 x25 x26 : Value) (h : Heap) (k : Ex → St → Option β) : codeK Try.prog (evC Try.prog) loopL c34_2 ⟨#[x0, x1, x2, x3, x4, x5, x6, x7, x8, x9, x10, x11, x12, x13, x14, x15, x16, x17, x18, x19, x20, x21, x22, x23, x24, x25, x26], h⟩ k =
k .ret ⟨#[x0, x1, x2, x3, (Go.Value.bool Bool.true), x5, x6, x7, x8, x9, x10, x11, x12, x13, x14, x15, x16, x17, x18, x19, x20, x21, x22, x23, x24, x25, x26], h⟩ := by kernel_rfl
theorem call34 (x0 x1 : Value) (h : Heap) : evC Try.prog 34 #[x0, x1] h = codeK Try.prog (evC Try.prog) loopL c34_0 ⟨#[x0, x1, undef, undef, undef, undef, undef, undef, undef, undef, undef, undef, undef, undef, undef, undef, undef, undef, undef, undef, undef, undef, undef, undef, undef, undef, undef], nm h⟩ (retK Try.f34 Try.prog h) :=
  (evC_call 34 Try.f34 c34_0 Try.func34 (by kernel_rfl) #[x0, x1] h).trans (by kernel_rfl)
theorem ret34 (x0 x1 x2 x3 x4 x5 x6 x7 x8 x9 x10 x11 x12 x13 x14 x15 x16 x17 x18 x19 x20 x21 x22 x23 x24 x25 x26 : Value) (h0 h : Heap) : retK Try.f34 Try.prog h0 .ret ⟨#[x0, x1, x2, x3, x4, x5, x6, x7, x8, x9, x10, x11, x12, x13, x14, x15, x16, x17, x18, x19, x20, x21, x22, x23, x24, x25, x26], h⟩ = fin h0 (some x4) h := by kernel_rfl
theorem retn34 (x0 x1 x2 x3 x4 x5 x6 x7 x8 x9 x10 x11 x12 x13 x14 x15 x16 x17 x18 x19 x20 x21 x22 x23 x24 x25 x26 : Value) (h0 h : Heap) : retK Try.f34 Try.prog h0 .normal ⟨#[x0, x1, x2, x3, x4, x5, x6, x7, x8, x9, x10, x11, x12, x13, x14, x15, x16, x17, x18, x19, x20, x21, x22, x23, x24, x25, x26], h⟩ = fin h0 (some x4) h := by kernel_rfl
end Go.Am
namespace Go.Am
open Go.Proofs
set_option maxRecDepth 100000
noncomputable def c30_0 : Code := bodyC Try.f30 []
noncomputable def c30_1 : Code := bodyC Try.f30 [true, true, false, true, false, false]
noncomputable def c30_2 : Code := bodyC Try.f30 [true, true, true]
theorem c30_0_eq {β : Type} (x0 x1 x2 x3 x4 x5 x6 x7 x8 x9 x10 x11 x12 x13 x14 x15 x16 x17 x18 : Value) (h : Heap) (k : Ex → St → Option β) : codeK Try.prog (evC Try.prog) loopL c30_0 ⟨#[x0, x1, x2, x3, x4, x5, x6, x7, x8, x9, x10, x11, x12, x13, x14, x15, x16, x17, x18], h⟩ k =
(lenV Try.prog 56 x0 h).bind fun t5_0 =>
(binV Try.prog .gtr 3 (.tmp 5) (.const (Go.Value.int Go.IntKind.i64 20)) t5_0 (Go.Value.int Go.IntKind.i64 20)).bind fun t6_1 =>
cnd t6_1 (
k .ret ⟨#[x0, x1, (Go.Value.bool Bool.true), x3, x0, t5_0, t6_1, x7, x8, x9, x10, x11, x12, x13, x14, x15, x16, x17, x18], h⟩) (
loopK Try.prog (evC Try.prog) c30_1 ⟨#[x0, x1, (Go.Value.bool Bool.false), (Go.Value.int Go.IntKind.i64 0), x0, t5_0, t6_1, x7, x8, x9, x10, x11, x12, x13, x14, x15, x16, x17, x18], h⟩ (blockK 0 (seqK Try.prog (evC Try.prog) c30_2 k))) := by kernel_rfl
theorem c30_1_eq {β : Type} (x0 x1 x2 x3 x4 x5 x6 x7 x8 x9 x10 x11 x12 x13 x14 x15 x16 x17 x18 : Value) (h : Heap) (k : Ex → St → Option β) : codeK Try.prog (evC Try.prog) loopL c30_1 ⟨#[x0, x1, x2, x3, x4, x5, x6, x7, x8, x9, x10, x11, x12, x13, x14, x15, x16, x17, x18], h⟩ k =
(lenV Try.prog 56 x0 h).bind fun t9_2 =>
(binV Try.prog .lss 3 (.tmp 7) (.tmp 9) x3 t9_2).bind fun t10_3 =>
cnd t10_3 (
(indexAddrV Try.prog 56 x0 x3).bind fun t15_4 =>
(loadV Try.prog 22 t15_4 h).bind fun t16_5 =>
(lenV Try.prog 22 t16_5 h).bind fun t17_6 =>
(binV Try.prog .gtr 3 (.tmp 17) (.const (Go.Value.int Go.IntKind.i64 20)) t17_6 (Go.Value.int Go.IntKind.i64 20)).bind fun t18_7 =>
cnd t18_7 (
k .ret ⟨#[x0, x1, (Go.Value.bool Bool.true), x3, x4, x5, x6, x3, x0, t9_2, t10_3, x11, x12, x0, x3, t15_4, t16_5, t17_6, t18_7], h⟩) (
(binV Try.prog .add 3 (.tmp 11) (.const (Go.Value.int Go.IntKind.i64 1)) x3 (Go.Value.int Go.IntKind.i64 1)).bind fun t12_8 =>
k .normal ⟨#[x0, x1, x2, t12_8, x4, x5, x6, x3, x0, t9_2, t10_3, x3, t12_8, x0, x3, t15_4, t16_5, t17_6, t18_7], h⟩)) (
k (.exit 0) ⟨#[x0, x1, x2, x3, x4, x5, x6, x3, x0, t9_2, t10_3, x11, x12, x13, x14, x15, x16, x17, x18], h⟩) := by kernel_rfl
theorem c30_2_eq {β : Type} (x0 x1 x2 x3 x4 x5 x6 x7 x8 x9 x10 x11 x12 x13 x14 x15 x16 x17 x18 : Value) (h : Heap) (k : Ex → St → Option β) : codeK Try.prog (evC Try.prog) loopL c30_2 ⟨#[x0, x1, x2, x3, x4, x5, x6, x7, x8, x9, x10, x11, x12, x13, x14, x15, x16, x17, x18], h⟩ k =
k .ret ⟨#[x0, x1, (Go.Value.bool Bool.false), x3, x4, x5, x6, x7, x8, x9, x10, x11, x12, x13, x14, x15, x16, x17, x18], h⟩ := by kernel_rfl
theorem call30 (x0 : Value) (h : Heap) : evC Try.prog 30 #[x0] h = codeK Try.prog (evC Try.prog) loopL c30_0 ⟨#[x0, undef, undef, undef, undef, undef, undef, undef, undef, undef, undef, undef, undef, undef, undef, undef, undef, undef, undef], nm h⟩ (retK Try.f30 Try.prog h) :=
  (evC_call 30 Try.f30 c30_0 Try.func30 (by kernel_rfl) #[x0] h).trans (by kernel_rfl)
theorem ret30 (x0 x1 x2 x3 x4 x5 x6 x7 x8 x9 x10 x11 x12 x13 x14 x15 x16 x17 x18 : Value) (h0 h : Heap) : retK Try.f30 Try.prog h0 .ret ⟨#[x0, x1, x2, x3, x4, x5, x6, x7, x8, x9, x10, x11, x12, x13, x14, x15, x16, x17, x18], h⟩ = fin h0 (some x2) h := by kernel_rfl
theorem retn30 (x0 x1 x2 x3 x4 x5 x6 x7 x8 x9 x10 x11 x12 x13 x14 x15 x16 x17 x18 : Value) (h0 h : Heap) : retK Try.f30 Try.prog h0 .normal ⟨#[x0, x1, x2, x3, x4, x5, x6, x7, x8, x9, x10, x11, x12, x13, x14, x15, x16, x17, x18], h⟩ = fin h0 (some x2) h := by kernel_rfl
end Go.Am
namespace Go.Am
open Go.Proofs
set_option maxRecDepth 100000
noncomputable def c23_0 : Code := bodyC Try.f23 []
theorem c23_0_eq {β : Type} (x0 x1 x2 x3 x4 x5 x6 x7 x8 x9 x10 x11 x12 x13 x14 x15 x16 x17 x18 x19 x20 x21 x22 x23 x24 x25 x26 x27 x28 x29 x30 x31 x32 x33 x34 x35 : Value) (h : Heap) (k : Ex → St → Option β) : codeK Try.prog (evC Try.prog) loopL c23_0 ⟨#[x0, x1, x2, x3, x4, x5, x6, x7, x8, x9, x10, x11, x12, x13, x14, x15, x16, x17, x18, x19, x20, x21, x22, x23, x24, x25, x26, x27, x28, x29, x30, x31, x32, x33, x34, x35], h⟩ k =
obH (evC Try.prog 24 #[(Go.Value.int Go.IntKind.i64 2)] h) fun t5_0 h1 =>
(extractV t5_0 0).bind fun t6_2 =>
(extractV t5_0 1).bind fun t7_3 =>
obH (allocV Try.prog 45 h1) fun t1_4 h5 =>
(storeV Try.prog 45 t1_4 t6_2 h5).bind fun h6 =>
(loadV Try.prog 45 t1_4 h6).bind fun t8_7 =>
obH (buildSliceV Try.prog 26 1 #[(0, (Go.Value.int Go.IntKind.i64 1))] h6) fun t9_8 h9 =>
obH (evC Try.prog 36 #[t9_8] (nm h9)) fun t10_10 h11 =>
obH (evC Try.prog 25 #[t8_7, (Go.Value.int Go.IntKind.i64 0), t10_10] (nm (am h11 h9))) fun t11_12 h13 =>
obH (allocV Try.prog 45 (am h13 (am h11 h9))) fun t3_14 h15 =>
(storeV Try.prog 45 t3_14 t11_12 h15).bind fun h16 =>
chk ([(am h13 (am h11 h9)).blks.length] ++ ((rb t1_4) ++ [])) (h13.mods ++ (h11.mods ++ [])) (
(binV Try.prog .eql 46 (.tmp 12) (.const (Go.Value.int Go.IntKind.i64 0)) t7_3 (Go.Value.int Go.IntKind.i64 0)).bind fun t13_17 =>
(gd (wt t13_17 true) (loadV Try.prog 45 t3_14 h16)).bind fun t15_18 =>
obH (gdH (wt t13_17 true) h16 (evC Try.prog 35 #[t15_18] h16)) fun t16_19 h20 =>
obH (gdH (wt t13_17 true) h20 (buildSliceV Try.prog 22 2 #[(0, (Go.Value.int Go.IntKind.u64 0)), (1, (Go.Value.int Go.IntKind.u64 1))] h20)) fun t17_21 h22 =>
obH (gdH (wt t13_17 true) h22 (buildSliceV Try.prog 22 2 #[(0, (Go.Value.int Go.IntKind.u64 0)), (1, (Go.Value.int Go.IntKind.u64 0))] h22)) fun t18_23 h24 =>
obH (gdH (wt t13_17 true) h24 (buildSliceV Try.prog 56 2 #[(0, t17_21), (1, t18_23)] h24)) fun t19_25 h26 =>
obH (gdH (wt t13_17 true) h26 (evC Try.prog 34 #[t16_19, t19_25] h26)) fun t20_27 h28 =>
(pickV t13_17 t20_27 (Go.Value.bool Bool.false)).bind fun t21_29 =>
(gd (wt t21_29 true) (loadV Try.prog 45 t3_14 h28)).bind fun t23_30 =>
obH (gdH (wt t21_29 true) h28 (evC Try.prog 38 #[t23_30] h28)) fun t24_31 h32 =>
(pickV t21_29 t24_31 (Go.Value.bool Bool.false)).bind fun t25_33 =>
(gd (wt t25_33 true) (loadV Try.prog 45 t3_14 h32)).bind fun t27_34 =>
obH (gdH (wt t25_33 true) h32 (evC Try.prog 27 #[t27_34, (Go.Value.int Go.IntKind.i64 0), (Go.Value.int Go.IntKind.i64 1)] h32)) fun t28_35 h36 =>
(gd (wt t25_33 true) (binV Try.prog .eql 29 (.tmp 28) (.const (Go.Value.int Go.IntKind.u64 1)) t28_35 (Go.Value.int Go.IntKind.u64 1))).bind fun t29_37 =>
(pickV t25_33 t29_37 (Go.Value.bool Bool.false)).bind fun t30_38 =>
(gd (wt t30_38 true) (loadV Try.prog 45 t1_4 h36)).bind fun t32_39 =>
(gd (wt t30_38 true) (loadV Try.prog 45 t3_14 h36)).bind fun t33_40 =>
obH (gdH (wt t30_38 true) h36 (evC Try.prog 29 #[t32_39, t33_40] h36)) fun t34_41 h42 =>
(pickV t30_38 t34_41 (Go.Value.bool Bool.false)).bind fun t35_43 =>
k .ret ⟨#[t35_43, t1_4, t7_3, t3_14, t5_0, t5_0, t6_2, t7_3, t8_7, t9_8, t10_10, t11_12, t7_3, t13_17, t13_17, t15_18, t16_19, t17_21, t18_23, t19_25, t20_27, t21_29, t21_29, t23_30, t24_31, t25_33, t25_33, t27_34, t28_35, t29_37, t30_38, t30_38, t32_39, t33_40, t34_41, t35_43], h42⟩) := by kernel_rfl
theorem call23 (h : Heap) : evC Try.prog 23 #[] h = codeK Try.prog (evC Try.prog) loopL c23_0 ⟨#[undef, undef, undef, undef, undef, undef, undef, undef, undef, undef, undef, undef, undef, undef, undef, undef, undef, undef, undef, undef, undef, undef, undef, undef, undef, undef, undef, undef, undef, undef, undef, undef, undef, undef, undef, undef], nm h⟩ (retK Try.f23 Try.prog h) :=
  (evC_call 23 Try.f23 c23_0 Try.func23 (by kernel_rfl) #[] h).trans (by kernel_rfl)
theorem ret23 (x0 x1 x2 x3 x4 x5 x6 x7 x8 x9 x10 x11 x12 x13 x14 x15 x16 x17 x18 x19 x20 x21 x22 x23 x24 x25 x26 x27 x28 x29 x30 x31 x32 x33 x34 x35 : Value) (h0 h : Heap) : retK Try.f23 Try.prog h0 .ret ⟨#[x0, x1, x2, x3, x4, x5, x6, x7, x8, x9, x10, x11, x12, x13, x14, x15, x16, x17, x18, x19, x20, x21, x22, x23, x24, x25, x26, x27, x28, x29, x30, x31, x32, x33, x34, x35], h⟩ = fin h0 (some x0) h := by kernel_rfl
theorem retn23 (x0 x1 x2 x3 x4 x5 x6 x7 x8 x9 x10 x11 x12 x13 x14 x15 x16 x17 x18 x19 x20 x21 x22 x23 x24 x25 x26 x27 x28 x29 x30 x31 x32 x33 x34 x35 : Value) (h0 h : Heap) : retK Try.f23 Try.prog h0 .normal ⟨#[x0, x1, x2, x3, x4, x5, x6, x7, x8, x9, x10, x11, x12, x13, x14, x15, x16, x17, x18, x19, x20, x21, x22, x23, x24, x25, x26, x27, x28, x29, x30, x31, x32, x33, x34, x35], h⟩ = fin h0 (some x0) h := by kernel_rfl
end Go.Am
namespace Go.Am
open Go.Proofs
set_option maxRecDepth 100000
noncomputable def c9_0 : Code := bodyC Try.f9 []
noncomputable def c9_1 : Code := bodyC Try.f9 [false]
noncomputable def c9_2 : Code := bodyC Try.f9 [true]
noncomputable def c9_3 : Code := bodyC Try.f9 [true, false]
noncomputable def c9_4 : Code := bodyC Try.f9 [true, true]
noncomputable def c9_5 : Code := bodyC Try.f9 [true, true, false]
noncomputable def c9_6 : Code := bodyC Try.f9 [true, true, true]
noncomputable def c9_7 : Code := bodyC Try.f9 [true, true, true, false]
noncomputable def c9_8 : Code := bodyC Try.f9 [true, true, true, true]
noncomputable def c9_9 : Code := bodyC Try.f9 [true, true, true, true, false]
noncomputable def c9_10 : Code := bodyC Try.f9 [true, true, true, true, true]
noncomputable def c9_11 : Code := bodyC Try.f9 [true, true, true, true, true, false]
noncomputable def c9_12 : Code := bodyC Try.f9 [true, true, true, true, true, true]
noncomputable def c9_13 : Code := bodyC Try.f9 [true, true, true, true, true, true, false]
noncomputable def c9_14 : Code := bodyC Try.f9 [true, true, true, true, true, true, true]
noncomputable def d9_0 : Array Oper := opsC (bodyC Try.f9 [true, true, true, true, true, true, true, false])
noncomputable def c9_15 : Code := bodyC Try.f9 [true, true, true, true, true, true, true, false]
noncomputable def c9_16 : Code := bodyC Try.f9 [true, true, true, true, true, true, true, true]
theorem c9_0_eq {β : Type} (x0 x1 x2 x3 x4 x5 x6 x7 x8 x9 x10 x11 x12 x13 x14 x15 x16 x17 x18 x19 x20 x21 x22 x23 x24 x25 x26 x27 x28 x29 x30 x31 x32 x33 x34 x35 x36 x37 x38 x39 x40 x41 x42 x43 x44 x45 x46 x47 x48 x49 x50 x51 x52 x53 x54 x55 x56 x57 x58 x59 x60 x61 x62 x63 x64 x65 x66 x67 x68 x69 x70 x71 x72 x73 x74 x75 x76 x77 x78 x79 x80 x81 x82 x83 x84 x85 x86 x87 x88 x89 x90 x91 x92 : Value) (h : Heap) (k : Ex → St → Option β) : codeK Try.prog (evC Try.prog) loopL c9_0 ⟨#[x0, x1, x2, x3, x4, x5, x6, x7, x8, x9, x10, x11, x12, x13, x14, x15, x16, x17, x18, x19, x20, x21, x22, x23, x24, x25, x26, x27, x28, x29, x30, x31, x32, x33, x34, x35, x36, x37, x38, x39, x40, x41, x42, x43, x44, x45, x46, x47, x48, x49, x50, x51, x52, x53, x54, x55, x56, x57, x58, x59, x60, x61, x62, x63, x64, x65, x66, x67, x68, x69, x70, x71, x72, x73, x74, x75, x76, x77, x78, x79, x80, x81, x82, x83, x84, x85, x86, x87, x88, x89, x90, x91, x92], h⟩ k =
codeK Try.prog (evC Try.prog) loopL c9_1 ⟨#[x0, x1, x2, x3, x4, x5, x6, x7, x8, x9, x10, x11, x12, x13, x14, x15, x16, x17, x18, x19, x20, x21, x22, x23, x24, x25, x26, x27, x28, x29, x30, x31, x32, x33, x34, x35, x36, x37, x38, x39, x40, x41, x42, x43, x44, x45, x46, x47, x48, x49, x50, x51, x52, x53, x54, x55, x56, x57, x58, x59, x60, x61, x62, x63, x64, x65, x66, x67, x68, x69, x70, x71, x72, x73, x74, x75, x76, x77, x78, x79, x80, x81, x82, x83, x84, x85, x86, x87, x88, x89, x90, x91, x92], h⟩ (seqK Try.prog (evC Try.prog) c9_2 k) := codeK_seq _ _ _ _ _ (by kernel_rfl) _ _
theorem c9_1_eq {β : Type} (x0 x1 x2 x3 x4 x5 x6 x7 x8 x9 x10 x11 x12 x13 x14 x15 x16 x17 x18 x19 x20 x21 x22 x23 x24 x25 x26 x27 x28 x29 x30 x31 x32 x33 x34 x35 x36 x37 x38 x39 x40 x41 x42 x43 x44 x45 x46 x47 x48 x49 x50 x51 x52 x53 x54 x55 x56 x57 x58 x59 x60 x61 x62 x63 x64 x65 x66 x67 x68 x69 x70 x71 x72 x73 x74 x75 x76 x77 x78 x79 x80 x81 x82 x83 x84 x85 x86 x87 x88 x89 x90 x91 x92 : Value) (h : Heap) (k : Ex → St → Option β) : codeK Try.prog (evC Try.prog) loopL c9_1 ⟨#[x0, x1, x2, x3, x4, x5, x6, x7, x8, x9, x10, x11, x12, x13, x14, x15, x16, x17, x18, x19, x20, x21, x22, x23, x24, x25, x26, x27, x28, x29, x30, x31, x32, x33, x34, x35, x36, x37, x38, x39, x40, x41, x42, x43, x44, x45, x46, x47, x48, x49, x50, x51, x52, x53, x54, x55, x56, x57, x58, x59, x60, x61, x62, x63, x64, x65, x66, x67, x68, x69, x70, x71, x72, x73, x74, x75, x76, x77, x78, x79, x80, x81, x82, x83, x84, x85, x86, x87, x88, x89, x90, x91, x92], h⟩ k =
k .normal ⟨#[x0, x1, x2, x3, x4, x5, (Go.Value.bool Bool.false), x7, x8, x9, x10, x11, x12, x13, x14, x15, x16, x17, x18, x19, x20, x21, x22, x23, x24, x25, x26, x27, x28, x29, x30, x31, x32, x33, x34, x35, x36, x37, x38, x39, x40, x41, x42, x43, x44, x45, x46, x47, x48, x49, x50, x51, x52, x53, x54, x55, x56, x57, x58, x59, x60, x61, x62, x63, x64, x65, x66, x67, x68, x69, x70, x71, x72, x73, x74, x75, x76, x77, x78, x79, x80, x81, x82, x83, x84, x85, x86, x87, x88, x89, x90, x91, x92], h⟩ := by kernel_rfl
theorem c9_2_eq {β : Type} (x0 x1 x2 x3 x4 x5 x6 x7 x8 x9 x10 x11 x12 x13 x14 x15 x16 x17 x18 x19 x20 x21 x22 x23 x24 x25 x26 x27 x28 x29 x30 x31 x32 x33 x34 x35 x36 x37 x38 x39 x40 x41 x42 x43 x44 x45 x46 x47 x48 x49 x50 x51 x52 x53 x54 x55 x56 x57 x58 x59 x60 x61 x62 x63 x64 x65 x66 x67 x68 x69 x70 x71 x72 x73 x74 x75 x76 x77 x78 x79 x80 x81 x82 x83 x84 x85 x86 x87 x88 x89 x90 x91 x92 : Value) (h : Heap) (k : Ex → St → Option β) : codeK Try.prog (evC Try.prog) loopL c9_2 ⟨#[x0, x1, x2, x3, x4, x5, x6, x7, x8, x9, x10, x11, x12, x13, x14, x15, x16, x17, x18, x19, x20, x21, x22, x23, x24, x25, x26, x27, x28, x29, x30, x31, x32, x33, x34, x35, x36, x37, x38, x39, x40, x41, x42, x43, x44, x45, x46, x47, x48, x49, x50, x51, x52, x53, x54, x55, x56, x57, x58, x59, x60, x61, x62, x63, x64, x65, x66, x67, x68, x69, x70, x71, x72, x73, x74, x75, x76, x77, x78, x79, x80, x81, x82, x83, x84, x85, x86, x87, x88, x89, x90, x91, x92], h⟩ k =
codeK Try.prog (evC Try.prog) loopL c9_3 ⟨#[x0, x1, x2, x3, x4, x5, x6, x7, x8, x9, x10, x11, x12, x13, x14, x15, x16, x17, x18, x19, x20, x21, x22, x23, x24, x25, x26, x27, x28, x29, x30, x31, x32, x33, x34, x35, x36, x37, x38, x39, x40, x41, x42, x43, x44, x45, x46, x47, x48, x49, x50, x51, x52, x53, x54, x55, x56, x57, x58, x59, x60, x61, x62, x63, x64, x65, x66, x67, x68, x69, x70, x71, x72, x73, x74, x75, x76, x77, x78, x79, x80, x81, x82, x83, x84, x85, x86, x87, x88, x89, x90, x91, x92], h⟩ (seqK Try.prog (evC Try.prog) c9_4 k) := codeK_seq _ _ _ _ _ (by kernel_rfl) _ _
theorem c9_3_eq {β : Type} (x0 x1 x2 x3 x4 x5 x6 x7 x8 x9 x10 x11 x12 x13 x14 x15 x16 x17 x18 x19 x20 x21 x22 x23 x24 x25 x26 x27 x28 x29 x30 x31 x32 x33 x34 x35 x36 x37 x38 x39 x40 x41 x42 x43 x44 x45 x46 x47 x48 x49 x50 x51 x52 x53 x54 x55 x56 x57 x58 x59 x60 x61 x62 x63 x64 x65 x66 x67 x68 x69 x70 x71 x72 x73 x74 x75 x76 x77 x78 x79 x80 x81 x82 x83 x84 x85 x86 x87 x88 x89 x90 x91 x92 : Value) (h : Heap) (k : Ex → St → Option β) : codeK Try.prog (evC Try.prog) loopL c9_3 ⟨#[x0, x1, x2, x3, x4, x5, x6, x7, x8, x9, x10, x11, x12, x13, x14, x15, x16, x17, x18, x19, x20, x21, x22, x23, x24, x25, x26, x27, x28, x29, x30, x31, x32, x33, x34, x35, x36, x37, x38, x39, x40, x41, x42, x43, x44, x45, x46, x47, x48, x49, x50, x51, x52, x53, x54, x55, x56, x57, x58, x59, x60, x61, x62, x63, x64, x65, x66, x67, x68, x69, x70, x71, x72, x73, x74, x75, x76, x77, x78, x79, x80, x81, x82, x83, x84, x85, x86, x87, x88, x89, x90, x91, x92], h⟩ k =
obH (evC Try.prog 23 #[] h) fun t15_0 h1 =>
(unV Try.prog .not t15_0).bind fun t16_2 =>
cnd t16_2 (
k .ret ⟨#[x0, x1, x2, x3, x4, x5, (Go.Value.bool Bool.false), x7, x8, x9, x10, x11, x12, x13, x14, t15_0, t16_2, x17, x18, x19, x20, x21, x22, x23, x24, x25, x26, x27, x28, x29, x30, x31, x32, x33, x34, x35, x36, x37, x38, x39, x40, x41, x42, x43, x44, x45, x46, x47, x48, x49, x50, x51, x52, x53, x54, x55, x56, x57, x58, x59, x60, x61, x62, x63, x64, x65, x66, x67, x68, x69, x70, x71, x72, x73, x74, x75, x76, x77, x78, x79, x80, x81, x82, x83, x84, x85, x86, x87, x88, x89, x90, x91, x92], h1⟩) (
k .normal ⟨#[x0, x1, x2, x3, x4, x5, x6, x7, x8, x9, x10, x11, x12, x13, x14, t15_0, t16_2, x17, x18, x19, x20, x21, x22, x23, x24, x25, x26, x27, x28, x29, x30, x31, x32, x33, x34, x35, x36, x37, x38, x39, x40, x41, x42, x43, x44, x45, x46, x47, x48, x49, x50, x51, x52, x53, x54, x55, x56, x57, x58, x59, x60, x61, x62, x63, x64, x65, x66, x67, x68, x69, x70, x71, x72, x73, x74, x75, x76, x77, x78, x79, x80, x81, x82, x83, x84, x85, x86, x87, x88, x89, x90, x91, x92], h1⟩) := by kernel_rfl
theorem c9_4_eq {β : Type} (x0 x1 x2 x3 x4 x5 x6 x7 x8 x9 x10 x11 x12 x13 x14 x15 x16 x17 x18 x19 x20 x21 x22 x23 x24 x25 x26 x27 x28 x29 x30 x31 x32 x33 x34 x35 x36 x37 x38 x39 x40 x41 x42 x43 x44 x45 x46 x47 x48 x49 x50 x51 x52 x53 x54 x55 x56 x57 x58 x59 x60 x61 x62 x63 x64 x65 x66 x67 x68 x69 x70 x71 x72 x73 x74 x75 x76 x77 x78 x79 x80 x81 x82 x83 x84 x85 x86 x87 x88 x89 x90 x91 x92 : Value) (h : Heap) (k : Ex → St → Option β) : codeK Try.prog (evC Try.prog) loopL c9_4 ⟨#[x0, x1, x2, x3, x4, x5, x6, x7, x8, x9, x10, x11, x12, x13, x14, x15, x16, x17, x18, x19, x20, x21, x22, x23, x24, x25, x26, x27, x28, x29, x30, x31, x32, x33, x34, x35, x36, x37, x38, x39, x40, x41, x42, x43, x44, x45, x46, x47, x48, x49, x50, x51, x52, x53, x54, x55, x56, x57, x58, x59, x60, x61, x62, x63, x64, x65, x66, x67, x68, x69, x70, x71, x72, x73, x74, x75, x76, x77, x78, x79, x80, x81, x82, x83, x84, x85, x86, x87, x88, x89, x90, x91, x92], h⟩ k =
codeK Try.prog (evC Try.prog) loopL c9_5 ⟨#[x0, x1, x2, x3, x4, x5, x6, x7, x8, x9, x10, x11, x12, x13, x14, x15, x16, x17, x18, x19, x20, x21, x22, x23, x24, x25, x26, x27, x28, x29, x30, x31, x32, x33, x34, x35, x36, x37, x38, x39, x40, x41, x42, x43, x44, x45, x46, x47, x48, x49, x50, x51, x52, x53, x54, x55, x56, x57, x58, x59, x60, x61, x62, x63, x64, x65, x66, x67, x68, x69, x70, x71, x72, x73, x74, x75, x76, x77, x78, x79, x80, x81, x82, x83, x84, x85, x86, x87, x88, x89, x90, x91, x92], h⟩ (seqK Try.prog (evC Try.prog) c9_6 k) := codeK_seq _ _ _ _ _ (by kernel_rfl) _ _
theorem c9_5_eq {β : Type} (x0 x1 x2 x3 x4 x5 x6 x7 x8 x9 x10 x11 x12 x13 x14 x15 x16 x17 x18 x19 x20 x21 x22 x23 x24 x25 x26 x27 x28 x29 x30 x31 x32 x33 x34 x35 x36 x37 x38 x39 x40 x41 x42 x43 x44 x45 x46 x47 x48 x49 x50 x51 x52 x53 x54 x55 x56 x57 x58 x59 x60 x61 x62 x63 x64 x65 x66 x67 x68 x69 x70 x71 x72 x73 x74 x75 x76 x77 x78 x79 x80 x81 x82 x83 x84 x85 x86 x87 x88 x89 x90 x91 x92 : Value) (h : Heap) (k : Ex → St → Option β) : codeK Try.prog (evC Try.prog) loopL c9_5 ⟨#[x0, x1, x2, x3, x4, x5, x6, x7, x8, x9, x10, x11, x12, x13, x14, x15, x16, x17, x18, x19, x20, x21, x22, x23, x24, x25, x26, x27, x28, x29, x30, x31, x32, x33, x34, x35, x36, x37, x38, x39, x40, x41, x42, x43, x44, x45, x46, x47, x48, x49, x50, x51, x52, x53, x54, x55, x56, x57, x58, x59, x60, x61, x62, x63, x64, x65, x66, x67, x68, x69, x70, x71, x72, x73, x74, x75, x76, x77, x78, x79, x80, x81, x82, x83, x84, x85, x86, x87, x88, x89, x90, x91, x92], h⟩ k =
obH (evC Try.prog 30 #[x1] h) fun t18_3 h4 =>
obH (gdH (wt t18_3 false) h4 (evC Try.prog 30 #[(gdV (wt t18_3 false) x2)] h4)) fun t21_5 h6 =>
(pickV t18_3 (Go.Value.bool Bool.true) t21_5).bind fun t22_7 =>
obH (gdH (wt t22_7 false) h6 (evC Try.prog 31 #[(gdV (wt t22_7 false) x0), (gdV (wt t22_7 false) x1)] h6)) fun t26_8 h9 =>
(gd (wt t22_7 false) (unV Try.prog .not t26_8)).bind fun t27_10 =>
(pickV t22_7 (Go.Value.bool Bool.true) t27_10).bind fun t28_11 =>
obH (gdH (wt t28_11 false) h9 (evC Try.prog 31 #[(gdV (wt t28_11 false) x0), (gdV (wt t28_11 false) x2)] h9)) fun t32_12 h13 =>
(gd (wt t28_11 false) (unV Try.prog .not t32_12)).bind fun t33_14 =>
(pickV t28_11 (Go.Value.bool Bool.true) t33_14).bind fun t34_15 =>
cnd t34_15 (
k .ret ⟨#[x0, x1, x2, x3, x4, x5, (Go.Value.bool Bool.true), x7, x8, x9, x10, x11, x12, x13, x14, x15, x16, x1, t18_3, t18_3, (gdV (wt t18_3 false) x2), t21_5, t22_7, t22_7, (gdV (wt t22_7 false) x0), (gdV (wt t22_7 false) x1), t26_8, t27_10, t28_11, t28_11, (gdV (wt t28_11 false) x0), (gdV (wt t28_11 false) x2), t32_12, t33_14, t34_15, x35, x36, x37, x38, x39, x40, x41, x42, x43, x44, x45, x46, x47, x48, x49, x50, x51, x52, x53, x54, x55, x56, x57, x58, x59, x60, x61, x62, x63, x64, x65, x66, x67, x68, x69, x70, x71, x72, x73, x74, x75, x76, x77, x78, x79, x80, x81, x82, x83, x84, x85, x86, x87, x88, x89, x90, x91, x92], h13⟩) (
k .normal ⟨#[x0, x1, x2, x3, x4, x5, x6, x7, x8, x9, x10, x11, x12, x13, x14, x15, x16, x1, t18_3, t18_3, (gdV (wt t18_3 false) x2), t21_5, t22_7, t22_7, (gdV (wt t22_7 false) x0), (gdV (wt t22_7 false) x1), t26_8, t27_10, t28_11, t28_11, (gdV (wt t28_11 false) x0), (gdV (wt t28_11 false) x2), t32_12, t33_14, t34_15, x35, x36, x37, x38, x39, x40, x41, x42, x43, x44, x45, x46, x47, x48, x49, x50, x51, x52, x53, x54, x55, x56, x57, x58, x59, x60, x61, x62, x63, x64, x65, x66, x67, x68, x69, x70, x71, x72, x73, x74, x75, x76, x77, x78, x79, x80, x81, x82, x83, x84, x85, x86, x87, x88, x89, x90, x91, x92], h13⟩) := by kernel_rfl
theorem c9_6_eq {β : Type} (x0 x1 x2 x3 x4 x5 x6 x7 x8 x9 x10 x11 x12 x13 x14 x15 x16 x17 x18 x19 x20 x21 x22 x23 x24 x25 x26 x27 x28 x29 x30 x31 x32 x33 x34 x35 x36 x37 x38 x39 x40 x41 x42 x43 x44 x45 x46 x47 x48 x49 x50 x51 x52 x53 x54 x55 x56 x57 x58 x59 x60 x61 x62 x63 x64 x65 x66 x67 x68 x69 x70 x71 x72 x73 x74 x75 x76 x77 x78 x79 x80 x81 x82 x83 x84 x85 x86 x87 x88 x89 x90 x91 x92 : Value) (h : Heap) (k : Ex → St → Option β) : codeK Try.prog (evC Try.prog) loopL c9_6 ⟨#[x0, x1, x2, x3, x4, x5, x6, x7, x8, x9, x10, x11, x12, x13, x14, x15, x16, x17, x18, x19, x20, x21, x22, x23, x24, x25, x26, x27, x28, x29, x30, x31, x32, x33, x34, x35, x36, x37, x38, x39, x40, x41, x42, x43, x44, x45, x46, x47, x48, x49, x50, x51, x52, x53, x54, x55, x56, x57, x58, x59, x60, x61, x62, x63, x64, x65, x66, x67, x68, x69, x70, x71, x72, x73, x74, x75, x76, x77, x78, x79, x80, x81, x82, x83, x84, x85, x86, x87, x88, x89, x90, x91, x92], h⟩ k =
codeK Try.prog (evC Try.prog) loopL c9_7 ⟨#[x0, x1, x2, x3, x4, x5, x6, x7, x8, x9, x10, x11, x12, x13, x14, x15, x16, x17, x18, x19, x20, x21, x22, x23, x24, x25, x26, x27, x28, x29, x30, x31, x32, x33, x34, x35, x36, x37, x38, x39, x40, x41, x42, x43, x44, x45, x46, x47, x48, x49, x50, x51, x52, x53, x54, x55, x56, x57, x58, x59, x60, x61, x62, x63, x64, x65, x66, x67, x68, x69, x70, x71, x72, x73, x74, x75, x76, x77, x78, x79, x80, x81, x82, x83, x84, x85, x86, x87, x88, x89, x90, x91, x92], h⟩ (seqK Try.prog (evC Try.prog) c9_8 k) := codeK_seq _ _ _ _ _ (by kernel_rfl) _ _
theorem c9_7_eq {β : Type} (x0 x1 x2 x3 x4 x5 x6 x7 x8 x9 x10 x11 x12 x13 x14 x15 x16 x17 x18 x19 x20 x21 x22 x23 x24 x25 x26 x27 x28 x29 x30 x31 x32 x33 x34 x35 x36 x37 x38 x39 x40 x41 x42 x43 x44 x45 x46 x47 x48 x49 x50 x51 x52 x53 x54 x55 x56 x57 x58 x59 x60 x61 x62 x63 x64 x65 x66 x67 x68 x69 x70 x71 x72 x73 x74 x75 x76 x77 x78 x79 x80 x81 x82 x83 x84 x85 x86 x87 x88 x89 x90 x91 x92 : Value) (h : Heap) (k : Ex → St → Option β) : codeK Try.prog (evC Try.prog) loopL c9_7 ⟨#[x0, x1, x2, x3, x4, x5, x6, x7, x8, x9, x10, x11, x12, x13, x14, x15, x16, x17, x18, x19, x20, x21, x22, x23, x24, x25, x26, x27, x28, x29, x30, x31, x32, x33, x34, x35, x36, x37, x38, x39, x40, x41, x42, x43, x44, x45, x46, x47, x48, x49, x50, x51, x52, x53, x54, x55, x56, x57, x58, x59, x60, x61, x62, x63, x64, x65, x66, x67, x68, x69, x70, x71, x72, x73, x74, x75, x76, x77, x78, x79, x80, x81, x82, x83, x84, x85, x86, x87, x88, x89, x90, x91, x92], h⟩ k =
obH (evC Try.prog 32 #[x0, x1] h) fun t37_16 h17 =>
obH (evC Try.prog 32 #[x0, x2] h17) fun t40_18 h19 =>
obH (allocV Try.prog 45 h19) fun t7_20 h21 =>
obH (allocV Try.prog 45 h21) fun t8_22 h23 =>
(storeV Try.prog 45 t7_20 t37_16 h23).bind fun h24 =>
(storeV Try.prog 45 t8_22 t40_18 h24).bind fun h25 =>
k .normal ⟨#[x0, x1, x2, x3, x4, x5, x6, t7_20, t8_22, x9, x10, x11, x12, x13, x14, x15, x16, x17, x18, x19, x20, x21, x22, x23, x24, x25, x26, x27, x28, x29, x30, x31, x32, x33, x34, x0, x1, t37_16, x0, x2, t40_18, x41, x42, x43, x44, x45, x46, x47, x48, x49, x50, x51, x52, x53, x54, x55, x56, x57, x58, x59, x60, x61, x62, x63, x64, x65, x66, x67, x68, x69, x70, x71, x72, x73, x74, x75, x76, x77, x78, x79, x80, x81, x82, x83, x84, x85, x86, x87, x88, x89, x90, x91, x92], h25⟩ := by kernel_rfl
theorem c9_8_eq {β : Type} (x0 x1 x2 x3 x4 x5 x6 x7 x8 x9 x10 x11 x12 x13 x14 x15 x16 x17 x18 x19 x20 x21 x22 x23 x24 x25 x26 x27 x28 x29 x30 x31 x32 x33 x34 x35 x36 x37 x38 x39 x40 x41 x42 x43 x44 x45 x46 x47 x48 x49 x50 x51 x52 x53 x54 x55 x56 x57 x58 x59 x60 x61 x62 x63 x64 x65 x66 x67 x68 x69 x70 x71 x72 x73 x74 x75 x76 x77 x78 x79 x80 x81 x82 x83 x84 x85 x86 x87 x88 x89 x90 x91 x92 : Value) (h : Heap) (k : Ex → St → Option β) : codeK Try.prog (evC Try.prog) loopL c9_8 ⟨#[x0, x1, x2, x3, x4, x5, x6, x7, x8, x9, x10, x11, x12, x13, x14, x15, x16, x17, x18, x19, x20, x21, x22, x23, x24, x25, x26, x27, x28, x29, x30, x31, x32, x33, x34, x35, x36, x37, x38, x39, x40, x41, x42, x43, x44, x45, x46, x47, x48, x49, x50, x51, x52, x53, x54, x55, x56, x57, x58, x59, x60, x61, x62, x63, x64, x65, x66, x67, x68, x69, x70, x71, x72, x73, x74, x75, x76, x77, x78, x79, x80, x81, x82, x83, x84, x85, x86, x87, x88, x89, x90, x91, x92], h⟩ k =
codeK Try.prog (evC Try.prog) loopL c9_9 ⟨#[x0, x1, x2, x3, x4, x5, x6, x7, x8, x9, x10, x11, x12, x13, x14, x15, x16, x17, x18, x19, x20, x21, x22, x23, x24, x25, x26, x27, x28, x29, x30, x31, x32, x33, x34, x35, x36, x37, x38, x39, x40, x41, x42, x43, x44, x45, x46, x47, x48, x49, x50, x51, x52, x53, x54, x55, x56, x57, x58, x59, x60, x61, x62, x63, x64, x65, x66, x67, x68, x69, x70, x71, x72, x73, x74, x75, x76, x77, x78, x79, x80, x81, x82, x83, x84, x85, x86, x87, x88, x89, x90, x91, x92], h⟩ (seqK Try.prog (evC Try.prog) c9_10 k) := codeK_seq _ _ _ _ _ (by kernel_rfl) _ _
theorem c9_9_eq {β : Type} (x0 x1 x2 x3 x4 x5 x6 x7 x8 x9 x10 x11 x12 x13 x14 x15 x16 x17 x18 x19 x20 x21 x22 x23 x24 x25 x26 x27 x28 x29 x30 x31 x32 x33 x34 x35 x36 x37 x38 x39 x40 x41 x42 x43 x44 x45 x46 x47 x48 x49 x50 x51 x52 x53 x54 x55 x56 x57 x58 x59 x60 x61 x62 x63 x64 x65 x66 x67 x68 x69 x70 x71 x72 x73 x74 x75 x76 x77 x78 x79 x80 x81 x82 x83 x84 x85 x86 x87 x88 x89 x90 x91 x92 : Value) (h : Heap) (k : Ex → St → Option β) : codeK Try.prog (evC Try.prog) loopL c9_9 ⟨#[x0, x1, x2, x3, x4, x5, x6, x7, x8, x9, x10, x11, x12, x13, x14, x15, x16, x17, x18, x19, x20, x21, x22, x23, x24, x25, x26, x27, x28, x29, x30, x31, x32, x33, x34, x35, x36, x37, x38, x39, x40, x41, x42, x43, x44, x45, x46, x47, x48, x49, x50, x51, x52, x53, x54, x55, x56, x57, x58, x59, x60, x61, x62, x63, x64, x65, x66, x67, x68, x69, x70, x71, x72, x73, x74, x75, x76, x77, x78, x79, x80, x81, x82, x83, x84, x85, x86, x87, x88, x89, x90, x91, x92], h⟩ k =
(loadV Try.prog 45 x7 h).bind fun t42_26 =>
(loadV Try.prog 45 x8 h).bind fun t43_27 =>
obH (evC Try.prog 33 #[t42_26, t43_27] h) fun t44_28 h29 =>
(extractV t44_28 0).bind fun t45_30 =>
(extractV t44_28 1).bind fun t46_31 =>
obH (allocV Try.prog 45 h29) fun t9_32 h33 =>
(storeV Try.prog 45 t9_32 t45_30 h33).bind fun h34 =>
k .normal ⟨#[x0, x1, x2, x3, x4, x5, x6, x7, x8, t9_32, t46_31, x11, x12, x13, x14, x15, x16, x17, x18, x19, x20, x21, x22, x23, x24, x25, x26, x27, x28, x29, x30, x31, x32, x33, x34, x35, x36, x37, x38, x39, x40, t44_28, t42_26, t43_27, t44_28, t45_30, t46_31, x47, x48, x49, x50, x51, x52, x53, x54, x55, x56, x57, x58, x59, x60, x61, x62, x63, x64, x65, x66, x67, x68, x69, x70, x71, x72, x73, x74, x75, x76, x77, x78, x79, x80, x81, x82, x83, x84, x85, x86, x87, x88, x89, x90, x91, x92], h34⟩ := by kernel_rfl
theorem c9_10_eq {β : Type} (x0 x1 x2 x3 x4 x5 x6 x7 x8 x9 x10 x11 x12 x13 x14 x15 x16 x17 x18 x19 x20 x21 x22 x23 x24 x25 x26 x27 x28 x29 x30 x31 x32 x33 x34 x35 x36 x37 x38 x39 x40 x41 x42 x43 x44 x45 x46 x47 x48 x49 x50 x51 x52 x53 x54 x55 x56 x57 x58 x59 x60 x61 x62 x63 x64 x65 x66 x67 x68 x69 x70 x71 x72 x73 x74 x75 x76 x77 x78 x79 x80 x81 x82 x83 x84 x85 x86 x87 x88 x89 x90 x91 x92 : Value) (h : Heap) (k : Ex → St → Option β) : codeK Try.prog (evC Try.prog) loopL c9_10 ⟨#[x0, x1, x2, x3, x4, x5, x6, x7, x8, x9, x10, x11, x12, x13, x14, x15, x16, x17, x18, x19, x20, x21, x22, x23, x24, x25, x26, x27, x28, x29, x30, x31, x32, x33, x34, x35, x36, x37, x38, x39, x40, x41, x42, x43, x44, x45, x46, x47, x48, x49, x50, x51, x52, x53, x54, x55, x56, x57, x58, x59, x60, x61, x62, x63, x64, x65, x66, x67, x68, x69, x70, x71, x72, x73, x74, x75, x76, x77, x78, x79, x80, x81, x82, x83, x84, x85, x86, x87, x88, x89, x90, x91, x92], h⟩ k =
codeK Try.prog (evC Try.prog) loopL c9_11 ⟨#[x0, x1, x2, x3, x4, x5, x6, x7, x8, x9, x10, x11, x12, x13, x14, x15, x16, x17, x18, x19, x20, x21, x22, x23, x24, x25, x26, x27, x28, x29, x30, x31, x32, x33, x34, x35, x36, x37, x38, x39, x40, x41, x42, x43, x44, x45, x46, x47, x48, x49, x50, x51, x52, x53, x54, x55, x56, x57, x58, x59, x60, x61, x62, x63, x64, x65, x66, x67, x68, x69, x70, x71, x72, x73, x74, x75, x76, x77, x78, x79, x80, x81, x82, x83, x84, x85, x86, x87, x88, x89, x90, x91, x92], h⟩ (seqK Try.prog (evC Try.prog) c9_12 k) := codeK_seq _ _ _ _ _ (by kernel_rfl) _ _
theorem c9_11_eq {β : Type} (x0 x1 x2 x3 x4 x5 x6 x7 x8 x9 x10 x11 x12 x13 x14 x15 x16 x17 x18 x19 x20 x21 x22 x23 x24 x25 x26 x27 x28 x29 x30 x31 x32 x33 x34 x35 x36 x37 x38 x39 x40 x41 x42 x43 x44 x45 x46 x47 x48 x49 x50 x51 x52 x53 x54 x55 x56 x57 x58 x59 x60 x61 x62 x63 x64 x65 x66 x67 x68 x69 x70 x71 x72 x73 x74 x75 x76 x77 x78 x79 x80 x81 x82 x83 x84 x85 x86 x87 x88 x89 x90 x91 x92 : Value) (h : Heap) (k : Ex → St → Option β) : codeK Try.prog (evC Try.prog) loopL c9_11 ⟨#[x0, x1, x2, x3, x4, x5, x6, x7, x8, x9, x10, x11, x12, x13, x14, x15, x16, x17, x18, x19, x20, x21, x22, x23, x24, x25, x26, x27, x28, x29, x30, x31, x32, x33, x34, x35, x36, x37, x38, x39, x40, x41, x42, x43, x44, x45, x46, x47, x48, x49, x50, x51, x52, x53, x54, x55, x56, x57, x58, x59, x60, x61, x62, x63, x64, x65, x66, x67, x68, x69, x70, x71, x72, x73, x74, x75, x76, x77, x78, x79, x80, x81, x82, x83, x84, x85, x86, x87, x88, x89, x90, x91, x92], h⟩ k =
(loadV Try.prog 45 x8 h).bind fun t48_35 =>
(loadV Try.prog 45 x7 h).bind fun t49_36 =>
obH (evC Try.prog 33 #[t48_35, t49_36] h) fun t50_37 h38 =>
(extractV t50_37 0).bind fun t51_39 =>
(extractV t50_37 1).bind fun t52_40 =>
obH (allocV Try.prog 45 h38) fun t11_41 h42 =>
(storeV Try.prog 45 t11_41 t51_39 h42).bind fun h43 =>
k .normal ⟨#[x0, x1, x2, x3, x4, x5, x6, x7, x8, x9, x10, t11_41, t52_40, x13, x14, x15, x16, x17, x18, x19, x20, x21, x22, x23, x24, x25, x26, x27, x28, x29, x30, x31, x32, x33, x34, x35, x36, x37, x38, x39, x40, x41, x42, x43, x44, x45, x46, t50_37, t48_35, t49_36, t50_37, t51_39, t52_40, x53, x54, x55, x56, x57, x58, x59, x60, x61, x62, x63, x64, x65, x66, x67, x68, x69, x70, x71, x72, x73, x74, x75, x76, x77, x78, x79, x80, x81, x82, x83, x84, x85, x86, x87, x88, x89, x90, x91, x92], h43⟩ := by kernel_rfl
theorem c9_12_eq {β : Type} (x0 x1 x2 x3 x4 x5 x6 x7 x8 x9 x10 x11 x12 x13 x14 x15 x16 x17 x18 x19 x20 x21 x22 x23 x24 x25 x26 x27 x28 x29 x30 x31 x32 x33 x34 x35 x36 x37 x38 x39 x40 x41 x42 x43 x44 x45 x46 x47 x48 x49 x50 x51 x52 x53 x54 x55 x56 x57 x58 x59 x60 x61 x62 x63 x64 x65 x66 x67 x68 x69 x70 x71 x72 x73 x74 x75 x76 x77 x78 x79 x80 x81 x82 x83 x84 x85 x86 x87 x88 x89 x90 x91 x92 : Value) (h : Heap) (k : Ex → St → Option β) : codeK Try.prog (evC Try.prog) loopL c9_12 ⟨#[x0, x1, x2, x3, x4, x5, x6, x7, x8, x9, x10, x11, x12, x13, x14, x15, x16, x17, x18, x19, x20, x21, x22, x23, x24, x25, x26, x27, x28, x29, x30, x31, x32, x33, x34, x35, x36, x37, x38, x39, x40, x41, x42, x43, x44, x45, x46, x47, x48, x49, x50, x51, x52, x53, x54, x55, x56, x57, x58, x59, x60, x61, x62, x63, x64, x65, x66, x67, x68, x69, x70, x71, x72, x73, x74, x75, x76, x77, x78, x79, x80, x81, x82, x83, x84, x85, x86, x87, x88, x89, x90, x91, x92], h⟩ k =
codeK Try.prog (evC Try.prog) loopL c9_13 ⟨#[x0, x1, x2, x3, x4, x5, x6, x7, x8, x9, x10, x11, x12, x13, x14, x15, x16, x17, x18, x19, x20, x21, x22, x23, x24, x25, x26, x27, x28, x29, x30, x31, x32, x33, x34, x35, x36, x37, x38, x39, x40, x41, x42, x43, x44, x45, x46, x47, x48, x49, x50, x51, x52, x53, x54, x55, x56, x57, x58, x59, x60, x61, x62, x63, x64, x65, x66, x67, x68, x69, x70, x71, x72, x73, x74, x75, x76, x77, x78, x79, x80, x81, x82, x83, x84, x85, x86, x87, x88, x89, x90, x91, x92], h⟩ (seqK Try.prog (evC Try.prog) c9_14 k) := codeK_seq _ _ _ _ _ (by kernel_rfl) _ _
theorem c9_13_eq {β : Type} (x0 x1 x2 x3 x4 x5 x6 x7 x8 x9 x10 x11 x12 x13 x14 x15 x16 x17 x18 x19 x20 x21 x22 x23 x24 x25 x26 x27 x28 x29 x30 x31 x32 x33 x34 x35 x36 x37 x38 x39 x40 x41 x42 x43 x44 x45 x46 x47 x48 x49 x50 x51 x52 x53 x54 x55 x56 x57 x58 x59 x60 x61 x62 x63 x64 x65 x66 x67 x68 x69 x70 x71 x72 x73 x74 x75 x76 x77 x78 x79 x80 x81 x82 x83 x84 x85 x86 x87 x88 x89 x90 x91 x92 : Value) (h : Heap) (k : Ex → St → Option β) : codeK Try.prog (evC Try.prog) loopL c9_13 ⟨#[x0, x1, x2, x3, x4, x5, x6, x7, x8, x9, x10, x11, x12, x13, x14, x15, x16, x17, x18, x19, x20, x21, x22, x23, x24, x25, x26, x27, x28, x29, x30, x31, x32, x33, x34, x35, x36, x37, x38, x39, x40, x41, x42, x43, x44, x45, x46, x47, x48, x49, x50, x51, x52, x53, x54, x55, x56, x57, x58, x59, x60, x61, x62, x63, x64, x65, x66, x67, x68, x69, x70, x71, x72, x73, x74, x75, x76, x77, x78, x79, x80, x81, x82, x83, x84, x85, x86, x87, x88, x89, x90, x91, x92], h⟩ k =
(loadV Try.prog 45 x9 h).bind fun t54_44 =>
(loadV Try.prog 45 x7 h).bind fun t55_45 =>
obH (evC Try.prog 33 #[t54_44, t55_45] h) fun t56_46 h47 =>
(extractV t56_46 0).bind fun t57_48 =>
(extractV t56_46 1).bind fun t58_49 =>
obH (allocV Try.prog 45 h47) fun t13_50 h51 =>
(storeV Try.prog 45 t13_50 t57_48 h51).bind fun h52 =>
k .normal ⟨#[x0, x1, x2, x3, x4, x5, x6, x7, x8, x9, x10, x11, x12, t13_50, t58_49, x15, x16, x17, x18, x19, x20, x21, x22, x23, x24, x25, x26, x27, x28, x29, x30, x31, x32, x33, x34, x35, x36, x37, x38, x39, x40, x41, x42, x43, x44, x45, x46, x47, x48, x49, x50, x51, x52, t56_46, t54_44, t55_45, t56_46, t57_48, t58_49, x59, x60, x61, x62, x63, x64, x65, x66, x67, x68, x69, x70, x71, x72, x73, x74, x75, x76, x77, x78, x79, x80, x81, x82, x83, x84, x85, x86, x87, x88, x89, x90, x91, x92], h52⟩ := by kernel_rfl
theorem c9_14_eq {β : Type} (x0 x1 x2 x3 x4 x5 x6 x7 x8 x9 x10 x11 x12 x13 x14 x15 x16 x17 x18 x19 x20 x21 x22 x23 x24 x25 x26 x27 x28 x29 x30 x31 x32 x33 x34 x35 x36 x37 x38 x39 x40 x41 x42 x43 x44 x45 x46 x47 x48 x49 x50 x51 x52 x53 x54 x55 x56 x57 x58 x59 x60 x61 x62 x63 x64 x65 x66 x67 x68 x69 x70 x71 x72 x73 x74 x75 x76 x77 x78 x79 x80 x81 x82 x83 x84 x85 x86 x87 x88 x89 x90 x91 x92 : Value) (h : Heap) (k : Ex → St → Option β) : codeK Try.prog (evC Try.prog) loopL c9_14 ⟨#[x0, x1, x2, x3, x4, x5, x6, x7, x8, x9, x10, x11, x12, x13, x14, x15, x16, x17, x18, x19, x20, x21, x22, x23, x24, x25, x26, x27, x28, x29, x30, x31, x32, x33, x34, x35, x36, x37, x38, x39, x40, x41, x42, x43, x44, x45, x46, x47, x48, x49, x50, x51, x52, x53, x54, x55, x56, x57, x58, x59, x60, x61, x62, x63, x64, x65, x66, x67, x68, x69, x70, x71, x72, x73, x74, x75, x76, x77, x78, x79, x80, x81, x82, x83, x84, x85, x86, x87, x88, x89, x90, x91, x92], h⟩ k =
codeK Try.prog (evC Try.prog) loopL c9_15 ⟨#[x0, x1, x2, x3, x4, x5, x6, x7, x8, x9, x10, x11, x12, x13, x14, x15, x16, x17, x18, x19, x20, x21, x22, x23, x24, x25, x26, x27, x28, x29, x30, x31, x32, x33, x34, x35, x36, x37, x38, x39, x40, x41, x42, x43, x44, x45, x46, x47, x48, x49, x50, x51, x52, x53, x54, x55, x56, x57, x58, x59, x60, x61, x62, x63, x64, x65, x66, x67, x68, x69, x70, x71, x72, x73, x74, x75, x76, x77, x78, x79, x80, x81, x82, x83, x84, x85, x86, x87, x88, x89, x90, x91, x92], h⟩ (seqK Try.prog (evC Try.prog) c9_16 k) := codeK_seq _ _ _ _ _ (by kernel_rfl) _ _
theorem d9_0_0 {β : Type} (x0 x1 x2 x3 x4 x5 x6 x7 x8 x9 x10 x11 x12 x13 x14 x15 x16 x17 x18 x19 x20 x21 x22 x23 x24 x25 x26 x27 x28 x29 x30 x31 x32 x33 x34 x35 x36 x37 x38 x39 x40 x41 x42 x43 x44 x45 x46 x47 x48 x49 x50 x51 x52 x53 x54 x55 x56 x57 x58 x59 x60 x61 x62 x63 x64 x65 x66 x67 x68 x69 x70 x71 x72 x73 x74 x75 x76 x77 x78 x79 x80 x81 x82 x83 x84 x85 x86 x87 x88 x89 x90 x91 x92 : Value) (h : Heap) (r m : List Nat) (k : St → Option β) : regD Try.prog (evC Try.prog) d9_0 0 ⟨#[x0, x1, x2, x3, x4, x5, x6, x7, x8, x9, x10, x11, x12, x13, x14, x15, x16, x17, x18, x19, x20, x21, x22, x23, x24, x25, x26, x27, x28, x29, x30, x31, x32, x33, x34, x35, x36, x37, x38, x39, x40, x41, x42, x43, x44, x45, x46, x47, x48, x49, x50, x51, x52, x53, x54, x55, x56, x57, x58, x59, x60, x61, x62, x63, x64, x65, x66, x67, x68, x69, x70, x71, x72, x73, x74, x75, x76, x77, x78, x79, x80, x81, x82, x83, x84, x85, x86, x87, x88, x89, x90, x91, x92], h⟩ r m k =
regD Try.prog (evC Try.prog) d9_0 1 ⟨#[x0, x1, x2, x3, x4, x5, x6, x7, x8, x9, x10, x11, x12, x13, x14, x15, x16, x17, x18, x19, x20, x21, x22, x23, x24, x25, x26, x27, x28, x29, x30, x31, x32, x33, x34, x35, x36, x37, x38, x39, x40, x41, x42, x43, x44, x45, x46, x47, x48, x49, x50, x51, x52, x53, x54, x55, x56, x57, x58, x10, x60, x61, x62, x63, x64, x65, x66, x67, x68, x69, x70, x71, x72, x73, x74, x75, x76, x77, x78, x79, x80, x81, x82, x83, x84, x85, x86, x87, x88, x89, x90, x91, x92], h⟩ r m k := regD_move _ _ d9_0 0 (by kernel_rfl) (by kernel_rfl) (by kernel_rfl) _ _ _ _ _ _ (by kernel_rfl) (by kernel_rfl)
theorem d9_0_1 {β : Type} (x0 x1 x2 x3 x4 x5 x6 x7 x8 x9 x10 x11 x12 x13 x14 x15 x16 x17 x18 x19 x20 x21 x22 x23 x24 x25 x26 x27 x28 x29 x30 x31 x32 x33 x34 x35 x36 x37 x38 x39 x40 x41 x42 x43 x44 x45 x46 x47 x48 x49 x50 x51 x52 x53 x54 x55 x56 x57 x58 x59 x60 x61 x62 x63 x64 x65 x66 x67 x68 x69 x70 x71 x72 x73 x74 x75 x76 x77 x78 x79 x80 x81 x82 x83 x84 x85 x86 x87 x88 x89 x90 x91 x92 : Value) (h : Heap) (r m : List Nat) (k : St → Option β) : regD Try.prog (evC Try.prog) d9_0 1 ⟨#[x0, x1, x2, x3, x4, x5, x6, x7, x8, x9, x10, x11, x12, x13, x14, x15, x16, x17, x18, x19, x20, x21, x22, x23, x24, x25, x26, x27, x28, x29, x30, x31, x32, x33, x34, x35, x36, x37, x38, x39, x40, x41, x42, x43, x44, x45, x46, x47, x48, x49, x50, x51, x52, x53, x54, x55, x56, x57, x58, x59, x60, x61, x62, x63, x64, x65, x66, x67, x68, x69, x70, x71, x72, x73, x74, x75, x76, x77, x78, x79, x80, x81, x82, x83, x84, x85, x86, x87, x88, x89, x90, x91, x92], h⟩ r m k =
(binV Try.prog .eql 46 (.tmp 59) (.const (Go.Value.int Go.IntKind.i64 0)) x59 (Go.Value.int Go.IntKind.i64 0)).bind fun t60_53 =>
regD Try.prog (evC Try.prog) d9_0 2 ⟨#[x0, x1, x2, x3, x4, x5, x6, x7, x8, x9, x10, x11, x12, x13, x14, x15, x16, x17, x18, x19, x20, x21, x22, x23, x24, x25, x26, x27, x28, x29, x30, x31, x32, x33, x34, x35, x36, x37, x38, x39, x40, x41, x42, x43, x44, x45, x46, x47, x48, x49, x50, x51, x52, x53, x54, x55, x56, x57, x58, x59, t60_53, x61, x62, x63, x64, x65, x66, x67, x68, x69, x70, x71, x72, x73, x74, x75, x76, x77, x78, x79, x80, x81, x82, x83, x84, x85, x86, x87, x88, x89, x90, x91, x92], h⟩ r m k := (regD_step _ _ d9_0 1 (by kernel_rfl) _ _ _ _).trans (by kernel_rfl)
theorem d9_0_2 {β : Type} (x0 x1 x2 x3 x4 x5 x6 x7 x8 x9 x10 x11 x12 x13 x14 x15 x16 x17 x18 x19 x20 x21 x22 x23 x24 x25 x26 x27 x28 x29 x30 x31 x32 x33 x34 x35 x36 x37 x38 x39 x40 x41 x42 x43 x44 x45 x46 x47 x48 x49 x50 x51 x52 x53 x54 x55 x56 x57 x58 x59 x60 x61 x62 x63 x64 x65 x66 x67 x68 x69 x70 x71 x72 x73 x74 x75 x76 x77 x78 x79 x80 x81 x82 x83 x84 x85 x86 x87 x88 x89 x90 x91 x92 : Value) (h : Heap) (r m : List Nat) (k : St → Option β) : regD Try.prog (evC Try.prog) d9_0 2 ⟨#[x0, x1, x2, x3, x4, x5, x6, x7, x8, x9, x10, x11, x12, x13, x14, x15, x16, x17, x18, x19, x20, x21, x22, x23, x24, x25, x26, x27, x28, x29, x30, x31, x32, x33, x34, x35, x36, x37, x38, x39, x40, x41, x42, x43, x44, x45, x46, x47, x48, x49, x50, x51, x52, x53, x54, x55, x56, x57, x58, x59, x60, x61, x62, x63, x64, x65, x66, x67, x68, x69, x70, x71, x72, x73, x74, x75, x76, x77, x78, x79, x80, x81, x82, x83, x84, x85, x86, x87, x88, x89, x90, x91, x92], h⟩ r m k =
regD Try.prog (evC Try.prog) d9_0 3 ⟨#[x0, x1, x2, x3, x4, x5, x6, x7, x8, x9, x10, x11, x12, x13, x14, x15, x16, x17, x18, x19, x20, x21, x22, x23, x24, x25, x26, x27, x28, x29, x30, x31, x32, x33, x34, x35, x36, x37, x38, x39, x40, x41, x42, x43, x44, x45, x46, x47, x48, x49, x50, x51, x52, x53, x54, x55, x56, x57, x58, x59, x60, x60, x62, x63, x64, x65, x66, x67, x68, x69, x70, x71, x72, x73, x74, x75, x76, x77, x78, x79, x80, x81, x82, x83, x84, x85, x86, x87, x88, x89, x90, x91, x92], h⟩ r m k := regD_move _ _ d9_0 2 (by kernel_rfl) (by kernel_rfl) (by kernel_rfl) _ _ _ _ _ _ (by kernel_rfl) (by kernel_rfl)
theorem d9_0_3 {β : Type} (x0 x1 x2 x3 x4 x5 x6 x7 x8 x9 x10 x11 x12 x13 x14 x15 x16 x17 x18 x19 x20 x21 x22 x23 x24 x25 x26 x27 x28 x29 x30 x31 x32 x33 x34 x35 x36 x37 x38 x39 x40 x41 x42 x43 x44 x45 x46 x47 x48 x49 x50 x51 x52 x53 x54 x55 x56 x57 x58 x59 x60 x61 x62 x63 x64 x65 x66 x67 x68 x69 x70 x71 x72 x73 x74 x75 x76 x77 x78 x79 x80 x81 x82 x83 x84 x85 x86 x87 x88 x89 x90 x91 x92 : Value) (h : Heap) (r m : List Nat) (k : St → Option β) : regD Try.prog (evC Try.prog) d9_0 3 ⟨#[x0, x1, x2, x3, x4, x5, x6, x7, x8, x9, x10, x11, x12, x13, x14, x15, x16, x17, x18, x19, x20, x21, x22, x23, x24, x25, x26, x27, x28, x29, x30, x31, x32, x33, x34, x35, x36, x37, x38, x39, x40, x41, x42, x43, x44, x45, x46, x47, x48, x49, x50, x51, x52, x53, x54, x55, x56, x57, x58, x59, x60, x61, x62, x63, x64, x65, x66, x67, x68, x69, x70, x71, x72, x73, x74, x75, x76, x77, x78, x79, x80, x81, x82, x83, x84, x85, x86, x87, x88, x89, x90, x91, x92], h⟩ r m k =
regD Try.prog (evC Try.prog) d9_0 4 ⟨#[x0, x1, x2, x3, x4, x5, x6, x7, x8, x9, x10, x11, x12, x13, x14, x15, x16, x17, x18, x19, x20, x21, x22, x23, x24, x25, x26, x27, x28, x29, x30, x31, x32, x33, x34, x35, x36, x37, x38, x39, x40, x41, x42, x43, x44, x45, x46, x47, x48, x49, x50, x51, x52, x53, x54, x55, x56, x57, x58, x59, x60, x61, (gdV (wt x61 true) x12), x63, x64, x65, x66, x67, x68, x69, x70, x71, x72, x73, x74, x75, x76, x77, x78, x79, x80, x81, x82, x83, x84, x85, x86, x87, x88, x89, x90, x91, x92], h⟩ r m k := regD_move _ _ d9_0 3 (by kernel_rfl) (by kernel_rfl) (by kernel_rfl) _ _ _ _ _ _ (by kernel_rfl) (by kernel_rfl)
theorem d9_0_4 {β : Type} (x0 x1 x2 x3 x4 x5 x6 x7 x8 x9 x10 x11 x12 x13 x14 x15 x16 x17 x18 x19 x20 x21 x22 x23 x24 x25 x26 x27 x28 x29 x30 x31 x32 x33 x34 x35 x36 x37 x38 x39 x40 x41 x42 x43 x44 x45 x46 x47 x48 x49 x50 x51 x52 x53 x54 x55 x56 x57 x58 x59 x60 x61 x62 x63 x64 x65 x66 x67 x68 x69 x70 x71 x72 x73 x74 x75 x76 x77 x78 x79 x80 x81 x82 x83 x84 x85 x86 x87 x88 x89 x90 x91 x92 : Value) (h : Heap) (r m : List Nat) (k : St → Option β) : regD Try.prog (evC Try.prog) d9_0 4 ⟨#[x0, x1, x2, x3, x4, x5, x6, x7, x8, x9, x10, x11, x12, x13, x14, x15, x16, x17, x18, x19, x20, x21, x22, x23, x24, x25, x26, x27, x28, x29, x30, x31, x32, x33, x34, x35, x36, x37, x38, x39, x40, x41, x42, x43, x44, x45, x46, x47, x48, x49, x50, x51, x52, x53, x54, x55, x56, x57, x58, x59, x60, x61, x62, x63, x64, x65, x66, x67, x68, x69, x70, x71, x72, x73, x74, x75, x76, x77, x78, x79, x80, x81, x82, x83, x84, x85, x86, x87, x88, x89, x90, x91, x92], h⟩ r m k =
(gd (wt x61 true) (binV Try.prog .eql 46 (.tmp 62) (.const (Go.Value.int Go.IntKind.i64 0)) x62 (Go.Value.int Go.IntKind.i64 0))).bind fun t63_54 =>
regD Try.prog (evC Try.prog) d9_0 5 ⟨#[x0, x1, x2, x3, x4, x5, x6, x7, x8, x9, x10, x11, x12, x13, x14, x15, x16, x17, x18, x19, x20, x21, x22, x23, x24, x25, x26, x27, x28, x29, x30, x31, x32, x33, x34, x35, x36, x37, x38, x39, x40, x41, x42, x43, x44, x45, x46, x47, x48, x49, x50, x51, x52, x53, x54, x55, x56, x57, x58, x59, x60, x61, x62, t63_54, x64, x65, x66, x67, x68, x69, x70, x71, x72, x73, x74, x75, x76, x77, x78, x79, x80, x81, x82, x83, x84, x85, x86, x87, x88, x89, x90, x91, x92], h⟩ r m k := (regD_step _ _ d9_0 4 (by kernel_rfl) _ _ _ _).trans (by kernel_rfl)
theorem d9_0_5 {β : Type} (x0 x1 x2 x3 x4 x5 x6 x7 x8 x9 x10 x11 x12 x13 x14 x15 x16 x17 x18 x19 x20 x21 x22 x23 x24 x25 x26 x27 x28 x29 x30 x31 x32 x33 x34 x35 x36 x37 x38 x39 x40 x41 x42 x43 x44 x45 x46 x47 x48 x49 x50 x51 x52 x53 x54 x55 x56 x57 x58 x59 x60 x61 x62 x63 x64 x65 x66 x67 x68 x69 x70 x71 x72 x73 x74 x75 x76 x77 x78 x79 x80 x81 x82 x83 x84 x85 x86 x87 x88 x89 x90 x91 x92 : Value) (h : Heap) (r m : List Nat) (k : St → Option β) : regD Try.prog (evC Try.prog) d9_0 5 ⟨#[x0, x1, x2, x3, x4, x5, x6, x7, x8, x9, x10, x11, x12, x13, x14, x15, x16, x17, x18, x19, x20, x21, x22, x23, x24, x25, x26, x27, x28, x29, x30, x31, x32, x33, x34, x35, x36, x37, x38, x39, x40, x41, x42, x43, x44, x45, x46, x47, x48, x49, x50, x51, x52, x53, x54, x55, x56, x57, x58, x59, x60, x61, x62, x63, x64, x65, x66, x67, x68, x69, x70, x71, x72, x73, x74, x75, x76, x77, x78, x79, x80, x81, x82, x83, x84, x85, x86, x87, x88, x89, x90, x91, x92], h⟩ r m k =
(pickV x61 x63 (Go.Value.bool Bool.false)).bind fun t64_55 =>
regD Try.prog (evC Try.prog) d9_0 6 ⟨#[x0, x1, x2, x3, x4, x5, x6, x7, x8, x9, x10, x11, x12, x13, x14, x15, x16, x17, x18, x19, x20, x21, x22, x23, x24, x25, x26, x27, x28, x29, x30, x31, x32, x33, x34, x35, x36, x37, x38, x39, x40, x41, x42, x43, x44, x45, x46, x47, x48, x49, x50, x51, x52, x53, x54, x55, x56, x57, x58, x59, x60, x61, x62, x63, t64_55, x65, x66, x67, x68, x69, x70, x71, x72, x73, x74, x75, x76, x77, x78, x79, x80, x81, x82, x83, x84, x85, x86, x87, x88, x89, x90, x91, x92], h⟩ r m k := (regD_step _ _ d9_0 5 (by kernel_rfl) _ _ _ _).trans (by kernel_rfl)
theorem d9_0_6 {β : Type} (x0 x1 x2 x3 x4 x5 x6 x7 x8 x9 x10 x11 x12 x13 x14 x15 x16 x17 x18 x19 x20 x21 x22 x23 x24 x25 x26 x27 x28 x29 x30 x31 x32 x33 x34 x35 x36 x37 x38 x39 x40 x41 x42 x43 x44 x45 x46 x47 x48 x49 x50 x51 x52 x53 x54 x55 x56 x57 x58 x59 x60 x61 x62 x63 x64 x65 x66 x67 x68 x69 x70 x71 x72 x73 x74 x75 x76 x77 x78 x79 x80 x81 x82 x83 x84 x85 x86 x87 x88 x89 x90 x91 x92 : Value) (h : Heap) (r m : List Nat) (k : St → Option β) : regD Try.prog (evC Try.prog) d9_0 6 ⟨#[x0, x1, x2, x3, x4, x5, x6, x7, x8, x9, x10, x11, x12, x13, x14, x15, x16, x17, x18, x19, x20, x21, x22, x23, x24, x25, x26, x27, x28, x29, x30, x31, x32, x33, x34, x35, x36, x37, x38, x39, x40, x41, x42, x43, x44, x45, x46, x47, x48, x49, x50, x51, x52, x53, x54, x55, x56, x57, x58, x59, x60, x61, x62, x63, x64, x65, x66, x67, x68, x69, x70, x71, x72, x73, x74, x75, x76, x77, x78, x79, x80, x81, x82, x83, x84, x85, x86, x87, x88, x89, x90, x91, x92], h⟩ r m k =
regD Try.prog (evC Try.prog) d9_0 7 ⟨#[x0, x1, x2, x3, x4, x5, x6, x7, x8, x9, x10, x11, x12, x13, x14, x15, x16, x17, x18, x19, x20, x21, x22, x23, x24, x25, x26, x27, x28, x29, x30, x31, x32, x33, x34, x35, x36, x37, x38, x39, x40, x41, x42, x43, x44, x45, x46, x47, x48, x49, x50, x51, x52, x53, x54, x55, x56, x57, x58, x59, x60, x61, x62, x63, x64, x64, x66, x67, x68, x69, x70, x71, x72, x73, x74, x75, x76, x77, x78, x79, x80, x81, x82, x83, x84, x85, x86, x87, x88, x89, x90, x91, x92], h⟩ r m k := regD_move _ _ d9_0 6 (by kernel_rfl) (by kernel_rfl) (by kernel_rfl) _ _ _ _ _ _ (by kernel_rfl) (by kernel_rfl)
theorem d9_0_7 {β : Type} (x0 x1 x2 x3 x4 x5 x6 x7 x8 x9 x10 x11 x12 x13 x14 x15 x16 x17 x18 x19 x20 x21 x22 x23 x24 x25 x26 x27 x28 x29 x30 x31 x32 x33 x34 x35 x36 x37 x38 x39 x40 x41 x42 x43 x44 x45 x46 x47 x48 x49 x50 x51 x52 x53 x54 x55 x56 x57 x58 x59 x60 x61 x62 x63 x64 x65 x66 x67 x68 x69 x70 x71 x72 x73 x74 x75 x76 x77 x78 x79 x80 x81 x82 x83 x84 x85 x86 x87 x88 x89 x90 x91 x92 : Value) (h : Heap) (r m : List Nat) (k : St → Option β) : regD Try.prog (evC Try.prog) d9_0 7 ⟨#[x0, x1, x2, x3, x4, x5, x6, x7, x8, x9, x10, x11, x12, x13, x14, x15, x16, x17, x18, x19, x20, x21, x22, x23, x24, x25, x26, x27, x28, x29, x30, x31, x32, x33, x34, x35, x36, x37, x38, x39, x40, x41, x42, x43, x44, x45, x46, x47, x48, x49, x50, x51, x52, x53, x54, x55, x56, x57, x58, x59, x60, x61, x62, x63, x64, x65, x66, x67, x68, x69, x70, x71, x72, x73, x74, x75, x76, x77, x78, x79, x80, x81, x82, x83, x84, x85, x86, x87, x88, x89, x90, x91, x92], h⟩ r m k =
regD Try.prog (evC Try.prog) d9_0 8 ⟨#[x0, x1, x2, x3, x4, x5, x6, x7, x8, x9, x10, x11, x12, x13, x14, x15, x16, x17, x18, x19, x20, x21, x22, x23, x24, x25, x26, x27, x28, x29, x30, x31, x32, x33, x34, x35, x36, x37, x38, x39, x40, x41, x42, x43, x44, x45, x46, x47, x48, x49, x50, x51, x52, x53, x54, x55, x56, x57, x58, x59, x60, x61, x62, x63, x64, x65, (gdV (wt x65 true) x14), x67, x68, x69, x70, x71, x72, x73, x74, x75, x76, x77, x78, x79, x80, x81, x82, x83, x84, x85, x86, x87, x88, x89, x90, x91, x92], h⟩ r m k := regD_move _ _ d9_0 7 (by kernel_rfl) (by kernel_rfl) (by kernel_rfl) _ _ _ _ _ _ (by kernel_rfl) (by kernel_rfl)
theorem d9_0_8 {β : Type} (x0 x1 x2 x3 x4 x5 x6 x7 x8 x9 x10 x11 x12 x13 x14 x15 x16 x17 x18 x19 x20 x21 x22 x23 x24 x25 x26 x27 x28 x29 x30 x31 x32 x33 x34 x35 x36 x37 x38 x39 x40 x41 x42 x43 x44 x45 x46 x47 x48 x49 x50 x51 x52 x53 x54 x55 x56 x57 x58 x59 x60 x61 x62 x63 x64 x65 x66 x67 x68 x69 x70 x71 x72 x73 x74 x75 x76 x77 x78 x79 x80 x81 x82 x83 x84 x85 x86 x87 x88 x89 x90 x91 x92 : Value) (h : Heap) (r m : List Nat) (k : St → Option β) : regD Try.prog (evC Try.prog) d9_0 8 ⟨#[x0, x1, x2, x3, x4, x5, x6, x7, x8, x9, x10, x11, x12, x13, x14, x15, x16, x17, x18, x19, x20, x21, x22, x23, x24, x25, x26, x27, x28, x29, x30, x31, x32, x33, x34, x35, x36, x37, x38, x39, x40, x41, x42, x43, x44, x45, x46, x47, x48, x49, x50, x51, x52, x53, x54, x55, x56, x57, x58, x59, x60, x61, x62, x63, x64, x65, x66, x67, x68, x69, x70, x71, x72, x73, x74, x75, x76, x77, x78, x79, x80, x81, x82, x83, x84, x85, x86, x87, x88, x89, x90, x91, x92], h⟩ r m k =
(gd (wt x65 true) (binV Try.prog .eql 46 (.tmp 66) (.const (Go.Value.int Go.IntKind.i64 0)) x66 (Go.Value.int Go.IntKind.i64 0))).bind fun t67_56 =>
regD Try.prog (evC Try.prog) d9_0 9 ⟨#[x0, x1, x2, x3, x4, x5, x6, x7, x8, x9, x10, x11, x12, x13, x14, x15, x16, x17, x18, x19, x20, x21, x22, x23, x24, x25, x26, x27, x28, x29, x30, x31, x32, x33, x34, x35, x36, x37, x38, x39, x40, x41, x42, x43, x44, x45, x46, x47, x48, x49, x50, x51, x52, x53, x54, x55, x56, x57, x58, x59, x60, x61, x62, x63, x64, x65, x66, t67_56, x68, x69, x70, x71, x72, x73, x74, x75, x76, x77, x78, x79, x80, x81, x82, x83, x84, x85, x86, x87, x88, x89, x90, x91, x92], h⟩ r m k := (regD_step _ _ d9_0 8 (by kernel_rfl) _ _ _ _).trans (by kernel_rfl)
theorem d9_0_9 {β : Type} (x0 x1 x2 x3 x4 x5 x6 x7 x8 x9 x10 x11 x12 x13 x14 x15 x16 x17 x18 x19 x20 x21 x22 x23 x24 x25 x26 x27 x28 x29 x30 x31 x32 x33 x34 x35 x36 x37 x38 x39 x40 x41 x42 x43 x44 x45 x46 x47 x48 x49 x50 x51 x52 x53 x54 x55 x56 x57 x58 x59 x60 x61 x62 x63 x64 x65 x66 x67 x68 x69 x70 x71 x72 x73 x74 x75 x76 x77 x78 x79 x80 x81 x82 x83 x84 x85 x86 x87 x88 x89 x90 x91 x92 : Value) (h : Heap) (r m : List Nat) (k : St → Option β) : regD Try.prog (evC Try.prog) d9_0 9 ⟨#[x0, x1, x2, x3, x4, x5, x6, x7, x8, x9, x10, x11, x12, x13, x14, x15, x16, x17, x18, x19, x20, x21, x22, x23, x24, x25, x26, x27, x28, x29, x30, x31, x32, x33, x34, x35, x36, x37, x38, x39, x40, x41, x42, x43, x44, x45, x46, x47, x48, x49, x50, x51, x52, x53, x54, x55, x56, x57, x58, x59, x60, x61, x62, x63, x64, x65, x66, x67, x68, x69, x70, x71, x72, x73, x74, x75, x76, x77, x78, x79, x80, x81, x82, x83, x84, x85, x86, x87, x88, x89, x90, x91, x92], h⟩ r m k =
(pickV x65 x67 (Go.Value.bool Bool.false)).bind fun t68_57 =>
regD Try.prog (evC Try.prog) d9_0 10 ⟨#[x0, x1, x2, x3, x4, x5, x6, x7, x8, x9, x10, x11, x12, x13, x14, x15, x16, x17, x18, x19, x20, x21, x22, x23, x24, x25, x26, x27, x28, x29, x30, x31, x32, x33, x34, x35, x36, x37, x38, x39, x40, x41, x42, x43, x44, x45, x46, x47, x48, x49, x50, x51, x52, x53, x54, x55, x56, x57, x58, x59, x60, x61, x62, x63, x64, x65, x66, x67, t68_57, x69, x70, x71, x72, x73, x74, x75, x76, x77, x78, x79, x80, x81, x82, x83, x84, x85, x86, x87, x88, x89, x90, x91, x92], h⟩ r m k := (regD_step _ _ d9_0 9 (by kernel_rfl) _ _ _ _).trans (by kernel_rfl)
theorem d9_0_10 {β : Type} (x0 x1 x2 x3 x4 x5 x6 x7 x8 x9 x10 x11 x12 x13 x14 x15 x16 x17 x18 x19 x20 x21 x22 x23 x24 x25 x26 x27 x28 x29 x30 x31 x32 x33 x34 x35 x36 x37 x38 x39 x40 x41 x42 x43 x44 x45 x46 x47 x48 x49 x50 x51 x52 x53 x54 x55 x56 x57 x58 x59 x60 x61 x62 x63 x64 x65 x66 x67 x68 x69 x70 x71 x72 x73 x74 x75 x76 x77 x78 x79 x80 x81 x82 x83 x84 x85 x86 x87 x88 x89 x90 x91 x92 : Value) (h : Heap) (r m : List Nat) (k : St → Option β) : regD Try.prog (evC Try.prog) d9_0 10 ⟨#[x0, x1, x2, x3, x4, x5, x6, x7, x8, x9, x10, x11, x12, x13, x14, x15, x16, x17, x18, x19, x20, x21, x22, x23, x24, x25, x26, x27, x28, x29, x30, x31, x32, x33, x34, x35, x36, x37, x38, x39, x40, x41, x42, x43, x44, x45, x46, x47, x48, x49, x50, x51, x52, x53, x54, x55, x56, x57, x58, x59, x60, x61, x62, x63, x64, x65, x66, x67, x68, x69, x70, x71, x72, x73, x74, x75, x76, x77, x78, x79, x80, x81, x82, x83, x84, x85, x86, x87, x88, x89, x90, x91, x92], h⟩ r m k =
regD Try.prog (evC Try.prog) d9_0 11 ⟨#[x0, x1, x2, x3, x4, x5, x6, x7, x8, x9, x10, x11, x12, x13, x14, x15, x16, x17, x18, x19, x20, x21, x22, x23, x24, x25, x26, x27, x28, x29, x30, x31, x32, x33, x34, x35, x36, x37, x38, x39, x40, x41, x42, x43, x44, x45, x46, x47, x48, x49, x50, x51, x52, x53, x54, x55, x56, x57, x58, x59, x60, x61, x62, x63, x64, x65, x66, x67, x68, x68, x70, x71, x72, x73, x74, x75, x76, x77, x78, x79, x80, x81, x82, x83, x84, x85, x86, x87, x88, x89, x90, x91, x92], h⟩ r m k := regD_move _ _ d9_0 10 (by kernel_rfl) (by kernel_rfl) (by kernel_rfl) _ _ _ _ _ _ (by kernel_rfl) (by kernel_rfl)
theorem d9_0_11 {β : Type} (x0 x1 x2 x3 x4 x5 x6 x7 x8 x9 x10 x11 x12 x13 x14 x15 x16 x17 x18 x19 x20 x21 x22 x23 x24 x25 x26 x27 x28 x29 x30 x31 x32 x33 x34 x35 x36 x37 x38 x39 x40 x41 x42 x43 x44 x45 x46 x47 x48 x49 x50 x51 x52 x53 x54 x55 x56 x57 x58 x59 x60 x61 x62 x63 x64 x65 x66 x67 x68 x69 x70 x71 x72 x73 x74 x75 x76 x77 x78 x79 x80 x81 x82 x83 x84 x85 x86 x87 x88 x89 x90 x91 x92 : Value) (h : Heap) (r m : List Nat) (k : St → Option β) : regD Try.prog (evC Try.prog) d9_0 11 ⟨#[x0, x1, x2, x3, x4, x5, x6, x7, x8, x9, x10, x11, x12, x13, x14, x15, x16, x17, x18, x19, x20, x21, x22, x23, x24, x25, x26, x27, x28, x29, x30, x31, x32, x33, x34, x35, x36, x37, x38, x39, x40, x41, x42, x43, x44, x45, x46, x47, x48, x49, x50, x51, x52, x53, x54, x55, x56, x57, x58, x59, x60, x61, x62, x63, x64, x65, x66, x67, x68, x69, x70, x71, x72, x73, x74, x75, x76, x77, x78, x79, x80, x81, x82, x83, x84, x85, x86, x87, x88, x89, x90, x91, x92], h⟩ r m k =
(gd (wt x69 true) (loadV Try.prog 45 x7 h)).bind fun t70_58 =>
regD Try.prog (evC Try.prog) d9_0 12 ⟨#[x0, x1, x2, x3, x4, x5, x6, x7, x8, x9, x10, x11, x12, x13, x14, x15, x16, x17, x18, x19, x20, x21, x22, x23, x24, x25, x26, x27, x28, x29, x30, x31, x32, x33, x34, x35, x36, x37, x38, x39, x40, x41, x42, x43, x44, x45, x46, x47, x48, x49, x50, x51, x52, x53, x54, x55, x56, x57, x58, x59, x60, x61, x62, x63, x64, x65, x66, x67, x68, x69, t70_58, x71, x72, x73, x74, x75, x76, x77, x78, x79, x80, x81, x82, x83, x84, x85, x86, x87, x88, x89, x90, x91, x92], h⟩ r m k := (regD_step _ _ d9_0 11 (by kernel_rfl) _ _ _ _).trans (by kernel_rfl)
theorem d9_0_12 {β : Type} (x0 x1 x2 x3 x4 x5 x6 x7 x8 x9 x10 x11 x12 x13 x14 x15 x16 x17 x18 x19 x20 x21 x22 x23 x24 x25 x26 x27 x28 x29 x30 x31 x32 x33 x34 x35 x36 x37 x38 x39 x40 x41 x42 x43 x44 x45 x46 x47 x48 x49 x50 x51 x52 x53 x54 x55 x56 x57 x58 x59 x60 x61 x62 x63 x64 x65 x66 x67 x68 x69 x70 x71 x72 x73 x74 x75 x76 x77 x78 x79 x80 x81 x82 x83 x84 x85 x86 x87 x88 x89 x90 x91 x92 : Value) (h : Heap) (r m : List Nat) (k : St → Option β) : regD Try.prog (evC Try.prog) d9_0 12 ⟨#[x0, x1, x2, x3, x4, x5, x6, x7, x8, x9, x10, x11, x12, x13, x14, x15, x16, x17, x18, x19, x20, x21, x22, x23, x24, x25, x26, x27, x28, x29, x30, x31, x32, x33, x34, x35, x36, x37, x38, x39, x40, x41, x42, x43, x44, x45, x46, x47, x48, x49, x50, x51, x52, x53, x54, x55, x56, x57, x58, x59, x60, x61, x62, x63, x64, x65, x66, x67, x68, x69, x70, x71, x72, x73, x74, x75, x76, x77, x78, x79, x80, x81, x82, x83, x84, x85, x86, x87, x88, x89, x90, x91, x92], h⟩ r m k =
(gd (wt x69 true) (loadV Try.prog 45 x9 h)).bind fun t71_59 =>
regD Try.prog (evC Try.prog) d9_0 13 ⟨#[x0, x1, x2, x3, x4, x5, x6, x7, x8, x9, x10, x11, x12, x13, x14, x15, x16, x17, x18, x19, x20, x21, x22, x23, x24, x25, x26, x27, x28, x29, x30, x31, x32, x33, x34, x35, x36, x37, x38, x39, x40, x41, x42, x43, x44, x45, x46, x47, x48, x49, x50, x51, x52, x53, x54, x55, x56, x57, x58, x59, x60, x61, x62, x63, x64, x65, x66, x67, x68, x69, x70, t71_59, x72, x73, x74, x75, x76, x77, x78, x79, x80, x81, x82, x83, x84, x85, x86, x87, x88, x89, x90, x91, x92], h⟩ r m k := (regD_step _ _ d9_0 12 (by kernel_rfl) _ _ _ _).trans (by kernel_rfl)
theorem d9_0_13 {β : Type} (x0 x1 x2 x3 x4 x5 x6 x7 x8 x9 x10 x11 x12 x13 x14 x15 x16 x17 x18 x19 x20 x21 x22 x23 x24 x25 x26 x27 x28 x29 x30 x31 x32 x33 x34 x35 x36 x37 x38 x39 x40 x41 x42 x43 x44 x45 x46 x47 x48 x49 x50 x51 x52 x53 x54 x55 x56 x57 x58 x59 x60 x61 x62 x63 x64 x65 x66 x67 x68 x69 x70 x71 x72 x73 x74 x75 x76 x77 x78 x79 x80 x81 x82 x83 x84 x85 x86 x87 x88 x89 x90 x91 x92 : Value) (h : Heap) (r m : List Nat) (k : St → Option β) : regD Try.prog (evC Try.prog) d9_0 13 ⟨#[x0, x1, x2, x3, x4, x5, x6, x7, x8, x9, x10, x11, x12, x13, x14, x15, x16, x17, x18, x19, x20, x21, x22, x23, x24, x25, x26, x27, x28, x29, x30, x31, x32, x33, x34, x35, x36, x37, x38, x39, x40, x41, x42, x43, x44, x45, x46, x47, x48, x49, x50, x51, x52, x53, x54, x55, x56, x57, x58, x59, x60, x61, x62, x63, x64, x65, x66, x67, x68, x69, x70, x71, x72, x73, x74, x75, x76, x77, x78, x79, x80, x81, x82, x83, x84, x85, x86, x87, x88, x89, x90, x91, x92], h⟩ r m k =
obH (gdH (wt x69 true) h (evC Try.prog 29 #[x70, x71] h)) fun t72_60 h61 =>
regD Try.prog (evC Try.prog) d9_0 14 ⟨#[x0, x1, x2, x3, x4, x5, x6, x7, x8, x9, x10, x11, x12, x13, x14, x15, x16, x17, x18, x19, x20, x21, x22, x23, x24, x25, x26, x27, x28, x29, x30, x31, x32, x33, x34, x35, x36, x37, x38, x39, x40, x41, x42, x43, x44, x45, x46, x47, x48, x49, x50, x51, x52, x53, x54, x55, x56, x57, x58, x59, x60, x61, x62, x63, x64, x65, x66, x67, x68, x69, x70, x71, t72_60, x73, x74, x75, x76, x77, x78, x79, x80, x81, x82, x83, x84, x85, x86, x87, x88, x89, x90, x91, x92], h61⟩ r m k := (regD_step _ _ d9_0 13 (by kernel_rfl) _ _ _ _).trans (by kernel_rfl)
theorem d9_0_14 {β : Type} (x0 x1 x2 x3 x4 x5 x6 x7 x8 x9 x10 x11 x12 x13 x14 x15 x16 x17 x18 x19 x20 x21 x22 x23 x24 x25 x26 x27 x28 x29 x30 x31 x32 x33 x34 x35 x36 x37 x38 x39 x40 x41 x42 x43 x44 x45 x46 x47 x48 x49 x50 x51 x52 x53 x54 x55 x56 x57 x58 x59 x60 x61 x62 x63 x64 x65 x66 x67 x68 x69 x70 x71 x72 x73 x74 x75 x76 x77 x78 x79 x80 x81 x82 x83 x84 x85 x86 x87 x88 x89 x90 x91 x92 : Value) (h : Heap) (r m : List Nat) (k : St → Option β) : regD Try.prog (evC Try.prog) d9_0 14 ⟨#[x0, x1, x2, x3, x4, x5, x6, x7, x8, x9, x10, x11, x12, x13, x14, x15, x16, x17, x18, x19, x20, x21, x22, x23, x24, x25, x26, x27, x28, x29, x30, x31, x32, x33, x34, x35, x36, x37, x38, x39, x40, x41, x42, x43, x44, x45, x46, x47, x48, x49, x50, x51, x52, x53, x54, x55, x56, x57, x58, x59, x60, x61, x62, x63, x64, x65, x66, x67, x68, x69, x70, x71, x72, x73, x74, x75, x76, x77, x78, x79, x80, x81, x82, x83, x84, x85, x86, x87, x88, x89, x90, x91, x92], h⟩ r m k =
(pickV x69 x72 (Go.Value.bool Bool.false)).bind fun t73_62 =>
regD Try.prog (evC Try.prog) d9_0 15 ⟨#[x0, x1, x2, x3, x4, x5, x6, x7, x8, x9, x10, x11, x12, x13, x14, x15, x16, x17, x18, x19, x20, x21, x22, x23, x24, x25, x26, x27, x28, x29, x30, x31, x32, x33, x34, x35, x36, x37, x38, x39, x40, x41, x42, x43, x44, x45, x46, x47, x48, x49, x50, x51, x52, x53, x54, x55, x56, x57, x58, x59, x60, x61, x62, x63, x64, x65, x66, x67, x68, x69, x70, x71, x72, t73_62, x74, x75, x76, x77, x78, x79, x80, x81, x82, x83, x84, x85, x86, x87, x88, x89, x90, x91, x92], h⟩ r m k := (regD_step _ _ d9_0 14 (by kernel_rfl) _ _ _ _).trans (by kernel_rfl)
theorem d9_0_15 {β : Type} (x0 x1 x2 x3 x4 x5 x6 x7 x8 x9 x10 x11 x12 x13 x14 x15 x16 x17 x18 x19 x20 x21 x22 x23 x24 x25 x26 x27 x28 x29 x30 x31 x32 x33 x34 x35 x36 x37 x38 x39 x40 x41 x42 x43 x44 x45 x46 x47 x48 x49 x50 x51 x52 x53 x54 x55 x56 x57 x58 x59 x60 x61 x62 x63 x64 x65 x66 x67 x68 x69 x70 x71 x72 x73 x74 x75 x76 x77 x78 x79 x80 x81 x82 x83 x84 x85 x86 x87 x88 x89 x90 x91 x92 : Value) (h : Heap) (r m : List Nat) (k : St → Option β) : regD Try.prog (evC Try.prog) d9_0 15 ⟨#[x0, x1, x2, x3, x4, x5, x6, x7, x8, x9, x10, x11, x12, x13, x14, x15, x16, x17, x18, x19, x20, x21, x22, x23, x24, x25, x26, x27, x28, x29, x30, x31, x32, x33, x34, x35, x36, x37, x38, x39, x40, x41, x42, x43, x44, x45, x46, x47, x48, x49, x50, x51, x52, x53, x54, x55, x56, x57, x58, x59, x60, x61, x62, x63, x64, x65, x66, x67, x68, x69, x70, x71, x72, x73, x74, x75, x76, x77, x78, x79, x80, x81, x82, x83, x84, x85, x86, x87, x88, x89, x90, x91, x92], h⟩ r m k =
regD Try.prog (evC Try.prog) d9_0 16 ⟨#[x0, x1, x2, x3, x4, x5, x6, x7, x8, x9, x10, x11, x12, x13, x14, x15, x16, x17, x18, x19, x20, x21, x22, x23, x24, x25, x26, x27, x28, x29, x30, x31, x32, x33, x34, x35, x36, x37, x38, x39, x40, x41, x42, x43, x44, x45, x46, x47, x48, x49, x50, x51, x52, x53, x54, x55, x56, x57, x58, x59, x60, x61, x62, x63, x64, x65, x66, x67, x68, x69, x70, x71, x72, x73, x73, x75, x76, x77, x78, x79, x80, x81, x82, x83, x84, x85, x86, x87, x88, x89, x90, x91, x92], h⟩ r m k := regD_move _ _ d9_0 15 (by kernel_rfl) (by kernel_rfl) (by kernel_rfl) _ _ _ _ _ _ (by kernel_rfl) (by kernel_rfl)
theorem d9_0_16 {β : Type} (x0 x1 x2 x3 x4 x5 x6 x7 x8 x9 x10 x11 x12 x13 x14 x15 x16 x17 x18 x19 x20 x21 x22 x23 x24 x25 x26 x27 x28 x29 x30 x31 x32 x33 x34 x35 x36 x37 x38 x39 x40 x41 x42 x43 x44 x45 x46 x47 x48 x49 x50 x51 x52 x53 x54 x55 x56 x57 x58 x59 x60 x61 x62 x63 x64 x65 x66 x67 x68 x69 x70 x71 x72 x73 x74 x75 x76 x77 x78 x79 x80 x81 x82 x83 x84 x85 x86 x87 x88 x89 x90 x91 x92 : Value) (h : Heap) (r m : List Nat) (k : St → Option β) : regD Try.prog (evC Try.prog) d9_0 16 ⟨#[x0, x1, x2, x3, x4, x5, x6, x7, x8, x9, x10, x11, x12, x13, x14, x15, x16, x17, x18, x19, x20, x21, x22, x23, x24, x25, x26, x27, x28, x29, x30, x31, x32, x33, x34, x35, x36, x37, x38, x39, x40, x41, x42, x43, x44, x45, x46, x47, x48, x49, x50, x51, x52, x53, x54, x55, x56, x57, x58, x59, x60, x61, x62, x63, x64, x65, x66, x67, x68, x69, x70, x71, x72, x73, x74, x75, x76, x77, x78, x79, x80, x81, x82, x83, x84, x85, x86, x87, x88, x89, x90, x91, x92], h⟩ r m k =
(gd (wt x74 true) (loadV Try.prog 45 x8 h)).bind fun t75_63 =>
regD Try.prog (evC Try.prog) d9_0 17 ⟨#[x0, x1, x2, x3, x4, x5, x6, x7, x8, x9, x10, x11, x12, x13, x14, x15, x16, x17, x18, x19, x20, x21, x22, x23, x24, x25, x26, x27, x28, x29, x30, x31, x32, x33, x34, x35, x36, x37, x38, x39, x40, x41, x42, x43, x44, x45, x46, x47, x48, x49, x50, x51, x52, x53, x54, x55, x56, x57, x58, x59, x60, x61, x62, x63, x64, x65, x66, x67, x68, x69, x70, x71, x72, x73, x74, t75_63, x76, x77, x78, x79, x80, x81, x82, x83, x84, x85, x86, x87, x88, x89, x90, x91, x92], h⟩ r m k := (regD_step _ _ d9_0 16 (by kernel_rfl) _ _ _ _).trans (by kernel_rfl)
theorem d9_0_17 {β : Type} (x0 x1 x2 x3 x4 x5 x6 x7 x8 x9 x10 x11 x12 x13 x14 x15 x16 x17 x18 x19 x20 x21 x22 x23 x24 x25 x26 x27 x28 x29 x30 x31 x32 x33 x34 x35 x36 x37 x38 x39 x40 x41 x42 x43 x44 x45 x46 x47 x48 x49 x50 x51 x52 x53 x54 x55 x56 x57 x58 x59 x60 x61 x62 x63 x64 x65 x66 x67 x68 x69 x70 x71 x72 x73 x74 x75 x76 x77 x78 x79 x80 x81 x82 x83 x84 x85 x86 x87 x88 x89 x90 x91 x92 : Value) (h : Heap) (r m : List Nat) (k : St → Option β) : regD Try.prog (evC Try.prog) d9_0 17 ⟨#[x0, x1, x2, x3, x4, x5, x6, x7, x8, x9, x10, x11, x12, x13, x14, x15, x16, x17, x18, x19, x20, x21, x22, x23, x24, x25, x26, x27, x28, x29, x30, x31, x32, x33, x34, x35, x36, x37, x38, x39, x40, x41, x42, x43, x44, x45, x46, x47, x48, x49, x50, x51, x52, x53, x54, x55, x56, x57, x58, x59, x60, x61, x62, x63, x64, x65, x66, x67, x68, x69, x70, x71, x72, x73, x74, x75, x76, x77, x78, x79, x80, x81, x82, x83, x84, x85, x86, x87, x88, x89, x90, x91, x92], h⟩ r m k =
(gd (wt x74 true) (loadV Try.prog 45 x9 h)).bind fun t76_64 =>
regD Try.prog (evC Try.prog) d9_0 18 ⟨#[x0, x1, x2, x3, x4, x5, x6, x7, x8, x9, x10, x11, x12, x13, x14, x15, x16, x17, x18, x19, x20, x21, x22, x23, x24, x25, x26, x27, x28, x29, x30, x31, x32, x33, x34, x35, x36, x37, x38, x39, x40, x41, x42, x43, x44, x45, x46, x47, x48, x49, x50, x51, x52, x53, x54, x55, x56, x57, x58, x59, x60, x61, x62, x63, x64, x65, x66, x67, x68, x69, x70, x71, x72, x73, x74, x75, t76_64, x77, x78, x79, x80, x81, x82, x83, x84, x85, x86, x87, x88, x89, x90, x91, x92], h⟩ r m k := (regD_step _ _ d9_0 17 (by kernel_rfl) _ _ _ _).trans (by kernel_rfl)
theorem d9_0_18 {β : Type} (x0 x1 x2 x3 x4 x5 x6 x7 x8 x9 x10 x11 x12 x13 x14 x15 x16 x17 x18 x19 x20 x21 x22 x23 x24 x25 x26 x27 x28 x29 x30 x31 x32 x33 x34 x35 x36 x37 x38 x39 x40 x41 x42 x43 x44 x45 x46 x47 x48 x49 x50 x51 x52 x53 x54 x55 x56 x57 x58 x59 x60 x61 x62 x63 x64 x65 x66 x67 x68 x69 x70 x71 x72 x73 x74 x75 x76 x77 x78 x79 x80 x81 x82 x83 x84 x85 x86 x87 x88 x89 x90 x91 x92 : Value) (h : Heap) (r m : List Nat) (k : St → Option β) : regD Try.prog (evC Try.prog) d9_0 18 ⟨#[x0, x1, x2, x3, x4, x5, x6, x7, x8, x9, x10, x11, x12, x13, x14, x15, x16, x17, x18, x19, x20, x21, x22, x23, x24, x25, x26, x27, x28, x29, x30, x31, x32, x33, x34, x35, x36, x37, x38, x39, x40, x41, x42, x43, x44, x45, x46, x47, x48, x49, x50, x51, x52, x53, x54, x55, x56, x57, x58, x59, x60, x61, x62, x63, x64, x65, x66, x67, x68, x69, x70, x71, x72, x73, x74, x75, x76, x77, x78, x79, x80, x81, x82, x83, x84, x85, x86, x87, x88, x89, x90, x91, x92], h⟩ r m k =
obH (gdH (wt x74 true) h (evC Try.prog 29 #[x75, x76] h)) fun t77_65 h66 =>
regD Try.prog (evC Try.prog) d9_0 19 ⟨#[x0, x1, x2, x3, x4, x5, x6, x7, x8, x9, x10, x11, x12, x13, x14, x15, x16, x17, x18, x19, x20, x21, x22, x23, x24, x25, x26, x27, x28, x29, x30, x31, x32, x33, x34, x35, x36, x37, x38, x39, x40, x41, x42, x43, x44, x45, x46, x47, x48, x49, x50, x51, x52, x53, x54, x55, x56, x57, x58, x59, x60, x61, x62, x63, x64, x65, x66, x67, x68, x69, x70, x71, x72, x73, x74, x75, x76, t77_65, x78, x79, x80, x81, x82, x83, x84, x85, x86, x87, x88, x89, x90, x91, x92], h66⟩ r m k := (regD_step _ _ d9_0 18 (by kernel_rfl) _ _ _ _).trans (by kernel_rfl)
theorem d9_0_19 {β : Type} (x0 x1 x2 x3 x4 x5 x6 x7 x8 x9 x10 x11 x12 x13 x14 x15 x16 x17 x18 x19 x20 x21 x22 x23 x24 x25 x26 x27 x28 x29 x30 x31 x32 x33 x34 x35 x36 x37 x38 x39 x40 x41 x42 x43 x44 x45 x46 x47 x48 x49 x50 x51 x52 x53 x54 x55 x56 x57 x58 x59 x60 x61 x62 x63 x64 x65 x66 x67 x68 x69 x70 x71 x72 x73 x74 x75 x76 x77 x78 x79 x80 x81 x82 x83 x84 x85 x86 x87 x88 x89 x90 x91 x92 : Value) (h : Heap) (r m : List Nat) (k : St → Option β) : regD Try.prog (evC Try.prog) d9_0 19 ⟨#[x0, x1, x2, x3, x4, x5, x6, x7, x8, x9, x10, x11, x12, x13, x14, x15, x16, x17, x18, x19, x20, x21, x22, x23, x24, x25, x26, x27, x28, x29, x30, x31, x32, x33, x34, x35, x36, x37, x38, x39, x40, x41, x42, x43, x44, x45, x46, x47, x48, x49, x50, x51, x52, x53, x54, x55, x56, x57, x58, x59, x60, x61, x62, x63, x64, x65, x66, x67, x68, x69, x70, x71, x72, x73, x74, x75, x76, x77, x78, x79, x80, x81, x82, x83, x84, x85, x86, x87, x88, x89, x90, x91, x92], h⟩ r m k =
(pickV x74 x77 (Go.Value.bool Bool.false)).bind fun t78_67 =>
regD Try.prog (evC Try.prog) d9_0 20 ⟨#[x0, x1, x2, x3, x4, x5, x6, x7, x8, x9, x10, x11, x12, x13, x14, x15, x16, x17, x18, x19, x20, x21, x22, x23, x24, x25, x26, x27, x28, x29, x30, x31, x32, x33, x34, x35, x36, x37, x38, x39, x40, x41, x42, x43, x44, x45, x46, x47, x48, x49, x50, x51, x52, x53, x54, x55, x56, x57, x58, x59, x60, x61, x62, x63, x64, x65, x66, x67, x68, x69, x70, x71, x72, x73, x74, x75, x76, x77, t78_67, x79, x80, x81, x82, x83, x84, x85, x86, x87, x88, x89, x90, x91, x92], h⟩ r m k := (regD_step _ _ d9_0 19 (by kernel_rfl) _ _ _ _).trans (by kernel_rfl)
theorem d9_0_20 {β : Type} (x0 x1 x2 x3 x4 x5 x6 x7 x8 x9 x10 x11 x12 x13 x14 x15 x16 x17 x18 x19 x20 x21 x22 x23 x24 x25 x26 x27 x28 x29 x30 x31 x32 x33 x34 x35 x36 x37 x38 x39 x40 x41 x42 x43 x44 x45 x46 x47 x48 x49 x50 x51 x52 x53 x54 x55 x56 x57 x58 x59 x60 x61 x62 x63 x64 x65 x66 x67 x68 x69 x70 x71 x72 x73 x74 x75 x76 x77 x78 x79 x80 x81 x82 x83 x84 x85 x86 x87 x88 x89 x90 x91 x92 : Value) (h : Heap) (r m : List Nat) (k : St → Option β) : regD Try.prog (evC Try.prog) d9_0 20 ⟨#[x0, x1, x2, x3, x4, x5, x6, x7, x8, x9, x10, x11, x12, x13, x14, x15, x16, x17, x18, x19, x20, x21, x22, x23, x24, x25, x26, x27, x28, x29, x30, x31, x32, x33, x34, x35, x36, x37, x38, x39, x40, x41, x42, x43, x44, x45, x46, x47, x48, x49, x50, x51, x52, x53, x54, x55, x56, x57, x58, x59, x60, x61, x62, x63, x64, x65, x66, x67, x68, x69, x70, x71, x72, x73, x74, x75, x76, x77, x78, x79, x80, x81, x82, x83, x84, x85, x86, x87, x88, x89, x90, x91, x92], h⟩ r m k =
regD Try.prog (evC Try.prog) d9_0 21 ⟨#[x0, x1, x2, x3, x4, x5, x6, x7, x8, x9, x10, x11, x12, x13, x14, x15, x16, x17, x18, x19, x20, x21, x22, x23, x24, x25, x26, x27, x28, x29, x30, x31, x32, x33, x34, x35, x36, x37, x38, x39, x40, x41, x42, x43, x44, x45, x46, x47, x48, x49, x50, x51, x52, x53, x54, x55, x56, x57, x58, x59, x60, x61, x62, x63, x64, x65, x66, x67, x68, x69, x70, x71, x72, x73, x74, x75, x76, x77, x78, x78, x80, x81, x82, x83, x84, x85, x86, x87, x88, x89, x90, x91, x92], h⟩ r m k := regD_move _ _ d9_0 20 (by kernel_rfl) (by kernel_rfl) (by kernel_rfl) _ _ _ _ _ _ (by kernel_rfl) (by kernel_rfl)
theorem d9_0_21 {β : Type} (x0 x1 x2 x3 x4 x5 x6 x7 x8 x9 x10 x11 x12 x13 x14 x15 x16 x17 x18 x19 x20 x21 x22 x23 x24 x25 x26 x27 x28 x29 x30 x31 x32 x33 x34 x35 x36 x37 x38 x39 x40 x41 x42 x43 x44 x45 x46 x47 x48 x49 x50 x51 x52 x53 x54 x55 x56 x57 x58 x59 x60 x61 x62 x63 x64 x65 x66 x67 x68 x69 x70 x71 x72 x73 x74 x75 x76 x77 x78 x79 x80 x81 x82 x83 x84 x85 x86 x87 x88 x89 x90 x91 x92 : Value) (h : Heap) (r m : List Nat) (k : St → Option β) : regD Try.prog (evC Try.prog) d9_0 21 ⟨#[x0, x1, x2, x3, x4, x5, x6, x7, x8, x9, x10, x11, x12, x13, x14, x15, x16, x17, x18, x19, x20, x21, x22, x23, x24, x25, x26, x27, x28, x29, x30, x31, x32, x33, x34, x35, x36, x37, x38, x39, x40, x41, x42, x43, x44, x45, x46, x47, x48, x49, x50, x51, x52, x53, x54, x55, x56, x57, x58, x59, x60, x61, x62, x63, x64, x65, x66, x67, x68, x69, x70, x71, x72, x73, x74, x75, x76, x77, x78, x79, x80, x81, x82, x83, x84, x85, x86, x87, x88, x89, x90, x91, x92], h⟩ r m k =
(gd (wt x79 true) (loadV Try.prog 45 x9 h)).bind fun t80_68 =>
regD Try.prog (evC Try.prog) d9_0 22 ⟨#[x0, x1, x2, x3, x4, x5, x6, x7, x8, x9, x10, x11, x12, x13, x14, x15, x16, x17, x18, x19, x20, x21, x22, x23, x24, x25, x26, x27, x28, x29, x30, x31, x32, x33, x34, x35, x36, x37, x38, x39, x40, x41, x42, x43, x44, x45, x46, x47, x48, x49, x50, x51, x52, x53, x54, x55, x56, x57, x58, x59, x60, x61, x62, x63, x64, x65, x66, x67, x68, x69, x70, x71, x72, x73, x74, x75, x76, x77, x78, x79, t80_68, x81, x82, x83, x84, x85, x86, x87, x88, x89, x90, x91, x92], h⟩ r m k := (regD_step _ _ d9_0 21 (by kernel_rfl) _ _ _ _).trans (by kernel_rfl)
theorem d9_0_22 {β : Type} (x0 x1 x2 x3 x4 x5 x6 x7 x8 x9 x10 x11 x12 x13 x14 x15 x16 x17 x18 x19 x20 x21 x22 x23 x24 x25 x26 x27 x28 x29 x30 x31 x32 x33 x34 x35 x36 x37 x38 x39 x40 x41 x42 x43 x44 x45 x46 x47 x48 x49 x50 x51 x52 x53 x54 x55 x56 x57 x58 x59 x60 x61 x62 x63 x64 x65 x66 x67 x68 x69 x70 x71 x72 x73 x74 x75 x76 x77 x78 x79 x80 x81 x82 x83 x84 x85 x86 x87 x88 x89 x90 x91 x92 : Value) (h : Heap) (r m : List Nat) (k : St → Option β) : regD Try.prog (evC Try.prog) d9_0 22 ⟨#[x0, x1, x2, x3, x4, x5, x6, x7, x8, x9, x10, x11, x12, x13, x14, x15, x16, x17, x18, x19, x20, x21, x22, x23, x24, x25, x26, x27, x28, x29, x30, x31, x32, x33, x34, x35, x36, x37, x38, x39, x40, x41, x42, x43, x44, x45, x46, x47, x48, x49, x50, x51, x52, x53, x54, x55, x56, x57, x58, x59, x60, x61, x62, x63, x64, x65, x66, x67, x68, x69, x70, x71, x72, x73, x74, x75, x76, x77, x78, x79, x80, x81, x82, x83, x84, x85, x86, x87, x88, x89, x90, x91, x92], h⟩ r m k =
obH (gdH (wt x79 true) (nm h) (evC Try.prog 35 #[x80] (nm h))) fun t81_69 h70 =>
regD Try.prog (evC Try.prog) d9_0 23 ⟨#[x0, x1, x2, x3, x4, x5, x6, x7, x8, x9, x10, x11, x12, x13, x14, x15, x16, x17, x18, x19, x20, x21, x22, x23, x24, x25, x26, x27, x28, x29, x30, x31, x32, x33, x34, x35, x36, x37, x38, x39, x40, x41, x42, x43, x44, x45, x46, x47, x48, x49, x50, x51, x52, x53, x54, x55, x56, x57, x58, x59, x60, x61, x62, x63, x64, x65, x66, x67, x68, x69, x70, x71, x72, x73, x74, x75, x76, x77, x78, x79, x80, t81_69, x82, x83, x84, x85, x86, x87, x88, x89, x90, x91, x92], (am h70 h)⟩ r (h70.mods ++ m) k := (regD_step _ _ d9_0 22 (by kernel_rfl) _ _ _ _).trans (by kernel_rfl)
theorem d9_0_23 {β : Type} (x0 x1 x2 x3 x4 x5 x6 x7 x8 x9 x10 x11 x12 x13 x14 x15 x16 x17 x18 x19 x20 x21 x22 x23 x24 x25 x26 x27 x28 x29 x30 x31 x32 x33 x34 x35 x36 x37 x38 x39 x40 x41 x42 x43 x44 x45 x46 x47 x48 x49 x50 x51 x52 x53 x54 x55 x56 x57 x58 x59 x60 x61 x62 x63 x64 x65 x66 x67 x68 x69 x70 x71 x72 x73 x74 x75 x76 x77 x78 x79 x80 x81 x82 x83 x84 x85 x86 x87 x88 x89 x90 x91 x92 : Value) (h : Heap) (r m : List Nat) (k : St → Option β) : regD Try.prog (evC Try.prog) d9_0 23 ⟨#[x0, x1, x2, x3, x4, x5, x6, x7, x8, x9, x10, x11, x12, x13, x14, x15, x16, x17, x18, x19, x20, x21, x22, x23, x24, x25, x26, x27, x28, x29, x30, x31, x32, x33, x34, x35, x36, x37, x38, x39, x40, x41, x42, x43, x44, x45, x46, x47, x48, x49, x50, x51, x52, x53, x54, x55, x56, x57, x58, x59, x60, x61, x62, x63, x64, x65, x66, x67, x68, x69, x70, x71, x72, x73, x74, x75, x76, x77, x78, x79, x80, x81, x82, x83, x84, x85, x86, x87, x88, x89, x90, x91, x92], h⟩ r m k =
(gd (wt x79 true) (loadV Try.prog 45 x11 h)).bind fun t82_71 =>
regD Try.prog (evC Try.prog) d9_0 24 ⟨#[x0, x1, x2, x3, x4, x5, x6, x7, x8, x9, x10, x11, x12, x13, x14, x15, x16, x17, x18, x19, x20, x21, x22, x23, x24, x25, x26, x27, x28, x29, x30, x31, x32, x33, x34, x35, x36, x37, x38, x39, x40, x41, x42, x43, x44, x45, x46, x47, x48, x49, x50, x51, x52, x53, x54, x55, x56, x57, x58, x59, x60, x61, x62, x63, x64, x65, x66, x67, x68, x69, x70, x71, x72, x73, x74, x75, x76, x77, x78, x79, x80, x81, t82_71, x83, x84, x85, x86, x87, x88, x89, x90, x91, x92], h⟩ (rdL (wt x79 true) (rb x11) ++ r) m k := (regD_step _ _ d9_0 23 (by kernel_rfl) _ _ _ _).trans (by kernel_rfl)
theorem d9_0_24 {β : Type} (x0 x1 x2 x3 x4 x5 x6 x7 x8 x9 x10 x11 x12 x13 x14 x15 x16 x17 x18 x19 x20 x21 x22 x23 x24 x25 x26 x27 x28 x29 x30 x31 x32 x33 x34 x35 x36 x37 x38 x39 x40 x41 x42 x43 x44 x45 x46 x47 x48 x49 x50 x51 x52 x53 x54 x55 x56 x57 x58 x59 x60 x61 x62 x63 x64 x65 x66 x67 x68 x69 x70 x71 x72 x73 x74 x75 x76 x77 x78 x79 x80 x81 x82 x83 x84 x85 x86 x87 x88 x89 x90 x91 x92 : Value) (h : Heap) (r m : List Nat) (k : St → Option β) : regD Try.prog (evC Try.prog) d9_0 24 ⟨#[x0, x1, x2, x3, x4, x5, x6, x7, x8, x9, x10, x11, x12, x13, x14, x15, x16, x17, x18, x19, x20, x21, x22, x23, x24, x25, x26, x27, x28, x29, x30, x31, x32, x33, x34, x35, x36, x37, x38, x39, x40, x41, x42, x43, x44, x45, x46, x47, x48, x49, x50, x51, x52, x53, x54, x55, x56, x57, x58, x59, x60, x61, x62, x63, x64, x65, x66, x67, x68, x69, x70, x71, x72, x73, x74, x75, x76, x77, x78, x79, x80, x81, x82, x83, x84, x85, x86, x87, x88, x89, x90, x91, x92], h⟩ r m k =
obH (gdH (wt x79 true) h (evC Try.prog 35 #[x82] h)) fun t83_72 h73 =>
regD Try.prog (evC Try.prog) d9_0 25 ⟨#[x0, x1, x2, x3, x4, x5, x6, x7, x8, x9, x10, x11, x12, x13, x14, x15, x16, x17, x18, x19, x20, x21, x22, x23, x24, x25, x26, x27, x28, x29, x30, x31, x32, x33, x34, x35, x36, x37, x38, x39, x40, x41, x42, x43, x44, x45, x46, x47, x48, x49, x50, x51, x52, x53, x54, x55, x56, x57, x58, x59, x60, x61, x62, x63, x64, x65, x66, x67, x68, x69, x70, x71, x72, x73, x74, x75, x76, x77, x78, x79, x80, x81, x82, t83_72, x84, x85, x86, x87, x88, x89, x90, x91, x92], h73⟩ r m k := (regD_step _ _ d9_0 24 (by kernel_rfl) _ _ _ _).trans (by kernel_rfl)
theorem d9_0_25 {β : Type} (x0 x1 x2 x3 x4 x5 x6 x7 x8 x9 x10 x11 x12 x13 x14 x15 x16 x17 x18 x19 x20 x21 x22 x23 x24 x25 x26 x27 x28 x29 x30 x31 x32 x33 x34 x35 x36 x37 x38 x39 x40 x41 x42 x43 x44 x45 x46 x47 x48 x49 x50 x51 x52 x53 x54 x55 x56 x57 x58 x59 x60 x61 x62 x63 x64 x65 x66 x67 x68 x69 x70 x71 x72 x73 x74 x75 x76 x77 x78 x79 x80 x81 x82 x83 x84 x85 x86 x87 x88 x89 x90 x91 x92 : Value) (h : Heap) (r m : List Nat) (k : St → Option β) : regD Try.prog (evC Try.prog) d9_0 25 ⟨#[x0, x1, x2, x3, x4, x5, x6, x7, x8, x9, x10, x11, x12, x13, x14, x15, x16, x17, x18, x19, x20, x21, x22, x23, x24, x25, x26, x27, x28, x29, x30, x31, x32, x33, x34, x35, x36, x37, x38, x39, x40, x41, x42, x43, x44, x45, x46, x47, x48, x49, x50, x51, x52, x53, x54, x55, x56, x57, x58, x59, x60, x61, x62, x63, x64, x65, x66, x67, x68, x69, x70, x71, x72, x73, x74, x75, x76, x77, x78, x79, x80, x81, x82, x83, x84, x85, x86, x87, x88, x89, x90, x91, x92], h⟩ r m k =
obH (gdH (wt x79 true) h (evC Try.prog 34 #[x81, x83] h)) fun t84_74 h75 =>
regD Try.prog (evC Try.prog) d9_0 26 ⟨#[x0, x1, x2, x3, x4, x5, x6, x7, x8, x9, x10, x11, x12, x13, x14, x15, x16, x17, x18, x19, x20, x21, x22, x23, x24, x25, x26, x27, x28, x29, x30, x31, x32, x33, x34, x35, x36, x37, x38, x39, x40, x41, x42, x43, x44, x45, x46, x47, x48, x49, x50, x51, x52, x53, x54, x55, x56, x57, x58, x59, x60, x61, x62, x63, x64, x65, x66, x67, x68, x69, x70, x71, x72, x73, x74, x75, x76, x77, x78, x79, x80, x81, x82, x83, t84_74, x85, x86, x87, x88, x89, x90, x91, x92], h75⟩ r m k := (regD_step _ _ d9_0 25 (by kernel_rfl) _ _ _ _).trans (by kernel_rfl)
theorem d9_0_26 {β : Type} (x0 x1 x2 x3 x4 x5 x6 x7 x8 x9 x10 x11 x12 x13 x14 x15 x16 x17 x18 x19 x20 x21 x22 x23 x24 x25 x26 x27 x28 x29 x30 x31 x32 x33 x34 x35 x36 x37 x38 x39 x40 x41 x42 x43 x44 x45 x46 x47 x48 x49 x50 x51 x52 x53 x54 x55 x56 x57 x58 x59 x60 x61 x62 x63 x64 x65 x66 x67 x68 x69 x70 x71 x72 x73 x74 x75 x76 x77 x78 x79 x80 x81 x82 x83 x84 x85 x86 x87 x88 x89 x90 x91 x92 : Value) (h : Heap) (r m : List Nat) (k : St → Option β) : regD Try.prog (evC Try.prog) d9_0 26 ⟨#[x0, x1, x2, x3, x4, x5, x6, x7, x8, x9, x10, x11, x12, x13, x14, x15, x16, x17, x18, x19, x20, x21, x22, x23, x24, x25, x26, x27, x28, x29, x30, x31, x32, x33, x34, x35, x36, x37, x38, x39, x40, x41, x42, x43, x44, x45, x46, x47, x48, x49, x50, x51, x52, x53, x54, x55, x56, x57, x58, x59, x60, x61, x62, x63, x64, x65, x66, x67, x68, x69, x70, x71, x72, x73, x74, x75, x76, x77, x78, x79, x80, x81, x82, x83, x84, x85, x86, x87, x88, x89, x90, x91, x92], h⟩ r m k =
(pickV x79 x84 (Go.Value.bool Bool.false)).bind fun t85_76 =>
regD Try.prog (evC Try.prog) d9_0 27 ⟨#[x0, x1, x2, x3, x4, x5, x6, x7, x8, x9, x10, x11, x12, x13, x14, x15, x16, x17, x18, x19, x20, x21, x22, x23, x24, x25, x26, x27, x28, x29, x30, x31, x32, x33, x34, x35, x36, x37, x38, x39, x40, x41, x42, x43, x44, x45, x46, x47, x48, x49, x50, x51, x52, x53, x54, x55, x56, x57, x58, x59, x60, x61, x62, x63, x64, x65, x66, x67, x68, x69, x70, x71, x72, x73, x74, x75, x76, x77, x78, x79, x80, x81, x82, x83, x84, t85_76, x86, x87, x88, x89, x90, x91, x92], h⟩ r m k := (regD_step _ _ d9_0 26 (by kernel_rfl) _ _ _ _).trans (by kernel_rfl)
theorem d9_0_27 {β : Type} (x0 x1 x2 x3 x4 x5 x6 x7 x8 x9 x10 x11 x12 x13 x14 x15 x16 x17 x18 x19 x20 x21 x22 x23 x24 x25 x26 x27 x28 x29 x30 x31 x32 x33 x34 x35 x36 x37 x38 x39 x40 x41 x42 x43 x44 x45 x46 x47 x48 x49 x50 x51 x52 x53 x54 x55 x56 x57 x58 x59 x60 x61 x62 x63 x64 x65 x66 x67 x68 x69 x70 x71 x72 x73 x74 x75 x76 x77 x78 x79 x80 x81 x82 x83 x84 x85 x86 x87 x88 x89 x90 x91 x92 : Value) (h : Heap) (r m : List Nat) (k : St → Option β) : regD Try.prog (evC Try.prog) d9_0 27 ⟨#[x0, x1, x2, x3, x4, x5, x6, x7, x8, x9, x10, x11, x12, x13, x14, x15, x16, x17, x18, x19, x20, x21, x22, x23, x24, x25, x26, x27, x28, x29, x30, x31, x32, x33, x34, x35, x36, x37, x38, x39, x40, x41, x42, x43, x44, x45, x46, x47, x48, x49, x50, x51, x52, x53, x54, x55, x56, x57, x58, x59, x60, x61, x62, x63, x64, x65, x66, x67, x68, x69, x70, x71, x72, x73, x74, x75, x76, x77, x78, x79, x80, x81, x82, x83, x84, x85, x86, x87, x88, x89, x90, x91, x92], h⟩ r m k =
regD Try.prog (evC Try.prog) d9_0 28 ⟨#[x0, x1, x2, x3, x4, x5, x6, x7, x8, x9, x10, x11, x12, x13, x14, x15, x16, x17, x18, x19, x20, x21, x22, x23, x24, x25, x26, x27, x28, x29, x30, x31, x32, x33, x34, x35, x36, x37, x38, x39, x40, x41, x42, x43, x44, x45, x46, x47, x48, x49, x50, x51, x52, x53, x54, x55, x56, x57, x58, x59, x60, x61, x62, x63, x64, x65, x66, x67, x68, x69, x70, x71, x72, x73, x74, x75, x76, x77, x78, x79, x80, x81, x82, x83, x84, x85, x85, x87, x88, x89, x90, x91, x92], h⟩ r m k := regD_move _ _ d9_0 27 (by kernel_rfl) (by kernel_rfl) (by kernel_rfl) _ _ _ _ _ _ (by kernel_rfl) (by kernel_rfl)
theorem d9_0_28 {β : Type} (x0 x1 x2 x3 x4 x5 x6 x7 x8 x9 x10 x11 x12 x13 x14 x15 x16 x17 x18 x19 x20 x21 x22 x23 x24 x25 x26 x27 x28 x29 x30 x31 x32 x33 x34 x35 x36 x37 x38 x39 x40 x41 x42 x43 x44 x45 x46 x47 x48 x49 x50 x51 x52 x53 x54 x55 x56 x57 x58 x59 x60 x61 x62 x63 x64 x65 x66 x67 x68 x69 x70 x71 x72 x73 x74 x75 x76 x77 x78 x79 x80 x81 x82 x83 x84 x85 x86 x87 x88 x89 x90 x91 x92 : Value) (h : Heap) (r m : List Nat) (k : St → Option β) : regD Try.prog (evC Try.prog) d9_0 28 ⟨#[x0, x1, x2, x3, x4, x5, x6, x7, x8, x9, x10, x11, x12, x13, x14, x15, x16, x17, x18, x19, x20, x21, x22, x23, x24, x25, x26, x27, x28, x29, x30, x31, x32, x33, x34, x35, x36, x37, x38, x39, x40, x41, x42, x43, x44, x45, x46, x47, x48, x49, x50, x51, x52, x53, x54, x55, x56, x57, x58, x59, x60, x61, x62, x63, x64, x65, x66, x67, x68, x69, x70, x71, x72, x73, x74, x75, x76, x77, x78, x79, x80, x81, x82, x83, x84, x85, x86, x87, x88, x89, x90, x91, x92], h⟩ r m k =
(gd (wt x86 true) (loadV Try.prog 45 x13 h)).bind fun t87_77 =>
regD Try.prog (evC Try.prog) d9_0 29 ⟨#[x0, x1, x2, x3, x4, x5, x6, x7, x8, x9, x10, x11, x12, x13, x14, x15, x16, x17, x18, x19, x20, x21, x22, x23, x24, x25, x26, x27, x28, x29, x30, x31, x32, x33, x34, x35, x36, x37, x38, x39, x40, x41, x42, x43, x44, x45, x46, x47, x48, x49, x50, x51, x52, x53, x54, x55, x56, x57, x58, x59, x60, x61, x62, x63, x64, x65, x66, x67, x68, x69, x70, x71, x72, x73, x74, x75, x76, x77, x78, x79, x80, x81, x82, x83, x84, x85, x86, t87_77, x88, x89, x90, x91, x92], h⟩ r m k := (regD_step _ _ d9_0 28 (by kernel_rfl) _ _ _ _).trans (by kernel_rfl)
theorem d9_0_29 {β : Type} (x0 x1 x2 x3 x4 x5 x6 x7 x8 x9 x10 x11 x12 x13 x14 x15 x16 x17 x18 x19 x20 x21 x22 x23 x24 x25 x26 x27 x28 x29 x30 x31 x32 x33 x34 x35 x36 x37 x38 x39 x40 x41 x42 x43 x44 x45 x46 x47 x48 x49 x50 x51 x52 x53 x54 x55 x56 x57 x58 x59 x60 x61 x62 x63 x64 x65 x66 x67 x68 x69 x70 x71 x72 x73 x74 x75 x76 x77 x78 x79 x80 x81 x82 x83 x84 x85 x86 x87 x88 x89 x90 x91 x92 : Value) (h : Heap) (r m : List Nat) (k : St → Option β) : regD Try.prog (evC Try.prog) d9_0 29 ⟨#[x0, x1, x2, x3, x4, x5, x6, x7, x8, x9, x10, x11, x12, x13, x14, x15, x16, x17, x18, x19, x20, x21, x22, x23, x24, x25, x26, x27, x28, x29, x30, x31, x32, x33, x34, x35, x36, x37, x38, x39, x40, x41, x42, x43, x44, x45, x46, x47, x48, x49, x50, x51, x52, x53, x54, x55, x56, x57, x58, x59, x60, x61, x62, x63, x64, x65, x66, x67, x68, x69, x70, x71, x72, x73, x74, x75, x76, x77, x78, x79, x80, x81, x82, x83, x84, x85, x86, x87, x88, x89, x90, x91, x92], h⟩ r m k =
obH (gdH (wt x86 true) (nm h) (evC Try.prog 35 #[x87] (nm h))) fun t88_78 h79 =>
regD Try.prog (evC Try.prog) d9_0 30 ⟨#[x0, x1, x2, x3, x4, x5, x6, x7, x8, x9, x10, x11, x12, x13, x14, x15, x16, x17, x18, x19, x20, x21, x22, x23, x24, x25, x26, x27, x28, x29, x30, x31, x32, x33, x34, x35, x36, x37, x38, x39, x40, x41, x42, x43, x44, x45, x46, x47, x48, x49, x50, x51, x52, x53, x54, x55, x56, x57, x58, x59, x60, x61, x62, x63, x64, x65, x66, x67, x68, x69, x70, x71, x72, x73, x74, x75, x76, x77, x78, x79, x80, x81, x82, x83, x84, x85, x86, x87, t88_78, x89, x90, x91, x92], (am h79 h)⟩ r (h79.mods ++ m) k := (regD_step _ _ d9_0 29 (by kernel_rfl) _ _ _ _).trans (by kernel_rfl)
theorem d9_0_30 {β : Type} (x0 x1 x2 x3 x4 x5 x6 x7 x8 x9 x10 x11 x12 x13 x14 x15 x16 x17 x18 x19 x20 x21 x22 x23 x24 x25 x26 x27 x28 x29 x30 x31 x32 x33 x34 x35 x36 x37 x38 x39 x40 x41 x42 x43 x44 x45 x46 x47 x48 x49 x50 x51 x52 x53 x54 x55 x56 x57 x58 x59 x60 x61 x62 x63 x64 x65 x66 x67 x68 x69 x70 x71 x72 x73 x74 x75 x76 x77 x78 x79 x80 x81 x82 x83 x84 x85 x86 x87 x88 x89 x90 x91 x92 : Value) (h : Heap) (r m : List Nat) (k : St → Option β) : regD Try.prog (evC Try.prog) d9_0 30 ⟨#[x0, x1, x2, x3, x4, x5, x6, x7, x8, x9, x10, x11, x12, x13, x14, x15, x16, x17, x18, x19, x20, x21, x22, x23, x24, x25, x26, x27, x28, x29, x30, x31, x32, x33, x34, x35, x36, x37, x38, x39, x40, x41, x42, x43, x44, x45, x46, x47, x48, x49, x50, x51, x52, x53, x54, x55, x56, x57, x58, x59, x60, x61, x62, x63, x64, x65, x66, x67, x68, x69, x70, x71, x72, x73, x74, x75, x76, x77, x78, x79, x80, x81, x82, x83, x84, x85, x86, x87, x88, x89, x90, x91, x92], h⟩ r m k =
(gd (wt x86 true) (loadV Try.prog 45 x9 h)).bind fun t89_80 =>
regD Try.prog (evC Try.prog) d9_0 31 ⟨#[x0, x1, x2, x3, x4, x5, x6, x7, x8, x9, x10, x11, x12, x13, x14, x15, x16, x17, x18, x19, x20, x21, x22, x23, x24, x25, x26, x27, x28, x29, x30, x31, x32, x33, x34, x35, x36, x37, x38, x39, x40, x41, x42, x43, x44, x45, x46, x47, x48, x49, x50, x51, x52, x53, x54, x55, x56, x57, x58, x59, x60, x61, x62, x63, x64, x65, x66, x67, x68, x69, x70, x71, x72, x73, x74, x75, x76, x77, x78, x79, x80, x81, x82, x83, x84, x85, x86, x87, x88, t89_80, x90, x91, x92], h⟩ (rdL (wt x86 true) (rb x9) ++ r) m k := (regD_step _ _ d9_0 30 (by kernel_rfl) _ _ _ _).trans (by kernel_rfl)
theorem d9_0_31 {β : Type} (x0 x1 x2 x3 x4 x5 x6 x7 x8 x9 x10 x11 x12 x13 x14 x15 x16 x17 x18 x19 x20 x21 x22 x23 x24 x25 x26 x27 x28 x29 x30 x31 x32 x33 x34 x35 x36 x37 x38 x39 x40 x41 x42 x43 x44 x45 x46 x47 x48 x49 x50 x51 x52 x53 x54 x55 x56 x57 x58 x59 x60 x61 x62 x63 x64 x65 x66 x67 x68 x69 x70 x71 x72 x73 x74 x75 x76 x77 x78 x79 x80 x81 x82 x83 x84 x85 x86 x87 x88 x89 x90 x91 x92 : Value) (h : Heap) (r m : List Nat) (k : St → Option β) : regD Try.prog (evC Try.prog) d9_0 31 ⟨#[x0, x1, x2, x3, x4, x5, x6, x7, x8, x9, x10, x11, x12, x13, x14, x15, x16, x17, x18, x19, x20, x21, x22, x23, x24, x25, x26, x27, x28, x29, x30, x31, x32, x33, x34, x35, x36, x37, x38, x39, x40, x41, x42, x43, x44, x45, x46, x47, x48, x49, x50, x51, x52, x53, x54, x55, x56, x57, x58, x59, x60, x61, x62, x63, x64, x65, x66, x67, x68, x69, x70, x71, x72, x73, x74, x75, x76, x77, x78, x79, x80, x81, x82, x83, x84, x85, x86, x87, x88, x89, x90, x91, x92], h⟩ r m k =
obH (gdH (wt x86 true) h (evC Try.prog 35 #[x89] h)) fun t90_81 h82 =>
regD Try.prog (evC Try.prog) d9_0 32 ⟨#[x0, x1, x2, x3, x4, x5, x6, x7, x8, x9, x10, x11, x12, x13, x14, x15, x16, x17, x18, x19, x20, x21, x22, x23, x24, x25, x26, x27, x28, x29, x30, x31, x32, x33, x34, x35, x36, x37, x38, x39, x40, x41, x42, x43, x44, x45, x46, x47, x48, x49, x50, x51, x52, x53, x54, x55, x56, x57, x58, x59, x60, x61, x62, x63, x64, x65, x66, x67, x68, x69, x70, x71, x72, x73, x74, x75, x76, x77, x78, x79, x80, x81, x82, x83, x84, x85, x86, x87, x88, x89, t90_81, x91, x92], h82⟩ r m k := (regD_step _ _ d9_0 31 (by kernel_rfl) _ _ _ _).trans (by kernel_rfl)
theorem d9_0_32 {β : Type} (x0 x1 x2 x3 x4 x5 x6 x7 x8 x9 x10 x11 x12 x13 x14 x15 x16 x17 x18 x19 x20 x21 x22 x23 x24 x25 x26 x27 x28 x29 x30 x31 x32 x33 x34 x35 x36 x37 x38 x39 x40 x41 x42 x43 x44 x45 x46 x47 x48 x49 x50 x51 x52 x53 x54 x55 x56 x57 x58 x59 x60 x61 x62 x63 x64 x65 x66 x67 x68 x69 x70 x71 x72 x73 x74 x75 x76 x77 x78 x79 x80 x81 x82 x83 x84 x85 x86 x87 x88 x89 x90 x91 x92 : Value) (h : Heap) (r m : List Nat) (k : St → Option β) : regD Try.prog (evC Try.prog) d9_0 32 ⟨#[x0, x1, x2, x3, x4, x5, x6, x7, x8, x9, x10, x11, x12, x13, x14, x15, x16, x17, x18, x19, x20, x21, x22, x23, x24, x25, x26, x27, x28, x29, x30, x31, x32, x33, x34, x35, x36, x37, x38, x39, x40, x41, x42, x43, x44, x45, x46, x47, x48, x49, x50, x51, x52, x53, x54, x55, x56, x57, x58, x59, x60, x61, x62, x63, x64, x65, x66, x67, x68, x69, x70, x71, x72, x73, x74, x75, x76, x77, x78, x79, x80, x81, x82, x83, x84, x85, x86, x87, x88, x89, x90, x91, x92], h⟩ r m k =
obH (gdH (wt x86 true) h (evC Try.prog 34 #[x88, x90] h)) fun t91_83 h84 =>
regD Try.prog (evC Try.prog) d9_0 33 ⟨#[x0, x1, x2, x3, x4, x5, x6, x7, x8, x9, x10, x11, x12, x13, x14, x15, x16, x17, x18, x19, x20, x21, x22, x23, x24, x25, x26, x27, x28, x29, x30, x31, x32, x33, x34, x35, x36, x37, x38, x39, x40, x41, x42, x43, x44, x45, x46, x47, x48, x49, x50, x51, x52, x53, x54, x55, x56, x57, x58, x59, x60, x61, x62, x63, x64, x65, x66, x67, x68, x69, x70, x71, x72, x73, x74, x75, x76, x77, x78, x79, x80, x81, x82, x83, x84, x85, x86, x87, x88, x89, x90, t91_83, x92], h84⟩ r m k := (regD_step _ _ d9_0 32 (by kernel_rfl) _ _ _ _).trans (by kernel_rfl)
theorem d9_0_33 {β : Type} (x0 x1 x2 x3 x4 x5 x6 x7 x8 x9 x10 x11 x12 x13 x14 x15 x16 x17 x18 x19 x20 x21 x22 x23 x24 x25 x26 x27 x28 x29 x30 x31 x32 x33 x34 x35 x36 x37 x38 x39 x40 x41 x42 x43 x44 x45 x46 x47 x48 x49 x50 x51 x52 x53 x54 x55 x56 x57 x58 x59 x60 x61 x62 x63 x64 x65 x66 x67 x68 x69 x70 x71 x72 x73 x74 x75 x76 x77 x78 x79 x80 x81 x82 x83 x84 x85 x86 x87 x88 x89 x90 x91 x92 : Value) (h : Heap) (r m : List Nat) (k : St → Option β) : regD Try.prog (evC Try.prog) d9_0 33 ⟨#[x0, x1, x2, x3, x4, x5, x6, x7, x8, x9, x10, x11, x12, x13, x14, x15, x16, x17, x18, x19, x20, x21, x22, x23, x24, x25, x26, x27, x28, x29, x30, x31, x32, x33, x34, x35, x36, x37, x38, x39, x40, x41, x42, x43, x44, x45, x46, x47, x48, x49, x50, x51, x52, x53, x54, x55, x56, x57, x58, x59, x60, x61, x62, x63, x64, x65, x66, x67, x68, x69, x70, x71, x72, x73, x74, x75, x76, x77, x78, x79, x80, x81, x82, x83, x84, x85, x86, x87, x88, x89, x90, x91, x92], h⟩ r m k =
(pickV x86 x91 (Go.Value.bool Bool.false)).bind fun t92_85 =>
regD Try.prog (evC Try.prog) d9_0 34 ⟨#[x0, x1, x2, x3, x4, x5, x6, x7, x8, x9, x10, x11, x12, x13, x14, x15, x16, x17, x18, x19, x20, x21, x22, x23, x24, x25, x26, x27, x28, x29, x30, x31, x32, x33, x34, x35, x36, x37, x38, x39, x40, x41, x42, x43, x44, x45, x46, x47, x48, x49, x50, x51, x52, x53, x54, x55, x56, x57, x58, x59, x60, x61, x62, x63, x64, x65, x66, x67, x68, x69, x70, x71, x72, x73, x74, x75, x76, x77, x78, x79, x80, x81, x82, x83, x84, x85, x86, x87, x88, x89, x90, x91, t92_85], h⟩ r m k := (regD_step _ _ d9_0 33 (by kernel_rfl) _ _ _ _).trans (by kernel_rfl)
theorem d9_0_34 {β : Type} (x0 x1 x2 x3 x4 x5 x6 x7 x8 x9 x10 x11 x12 x13 x14 x15 x16 x17 x18 x19 x20 x21 x22 x23 x24 x25 x26 x27 x28 x29 x30 x31 x32 x33 x34 x35 x36 x37 x38 x39 x40 x41 x42 x43 x44 x45 x46 x47 x48 x49 x50 x51 x52 x53 x54 x55 x56 x57 x58 x59 x60 x61 x62 x63 x64 x65 x66 x67 x68 x69 x70 x71 x72 x73 x74 x75 x76 x77 x78 x79 x80 x81 x82 x83 x84 x85 x86 x87 x88 x89 x90 x91 x92 : Value) (h : Heap) (r m : List Nat) (k : St → Option β) : regD Try.prog (evC Try.prog) d9_0 34 ⟨#[x0, x1, x2, x3, x4, x5, x6, x7, x8, x9, x10, x11, x12, x13, x14, x15, x16, x17, x18, x19, x20, x21, x22, x23, x24, x25, x26, x27, x28, x29, x30, x31, x32, x33, x34, x35, x36, x37, x38, x39, x40, x41, x42, x43, x44, x45, x46, x47, x48, x49, x50, x51, x52, x53, x54, x55, x56, x57, x58, x59, x60, x61, x62, x63, x64, x65, x66, x67, x68, x69, x70, x71, x72, x73, x74, x75, x76, x77, x78, x79, x80, x81, x82, x83, x84, x85, x86, x87, x88, x89, x90, x91, x92], h⟩ r m k =
regD Try.prog (evC Try.prog) d9_0 35 ⟨#[x0, x1, x2, x3, x4, x5, x92, x7, x8, x9, x10, x11, x12, x13, x14, x15, x16, x17, x18, x19, x20, x21, x22, x23, x24, x25, x26, x27, x28, x29, x30, x31, x32, x33, x34, x35, x36, x37, x38, x39, x40, x41, x42, x43, x44, x45, x46, x47, x48, x49, x50, x51, x52, x53, x54, x55, x56, x57, x58, x59, x60, x61, x62, x63, x64, x65, x66, x67, x68, x69, x70, x71, x72, x73, x74, x75, x76, x77, x78, x79, x80, x81, x82, x83, x84, x85, x86, x87, x88, x89, x90, x91, x92], h⟩ r m k := regD_move _ _ d9_0 34 (by kernel_rfl) (by kernel_rfl) (by kernel_rfl) _ _ _ _ _ _ (by kernel_rfl) (by kernel_rfl)
theorem d9_0_35 {β : Type} (x0 x1 x2 x3 x4 x5 x6 x7 x8 x9 x10 x11 x12 x13 x14 x15 x16 x17 x18 x19 x20 x21 x22 x23 x24 x25 x26 x27 x28 x29 x30 x31 x32 x33 x34 x35 x36 x37 x38 x39 x40 x41 x42 x43 x44 x45 x46 x47 x48 x49 x50 x51 x52 x53 x54 x55 x56 x57 x58 x59 x60 x61 x62 x63 x64 x65 x66 x67 x68 x69 x70 x71 x72 x73 x74 x75 x76 x77 x78 x79 x80 x81 x82 x83 x84 x85 x86 x87 x88 x89 x90 x91 x92 : Value) (h : Heap) (r m : List Nat) (k : St → Option β) : regD Try.prog (evC Try.prog) d9_0 35 ⟨#[x0, x1, x2, x3, x4, x5, x6, x7, x8, x9, x10, x11, x12, x13, x14, x15, x16, x17, x18, x19, x20, x21, x22, x23, x24, x25, x26, x27, x28, x29, x30, x31, x32, x33, x34, x35, x36, x37, x38, x39, x40, x41, x42, x43, x44, x45, x46, x47, x48, x49, x50, x51, x52, x53, x54, x55, x56, x57, x58, x59, x60, x61, x62, x63, x64, x65, x66, x67, x68, x69, x70, x71, x72, x73, x74, x75, x76, x77, x78, x79, x80, x81, x82, x83, x84, x85, x86, x87, x88, x89, x90, x91, x92], h⟩ r m k =
chk r m (k ⟨#[x0, x1, x2, x3, x4, x5, x6, x7, x8, x9, x10, x11, x12, x13, x14, x15, x16, x17, x18, x19, x20, x21, x22, x23, x24, x25, x26, x27, x28, x29, x30, x31, x32, x33, x34, x35, x36, x37, x38, x39, x40, x41, x42, x43, x44, x45, x46, x47, x48, x49, x50, x51, x52, x53, x54, x55, x56, x57, x58, x59, x60, x61, x62, x63, x64, x65, x66, x67, x68, x69, x70, x71, x72, x73, x74, x75, x76, x77, x78, x79, x80, x81, x82, x83, x84, x85, x86, x87, x88, x89, x90, x91, x92], h⟩) := by kernel_rfl
theorem c9_15_eq {β : Type} (x0 x1 x2 x3 x4 x5 x6 x7 x8 x9 x10 x11 x12 x13 x14 x15 x16 x17 x18 x19 x20 x21 x22 x23 x24 x25 x26 x27 x28 x29 x30 x31 x32 x33 x34 x35 x36 x37 x38 x39 x40 x41 x42 x43 x44 x45 x46 x47 x48 x49 x50 x51 x52 x53 x54 x55 x56 x57 x58 x59 x60 x61 x62 x63 x64 x65 x66 x67 x68 x69 x70 x71 x72 x73 x74 x75 x76 x77 x78 x79 x80 x81 x82 x83 x84 x85 x86 x87 x88 x89 x90 x91 x92 : Value) (h : Heap) (k : Ex → St → Option β) : codeK Try.prog (evC Try.prog) loopL c9_15 ⟨#[x0, x1, x2, x3, x4, x5, x6, x7, x8, x9, x10, x11, x12, x13, x14, x15, x16, x17, x18, x19, x20, x21, x22, x23, x24, x25, x26, x27, x28, x29, x30, x31, x32, x33, x34, x35, x36, x37, x38, x39, x40, x41, x42, x43, x44, x45, x46, x47, x48, x49, x50, x51, x52, x53, x54, x55, x56, x57, x58, x59, x60, x61, x62, x63, x64, x65, x66, x67, x68, x69, x70, x71, x72, x73, x74, x75, x76, x77, x78, x79, x80, x81, x82, x83, x84, x85, x86, x87, x88, x89, x90, x91, x92], h⟩ k =
regD Try.prog (evC Try.prog) d9_0 0 ⟨#[x0, x1, x2, x3, x4, x5, x6, x7, x8, x9, x10, x11, x12, x13, x14, x15, x16, x17, x18, x19, x20, x21, x22, x23, x24, x25, x26, x27, x28, x29, x30, x31, x32, x33, x34, x35, x36, x37, x38, x39, x40, x41, x42, x43, x44, x45, x46, x47, x48, x49, x50, x51, x52, x53, x54, x55, x56, x57, x58, x59, x60, x61, x62, x63, x64, x65, x66, x67, x68, x69, x70, x71, x72, x73, x74, x75, x76, x77, x78, x79, x80, x81, x82, x83, x84, x85, x86, x87, x88, x89, x90, x91, x92], h⟩ [] [] (fun s => k .normal s) := by kernel_rfl
theorem c9_16_eq {β : Type} (x0 x1 x2 x3 x4 x5 x6 x7 x8 x9 x10 x11 x12 x13 x14 x15 x16 x17 x18 x19 x20 x21 x22 x23 x24 x25 x26 x27 x28 x29 x30 x31 x32 x33 x34 x35 x36 x37 x38 x39 x40 x41 x42 x43 x44 x45 x46 x47 x48 x49 x50 x51 x52 x53 x54 x55 x56 x57 x58 x59 x60 x61 x62 x63 x64 x65 x66 x67 x68 x69 x70 x71 x72 x73 x74 x75 x76 x77 x78 x79 x80 x81 x82 x83 x84 x85 x86 x87 x88 x89 x90 x91 x92 : Value) (h : Heap) (k : Ex → St → Option β) : codeK Try.prog (evC Try.prog) loopL c9_16 ⟨#[x0, x1, x2, x3, x4, x5, x6, x7, x8, x9, x10, x11, x12, x13, x14, x15, x16, x17, x18, x19, x20, x21, x22, x23, x24, x25, x26, x27, x28, x29, x30, x31, x32, x33, x34, x35, x36, x37, x38, x39, x40, x41, x42, x43, x44, x45, x46, x47, x48, x49, x50, x51, x52, x53, x54, x55, x56, x57, x58, x59, x60, x61, x62, x63, x64, x65, x66, x67, x68, x69, x70, x71, x72, x73, x74, x75, x76, x77, x78, x79, x80, x81, x82, x83, x84, x85, x86, x87, x88, x89, x90, x91, x92], h⟩ k =
k .ret ⟨#[x0, x1, x2, x3, x4, x5, x6, x7, x8, x9, x10, x11, x12, x13, x14, x15, x16, x17, x18, x19, x20, x21, x22, x23, x24, x25, x26, x27, x28, x29, x30, x31, x32, x33, x34, x35, x36, x37, x38, x39, x40, x41, x42, x43, x44, x45, x46, x47, x48, x49, x50, x51, x52, x53, x54, x55, x56, x57, x58, x59, x60, x61, x62, x63, x64, x65, x66, x67, x68, x69, x70, x71, x72, x73, x74, x75, x76, x77, x78, x79, x80, x81, x82, x83, x84, x85, x86, x87, x88, x89, x90, x91, x92], h⟩ := by kernel_rfl
theorem call9 (x0 x1 x2 : Value) (h : Heap) : evC Try.prog 9 #[x0, x1, x2] h = codeK Try.prog (evC Try.prog) loopL c9_0 ⟨#[x0, x1, x2, undef, undef, undef, undef, undef, undef, undef, undef, undef, undef, undef, undef, undef, undef, undef, undef, undef, undef, undef, undef, undef, undef, undef, undef, undef, undef, undef, undef, undef, undef, undef, undef, undef, undef, undef, undef, undef, undef, undef, undef, undef, undef, undef, undef, undef, undef, undef, undef, undef, undef, undef, undef, undef, undef, undef, undef, undef, undef, undef, undef, undef, undef, undef, undef, undef, undef, undef, undef, undef, undef, undef, undef, undef, undef, undef, undef, undef, undef, undef, undef, undef, undef, undef, undef, undef, undef, undef, undef, undef, undef], nm h⟩ (retK Try.f9 Try.prog h) :=
  (evC_call 9 Try.f9 c9_0 Try.func9 (by kernel_rfl) #[x0, x1, x2] h).trans (by kernel_rfl)
theorem ret9 (x0 x1 x2 x3 x4 x5 x6 x7 x8 x9 x10 x11 x12 x13 x14 x15 x16 x17 x18 x19 x20 x21 x22 x23 x24 x25 x26 x27 x28 x29 x30 x31 x32 x33 x34 x35 x36 x37 x38 x39 x40 x41 x42 x43 x44 x45 x46 x47 x48 x49 x50 x51 x52 x53 x54 x55 x56 x57 x58 x59 x60 x61 x62 x63 x64 x65 x66 x67 x68 x69 x70 x71 x72 x73 x74 x75 x76 x77 x78 x79 x80 x81 x82 x83 x84 x85 x86 x87 x88 x89 x90 x91 x92 : Value) (h0 h : Heap) : retK Try.f9 Try.prog h0 .ret ⟨#[x0, x1, x2, x3, x4, x5, x6, x7, x8, x9, x10, x11, x12, x13, x14, x15, x16, x17, x18, x19, x20, x21, x22, x23, x24, x25, x26, x27, x28, x29, x30, x31, x32, x33, x34, x35, x36, x37, x38, x39, x40, x41, x42, x43, x44, x45, x46, x47, x48, x49, x50, x51, x52, x53, x54, x55, x56, x57, x58, x59, x60, x61, x62, x63, x64, x65, x66, x67, x68, x69, x70, x71, x72, x73, x74, x75, x76, x77, x78, x79, x80, x81, x82, x83, x84, x85, x86, x87, x88, x89, x90, x91, x92], h⟩ = fin h0 (some x6) h := by kernel_rfl
theorem retn9 (x0 x1 x2 x3 x4 x5 x6 x7 x8 x9 x10 x11 x12 x13 x14 x15 x16 x17 x18 x19 x20 x21 x22 x23 x24 x25 x26 x27 x28 x29 x30 x31 x32 x33 x34 x35 x36 x37 x38 x39 x40 x41 x42 x43 x44 x45 x46 x47 x48 x49 x50 x51 x52 x53 x54 x55 x56 x57 x58 x59 x60 x61 x62 x63 x64 x65 x66 x67 x68 x69 x70 x71 x72 x73 x74 x75 x76 x77 x78 x79 x80 x81 x82 x83 x84 x85 x86 x87 x88 x89 x90 x91 x92 : Value) (h0 h : Heap) : retK Try.f9 Try.prog h0 .normal ⟨#[x0, x1, x2, x3, x4, x5, x6, x7, x8, x9, x10, x11, x12, x13, x14, x15, x16, x17, x18, x19, x20, x21, x22, x23, x24, x25, x26, x27, x28, x29, x30, x31, x32, x33, x34, x35, x36, x37, x38, x39, x40, x41, x42, x43, x44, x45, x46, x47, x48, x49, x50, x51, x52, x53, x54, x55, x56, x57, x58, x59, x60, x61, x62, x63, x64, x65, x66, x67, x68, x69, x70, x71, x72, x73, x74, x75, x76, x77, x78, x79, x80, x81, x82, x83, x84, x85, x86, x87, x88, x89, x90, x91, x92], h⟩ = fin h0 (some x6) h := by kernel_rfl
end Go.Am
