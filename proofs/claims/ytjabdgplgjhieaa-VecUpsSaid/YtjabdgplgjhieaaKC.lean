/- What the texts of functions come to in the machine (printed by a program of this seat; Lean checks it). -/
import Derived.Test.YtjabdgplgjhieaaKB
import Derived.Test.YtjabdgplgjhieaaChecked
import Derived.KernelRfl
set_option linter.all false
namespace Go.Am
open Go.Proofs
set_option maxRecDepth 100000
noncomputable def c16_0 : Code := bodyC Try.f16 []
theorem c16_0_eq {β : Type} (x0 x1 x2 x3 x4 x5 x6 x7 x8 x9 x10 x11 x12 x13 x14 x15 x16 : Value) (h : Heap) (k : Ex → St → Option β) : codeK Try.prog (evC Try.prog) loopL c16_0 ⟨#[x0, x1, x2, x3, x4, x5, x6, x7, x8, x9, x10, x11, x12, x13, x14, x15, x16], h⟩ k =
(binV Try.prog .lss 3 (.tmp 5) (.const (Go.Value.int Go.IntKind.i64 0)) x1 (Go.Value.int Go.IntKind.i64 0)).bind fun t6_0 =>
(gd (wt t6_0 false) (lenV Try.prog 27 (gdV (wt t6_0 false) x0) h)).bind fun t10_1 =>
(gd (wt t6_0 false) (binV Try.prog .geq 3 (.tmp 8) (.tmp 10) (gdV (wt t6_0 false) x1) t10_1)).bind fun t11_2 =>
(pickV t6_0 (Go.Value.bool Bool.true) t11_2).bind fun t12_3 =>
cnd t12_3 (
k .ret ⟨#[x0, x1, x2, x3, (Go.Value.int Go.IntKind.u64 0), x1, t6_0, t6_0, (gdV (wt t6_0 false) x1), (gdV (wt t6_0 false) x0), t10_1, t11_2, t12_3, x13, x14, x15, x16], h⟩) (
(indexAddrV Try.prog 27 x0 x1).bind fun t15_4 =>
(loadV Try.prog 29 t15_4 h).bind fun t16_5 =>
k .ret ⟨#[x0, x1, x2, x3, t16_5, x1, t6_0, t6_0, (gdV (wt t6_0 false) x1), (gdV (wt t6_0 false) x0), t10_1, t11_2, t12_3, x0, x1, t15_4, t16_5], h⟩) := by kernel_rfl
theorem call16 (x0 x1 : Value) (h : Heap) : evC Try.prog 16 #[x0, x1] h = codeK Try.prog (evC Try.prog) loopL c16_0 ⟨#[x0, x1, undef, undef, undef, undef, undef, undef, undef, undef, undef, undef, undef, undef, undef, undef, undef], nm h⟩ (retK Try.f16 Try.prog h) :=
  (evC_call 16 Try.f16 c16_0 Try.func16 (by kernel_rfl) #[x0, x1] h).trans (by kernel_rfl)
theorem ret16 (x0 x1 x2 x3 x4 x5 x6 x7 x8 x9 x10 x11 x12 x13 x14 x15 x16 : Value) (h0 h : Heap) : retK Try.f16 Try.prog h0 .ret ⟨#[x0, x1, x2, x3, x4, x5, x6, x7, x8, x9, x10, x11, x12, x13, x14, x15, x16], h⟩ = fin h0 (some x4) h := by kernel_rfl
theorem retn16 (x0 x1 x2 x3 x4 x5 x6 x7 x8 x9 x10 x11 x12 x13 x14 x15 x16 : Value) (h0 h : Heap) : retK Try.f16 Try.prog h0 .normal ⟨#[x0, x1, x2, x3, x4, x5, x6, x7, x8, x9, x10, x11, x12, x13, x14, x15, x16], h⟩ = fin h0 (some x4) h := by kernel_rfl
end Go.Am
namespace Go.Am
open Go.Proofs
set_option maxRecDepth 100000
noncomputable def c14_0 : Code := bodyC Try.f14 []
theorem c14_0_eq {β : Type} (x0 x1 x2 x3 x4 x5 x6 : Value) (h : Heap) (k : Ex → St → Option β) : codeK Try.prog (evC Try.prog) loopL c14_0 ⟨#[x0, x1, x2, x3, x4, x5, x6], h⟩ k =
obH (builtinV Try.prog .max #[3, 3] #[x0, (Go.Value.int Go.IntKind.i64 0)] h) fun t4_0 h1 =>
obH (builtinV Try.prog .min #[3, 3] #[t4_0, (Go.Value.int Go.IntKind.i64 64)] h1) fun t5_2 h3 =>
obH (makeSliceV Try.prog 27 t5_2 t5_2 h3) fun t6_4 h5 =>
k .ret ⟨#[x0, x1, t6_4, x0, t4_0, t5_2, t6_4], h5⟩ := by kernel_rfl
theorem call14 (x0 : Value) (h : Heap) : evC Try.prog 14 #[x0] h = codeK Try.prog (evC Try.prog) loopL c14_0 ⟨#[x0, undef, undef, undef, undef, undef, undef], nm h⟩ (retK Try.f14 Try.prog h) :=
  (evC_call 14 Try.f14 c14_0 Try.func14 (by kernel_rfl) #[x0] h).trans (by kernel_rfl)
theorem ret14 (x0 x1 x2 x3 x4 x5 x6 : Value) (h0 h : Heap) : retK Try.f14 Try.prog h0 .ret ⟨#[x0, x1, x2, x3, x4, x5, x6], h⟩ = fin h0 (some x2) h := by kernel_rfl
theorem retn14 (x0 x1 x2 x3 x4 x5 x6 : Value) (h0 h : Heap) : retK Try.f14 Try.prog h0 .normal ⟨#[x0, x1, x2, x3, x4, x5, x6], h⟩ = fin h0 (some x2) h := by kernel_rfl
end Go.Am
namespace Go.Am
open Go.Proofs
set_option maxRecDepth 100000
noncomputable def c13_0 : Code := bodyC Try.f13 []
noncomputable def c13_1 : Code := bodyC Try.f13 [true, true, false, true, false, false]
noncomputable def c13_2 : Code := bodyC Try.f13 [true, true, true]
theorem c13_0_eq {β : Type} (x0 x1 x2 x3 x4 x5 x6 x7 x8 x9 x10 x11 x12 x13 x14 x15 x16 x17 x18 x19 x20 x21 x22 x23 x24 x25 x26 x27 x28 x29 x30 x31 x32 x33 x34 x35 x36 x37 x38 x39 x40 x41 x42 x43 x44 x45 : Value) (h : Heap) (k : Ex → St → Option β) : codeK Try.prog (evC Try.prog) loopL c13_0 ⟨#[x0, x1, x2, x3, x4, x5, x6, x7, x8, x9, x10, x11, x12, x13, x14, x15, x16, x17, x18, x19, x20, x21, x22, x23, x24, x25, x26, x27, x28, x29, x30, x31, x32, x33, x34, x35, x36, x37, x38, x39, x40, x41, x42, x43, x44, x45], h⟩ k =
(lenV Try.prog 27 x0 h).bind fun t11_0 =>
(lenV Try.prog 27 x1 h).bind fun t13_1 =>
obH (builtinV Try.prog .max #[3, 3] #[t11_0, t13_1] h) fun t14_2 h3 =>
loopK Try.prog (evC Try.prog) c13_1 ⟨#[x0, x1, x2, x3, (Go.Value.int Go.IntKind.i64 0), (Go.Value.bool Bool.false), (Go.Value.bool Bool.false), x7, x8, x9, x0, t11_0, x1, t13_1, t14_2, (Go.Value.int Go.IntKind.i64 0), x16, x17, x18, x19, x20, x21, x22, x23, x24, x25, x26, x27, x28, x29, x30, x31, x32, x33, x34, x35, x36, x37, x38, x39, x40, x41, x42, x43, x44, x45], h3⟩ (blockK 0 (seqK Try.prog (evC Try.prog) c13_2 k)) := by kernel_rfl
theorem c13_1_eq {β : Type} (x0 x1 x2 x3 x4 x5 x6 x7 x8 x9 x10 x11 x12 x13 x14 x15 x16 x17 x18 x19 x20 x21 x22 x23 x24 x25 x26 x27 x28 x29 x30 x31 x32 x33 x34 x35 x36 x37 x38 x39 x40 x41 x42 x43 x44 x45 : Value) (h : Heap) (k : Ex → St → Option β) : codeK Try.prog (evC Try.prog) loopL c13_1 ⟨#[x0, x1, x2, x3, x4, x5, x6, x7, x8, x9, x10, x11, x12, x13, x14, x15, x16, x17, x18, x19, x20, x21, x22, x23, x24, x25, x26, x27, x28, x29, x30, x31, x32, x33, x34, x35, x36, x37, x38, x39, x40, x41, x42, x43, x44, x45], h⟩ k =
(binV Try.prog .lss 3 (.tmp 15) (.tmp 14) x15 x14).bind fun t16_4 =>
cnd t16_4 (
obH (evC Try.prog 16 #[x0, x15] h) fun t20_5 h6 =>
obH (evC Try.prog 16 #[x1, x15] h6) fun t23_7 h8 =>
(gd (wt x5 false) (binV Try.prog .lss 29 (.tmp 26) (.tmp 27) (gdV (wt x5 false) t20_5) (gdV (wt x5 false) t23_7))).bind fun t28_9 =>
(pickV x5 (Go.Value.bool Bool.true) t28_9).bind fun t29_10 =>
(gd (wt x6 false) (binV Try.prog .gtr 29 (.tmp 32) (.tmp 33) (gdV (wt x6 false) t20_5) (gdV (wt x6 false) t23_7))).bind fun t34_11 =>
(pickV x6 (Go.Value.bool Bool.true) t34_11).bind fun t35_12 =>
(binV Try.prog .add 3 (.tmp 15) (.const (Go.Value.int Go.IntKind.i64 1)) x15 (Go.Value.int Go.IntKind.i64 1)).bind fun t36_13 =>
k .normal ⟨#[x0, x1, x2, x3, x4, t29_10, t35_12, x15, t20_5, t23_7, x10, x11, x12, x13, x14, t36_13, t16_4, x15, x0, x15, t20_5, x1, x15, t23_7, x5, x5, (gdV (wt x5 false) t20_5), (gdV (wt x5 false) t23_7), t28_9, t29_10, x6, x6, (gdV (wt x6 false) t20_5), (gdV (wt x6 false) t23_7), t34_11, t35_12, t36_13, x37, x38, x39, x40, x41, x42, x43, x44, x45], h8⟩) (
k (.exit 0) ⟨#[x0, x1, x2, x3, x4, x5, x6, x7, x8, x9, x10, x11, x12, x13, x14, x15, t16_4, x17, x18, x19, x20, x21, x22, x23, x24, x25, x26, x27, x28, x29, x30, x31, x32, x33, x34, x35, x36, x37, x38, x39, x40, x41, x42, x43, x44, x45], h⟩) := by kernel_rfl
theorem c13_2_eq {β : Type} (x0 x1 x2 x3 x4 x5 x6 x7 x8 x9 x10 x11 x12 x13 x14 x15 x16 x17 x18 x19 x20 x21 x22 x23 x24 x25 x26 x27 x28 x29 x30 x31 x32 x33 x34 x35 x36 x37 x38 x39 x40 x41 x42 x43 x44 x45 : Value) (h : Heap) (k : Ex → St → Option β) : codeK Try.prog (evC Try.prog) loopL c13_2 ⟨#[x0, x1, x2, x3, x4, x5, x6, x7, x8, x9, x10, x11, x12, x13, x14, x15, x16, x17, x18, x19, x20, x21, x22, x23, x24, x25, x26, x27, x28, x29, x30, x31, x32, x33, x34, x35, x36, x37, x38, x39, x40, x41, x42, x43, x44, x45], h⟩ k =
(pickV x5 (gdV (wt x5 true) x6) (Go.Value.bool Bool.false)).bind fun t41_14 =>
cnd t41_14 (
k .ret ⟨#[x0, x1, x2, x3, (Go.Value.int Go.IntKind.i64 2), x5, x6, x7, x8, x9, x10, x11, x12, x13, x14, x15, x16, x17, x18, x19, x20, x21, x22, x23, x24, x25, x26, x27, x28, x29, x30, x31, x32, x33, x34, x35, x36, t41_14, x5, x5, (gdV (wt x5 true) x6), t41_14, x42, x43, x44, x45], h⟩) (
cnd x5 (
k .ret ⟨#[x0, x1, x2, x3, (Go.Value.int Go.IntKind.i64 (-1)), x5, x6, x7, x8, x9, x10, x11, x12, x13, x14, x15, x16, x17, x18, x19, x20, x21, x22, x23, x24, x25, x26, x27, x28, x29, x30, x31, x32, x33, x34, x35, x36, t41_14, x5, x5, (gdV (wt x5 true) x6), t41_14, x5, x5, x44, x45], h⟩) (
cnd x6 (
k .ret ⟨#[x0, x1, x2, x3, (Go.Value.int Go.IntKind.i64 1), x5, x6, x7, x8, x9, x10, x11, x12, x13, x14, x15, x16, x17, x18, x19, x20, x21, x22, x23, x24, x25, x26, x27, x28, x29, x30, x31, x32, x33, x34, x35, x36, t41_14, x5, x5, (gdV (wt x5 true) x6), t41_14, x5, x5, x6, x6], h⟩) (
k .ret ⟨#[x0, x1, x2, x3, (Go.Value.int Go.IntKind.i64 0), x5, x6, x7, x8, x9, x10, x11, x12, x13, x14, x15, x16, x17, x18, x19, x20, x21, x22, x23, x24, x25, x26, x27, x28, x29, x30, x31, x32, x33, x34, x35, x36, t41_14, x5, x5, (gdV (wt x5 true) x6), t41_14, x5, x5, x6, x6], h⟩))) := by kernel_rfl
theorem call13 (x0 x1 : Value) (h : Heap) : evC Try.prog 13 #[x0, x1] h = codeK Try.prog (evC Try.prog) loopL c13_0 ⟨#[x0, x1, undef, undef, undef, undef, undef, undef, undef, undef, undef, undef, undef, undef, undef, undef, undef, undef, undef, undef, undef, undef, undef, undef, undef, undef, undef, undef, undef, undef, undef, undef, undef, undef, undef, undef, undef, undef, undef, undef, undef, undef, undef, undef, undef, undef], nm h⟩ (retK Try.f13 Try.prog h) :=
  (evC_call 13 Try.f13 c13_0 Try.func13 (by kernel_rfl) #[x0, x1] h).trans (by kernel_rfl)
theorem ret13 (x0 x1 x2 x3 x4 x5 x6 x7 x8 x9 x10 x11 x12 x13 x14 x15 x16 x17 x18 x19 x20 x21 x22 x23 x24 x25 x26 x27 x28 x29 x30 x31 x32 x33 x34 x35 x36 x37 x38 x39 x40 x41 x42 x43 x44 x45 : Value) (h0 h : Heap) : retK Try.f13 Try.prog h0 .ret ⟨#[x0, x1, x2, x3, x4, x5, x6, x7, x8, x9, x10, x11, x12, x13, x14, x15, x16, x17, x18, x19, x20, x21, x22, x23, x24, x25, x26, x27, x28, x29, x30, x31, x32, x33, x34, x35, x36, x37, x38, x39, x40, x41, x42, x43, x44, x45], h⟩ = fin h0 (some x4) h := by kernel_rfl
theorem retn13 (x0 x1 x2 x3 x4 x5 x6 x7 x8 x9 x10 x11 x12 x13 x14 x15 x16 x17 x18 x19 x20 x21 x22 x23 x24 x25 x26 x27 x28 x29 x30 x31 x32 x33 x34 x35 x36 x37 x38 x39 x40 x41 x42 x43 x44 x45 : Value) (h0 h : Heap) : retK Try.f13 Try.prog h0 .normal ⟨#[x0, x1, x2, x3, x4, x5, x6, x7, x8, x9, x10, x11, x12, x13, x14, x15, x16, x17, x18, x19, x20, x21, x22, x23, x24, x25, x26, x27, x28, x29, x30, x31, x32, x33, x34, x35, x36, x37, x38, x39, x40, x41, x42, x43, x44, x45], h⟩ = fin h0 (some x4) h := by kernel_rfl
end Go.Am
namespace Go.Am
open Go.Proofs
set_option maxRecDepth 100000
noncomputable def c42_0 : Code := bodyC Try.f42 []
theorem c42_0_eq {β : Type} (x0 x1 x2 x3 x4 x5 x6 x7 x8 x9 x10 x11 x12 x13 x14 x15 x16 x17 x18 : Value) (h : Heap) (k : Ex → St → Option β) : codeK Try.prog (evC Try.prog) loopL c42_0 ⟨#[x0, x1, x2, x3, x4, x5, x6, x7, x8, x9, x10, x11, x12, x13, x14, x15, x16, x17, x18], h⟩ k =
obH (evC Try.prog 41 #[x0] h) fun t7_0 h1 =>
(lenV Try.prog 27 t7_0 h1).bind fun t10_2 =>
(binV Try.prog .gtr 3 (.tmp 8) (.tmp 10) x1 t10_2).bind fun t11_3 =>
cnd t11_3 (
(lenV Try.prog 27 t7_0 h1).bind fun t15_4 =>
(binV Try.prog .sub 3 (.tmp 13) (.tmp 15) x1 t15_4).bind fun t16_5 =>
obH (appendV Try.prog 27 (some 3) t7_0 t16_5 h1) fun t17_6 h7 =>
k .ret ⟨#[x0, x1, x2, x3, t17_6, t17_6, x0, t7_0, x1, t7_0, t10_2, t11_3, t7_0, x1, t7_0, t15_4, t16_5, t17_6, t17_6], h7⟩) (
k .ret ⟨#[x0, x1, x2, x3, t7_0, t7_0, x0, t7_0, x1, t7_0, t10_2, t11_3, x12, x13, x14, x15, x16, x17, t7_0], h1⟩) := by kernel_rfl
theorem call42 (x0 x1 : Value) (h : Heap) : evC Try.prog 42 #[x0, x1] h = codeK Try.prog (evC Try.prog) loopL c42_0 ⟨#[x0, x1, undef, undef, undef, undef, undef, undef, undef, undef, undef, undef, undef, undef, undef, undef, undef, undef, undef], nm h⟩ (retK Try.f42 Try.prog h) :=
  (evC_call 42 Try.f42 c42_0 Try.func42 (by kernel_rfl) #[x0, x1] h).trans (by kernel_rfl)
theorem ret42 (x0 x1 x2 x3 x4 x5 x6 x7 x8 x9 x10 x11 x12 x13 x14 x15 x16 x17 x18 : Value) (h0 h : Heap) : retK Try.f42 Try.prog h0 .ret ⟨#[x0, x1, x2, x3, x4, x5, x6, x7, x8, x9, x10, x11, x12, x13, x14, x15, x16, x17, x18], h⟩ = fin h0 (some x4) h := by kernel_rfl
theorem retn42 (x0 x1 x2 x3 x4 x5 x6 x7 x8 x9 x10 x11 x12 x13 x14 x15 x16 x17 x18 : Value) (h0 h : Heap) : retK Try.f42 Try.prog h0 .normal ⟨#[x0, x1, x2, x3, x4, x5, x6, x7, x8, x9, x10, x11, x12, x13, x14, x15, x16, x17, x18], h⟩ = fin h0 (some x4) h := by kernel_rfl
end Go.Am
namespace Go.Am
open Go.Proofs
set_option maxRecDepth 100000
noncomputable def c15_0 : Code := bodyC Try.f15 []
theorem c15_0_eq {β : Type} (x0 x1 x2 x3 x4 x5 x6 x7 x8 x9 x10 x11 x12 x13 x14 x15 x16 x17 x18 x19 x20 x21 x22 x23 x24 x25 x26 x27 x28 x29 x30 x31 : Value) (h : Heap) (k : Ex → St → Option β) : codeK Try.prog (evC Try.prog) loopL c15_0 ⟨#[x0, x1, x2, x3, x4, x5, x6, x7, x8, x9, x10, x11, x12, x13, x14, x15, x16, x17, x18, x19, x20, x21, x22, x23, x24, x25, x26, x27, x28, x29, x30, x31], h⟩ k =
(binV Try.prog .lss 3 (.tmp 7) (.const (Go.Value.int Go.IntKind.i64 0)) x1 (Go.Value.int Go.IntKind.i64 0)).bind fun t8_0 =>
(gd (wt t8_0 false) (binV Try.prog .geq 3 (.tmp 10) (.const (Go.Value.int Go.IntKind.i64 64)) (gdV (wt t8_0 false) x1) (Go.Value.int Go.IntKind.i64 64))).bind fun t11_1 =>
(pickV t8_0 (Go.Value.bool Bool.true) t11_1).bind fun t12_2 =>
obH (gdH (wt t12_2 false) h (evC Try.prog 16 #[(gdV (wt t12_2 false) x0), (gdV (wt t12_2 false) x1)] h)) fun t16_3 h4 =>
(gd (wt t12_2 false) (binV Try.prog .eql 29 (.tmp 16) (.const (Go.Value.int Go.IntKind.u64 18446744073709551615)) t16_3 (Go.Value.int Go.IntKind.u64 18446744073709551615))).bind fun t17_5 =>
(pickV t12_2 (Go.Value.bool Bool.true) t17_5).bind fun t18_6 =>
cnd t18_6 (
obH (evC Try.prog 41 #[x0] h4) fun t20_7 h8 =>
k .ret ⟨#[x0, x1, x2, x3, t20_7, (Go.Value.bool Bool.false), x6, x1, t8_0, t8_0, (gdV (wt t8_0 false) x1), t11_1, t12_2, t12_2, (gdV (wt t12_2 false) x0), (gdV (wt t12_2 false) x1), t16_3, t17_5, t18_6, x0, t20_7, x21, x22, x23, x24, x25, x26, x27, x28, x29, x30, x31], h8⟩) (
(binV Try.prog .add 3 (.tmp 22) (.const (Go.Value.int Go.IntKind.i64 1)) x1 (Go.Value.int Go.IntKind.i64 1)).bind fun t23_9 =>
obH (evC Try.prog 42 #[x0, t23_9] h4) fun t24_10 h11 =>
(indexAddrV Try.prog 27 t24_10 x1).bind fun t27_12 =>
(loadV Try.prog 29 t27_12 h11).bind fun t28_13 =>
(binV Try.prog .add 29 (.tmp 28) (.const (Go.Value.int Go.IntKind.u64 1)) t28_13 (Go.Value.int Go.IntKind.u64 1)).bind fun t29_14 =>
(indexAddrV Try.prog 27 t24_10 x1).bind fun t30_15 =>
(storeV Try.prog 29 t30_15 t29_14 h11).bind fun h16 =>
k .ret ⟨#[x0, x1, x2, x3, t24_10, (Go.Value.bool Bool.true), t24_10, x1, t8_0, t8_0, (gdV (wt t8_0 false) x1), t11_1, t12_2, t12_2, (gdV (wt t12_2 false) x0), (gdV (wt t12_2 false) x1), t16_3, t17_5, t18_6, x19, x20, x0, x1, t23_9, t24_10, t24_10, x1, t27_12, t28_13, t29_14, t30_15, t24_10], h16⟩) := by kernel_rfl
theorem call15 (x0 x1 : Value) (h : Heap) : evC Try.prog 15 #[x0, x1] h = codeK Try.prog (evC Try.prog) loopL c15_0 ⟨#[x0, x1, undef, undef, undef, undef, undef, undef, undef, undef, undef, undef, undef, undef, undef, undef, undef, undef, undef, undef, undef, undef, undef, undef, undef, undef, undef, undef, undef, undef, undef, undef], nm h⟩ (retK Try.f15 Try.prog h) :=
  (evC_call 15 Try.f15 c15_0 Try.func15 (by kernel_rfl) #[x0, x1] h).trans (by kernel_rfl)
theorem ret15 (x0 x1 x2 x3 x4 x5 x6 x7 x8 x9 x10 x11 x12 x13 x14 x15 x16 x17 x18 x19 x20 x21 x22 x23 x24 x25 x26 x27 x28 x29 x30 x31 : Value) (h0 h : Heap) : retK Try.f15 Try.prog h0 .ret ⟨#[x0, x1, x2, x3, x4, x5, x6, x7, x8, x9, x10, x11, x12, x13, x14, x15, x16, x17, x18, x19, x20, x21, x22, x23, x24, x25, x26, x27, x28, x29, x30, x31], h⟩ = fin h0 (some (.tuple #[x4, x5])) h := by kernel_rfl
theorem retn15 (x0 x1 x2 x3 x4 x5 x6 x7 x8 x9 x10 x11 x12 x13 x14 x15 x16 x17 x18 x19 x20 x21 x22 x23 x24 x25 x26 x27 x28 x29 x30 x31 : Value) (h0 h : Heap) : retK Try.f15 Try.prog h0 .normal ⟨#[x0, x1, x2, x3, x4, x5, x6, x7, x8, x9, x10, x11, x12, x13, x14, x15, x16, x17, x18, x19, x20, x21, x22, x23, x24, x25, x26, x27, x28, x29, x30, x31], h⟩ = fin h0 (some (.tuple #[x4, x5])) h := by kernel_rfl
end Go.Am
namespace Go.Am
open Go.Proofs
set_option maxRecDepth 100000
noncomputable def c18_0 : Code := bodyC Try.f18 []
noncomputable def c18_1 : Code := bodyC Try.f18 [true, true, false, true, false, false]
noncomputable def c18_2 : Code := bodyC Try.f18 [true, true, true]
theorem c18_0_eq {β : Type} (x0 x1 x2 x3 x4 x5 x6 x7 x8 x9 x10 x11 x12 x13 x14 x15 x16 x17 x18 x19 x20 x21 x22 x23 x24 x25 x26 x27 x28 x29 : Value) (h : Heap) (k : Ex → St → Option β) : codeK Try.prog (evC Try.prog) loopL c18_0 ⟨#[x0, x1, x2, x3, x4, x5, x6, x7, x8, x9, x10, x11, x12, x13, x14, x15, x16, x17, x18, x19, x20, x21, x22, x23, x24, x25, x26, x27, x28, x29], h⟩ k =
(lenV Try.prog 27 x1 h).bind fun t10_0 =>
obH (evC Try.prog 42 #[x0, t10_0] h) fun t11_1 h2 =>
(lenV Try.prog 27 x1 h2).bind fun t13_3 =>
loopK Try.prog (evC Try.prog) c18_1 ⟨#[x0, x1, x2, x3, (Go.Value.slice Option.none 0 0), t11_1, x6, x7, x0, x1, t10_0, t11_1, x1, t13_3, (Go.Value.int Go.IntKind.i64 0), x15, x16, x17, x18, x19, x20, x21, x22, x23, x24, x25, x26, x27, x28, x29], h2⟩ (blockK 0 (seqK Try.prog (evC Try.prog) c18_2 k)) := by kernel_rfl
theorem c18_1_eq {β : Type} (x0 x1 x2 x3 x4 x5 x6 x7 x8 x9 x10 x11 x12 x13 x14 x15 x16 x17 x18 x19 x20 x21 x22 x23 x24 x25 x26 x27 x28 x29 : Value) (h : Heap) (k : Ex → St → Option β) : codeK Try.prog (evC Try.prog) loopL c18_1 ⟨#[x0, x1, x2, x3, x4, x5, x6, x7, x8, x9, x10, x11, x12, x13, x14, x15, x16, x17, x18, x19, x20, x21, x22, x23, x24, x25, x26, x27, x28, x29], h⟩ k =
(binV Try.prog .lss 3 (.tmp 14) (.tmp 13) x14 x13).bind fun t15_4 =>
cnd t15_4 (
(indexAddrV Try.prog 27 x12 x14).bind fun t17_5 =>
(loadV Try.prog 29 t17_5 h).bind fun t18_6 =>
(indexAddrV Try.prog 27 x5 x14).bind fun t23_7 =>
(loadV Try.prog 29 t23_7 h).bind fun t24_8 =>
obH (builtinV Try.prog .max #[29, 29] #[t24_8, t18_6] h) fun t26_9 h10 =>
(indexAddrV Try.prog 27 x5 x14).bind fun t27_11 =>
(storeV Try.prog 29 t27_11 t26_9 h10).bind fun h12 =>
(binV Try.prog .add 3 (.tmp 14) (.const (Go.Value.int Go.IntKind.i64 1)) x14 (Go.Value.int Go.IntKind.i64 1)).bind fun t28_13 =>
k .normal ⟨#[x0, x1, x2, x3, x4, x5, x14, t18_6, x8, x9, x10, x11, x12, x13, t28_13, t15_4, x14, t17_5, t18_6, x5, x14, x5, x14, t23_7, t24_8, t18_6, t26_9, t27_11, t28_13, x29], h12⟩) (
k (.exit 0) ⟨#[x0, x1, x2, x3, x4, x5, x6, x7, x8, x9, x10, x11, x12, x13, x14, t15_4, x16, x17, x18, x19, x20, x21, x22, x23, x24, x25, x26, x27, x28, x29], h⟩) := by kernel_rfl
theorem c18_2_eq {β : Type} (x0 x1 x2 x3 x4 x5 x6 x7 x8 x9 x10 x11 x12 x13 x14 x15 x16 x17 x18 x19 x20 x21 x22 x23 x24 x25 x26 x27 x28 x29 : Value) (h : Heap) (k : Ex → St → Option β) : codeK Try.prog (evC Try.prog) loopL c18_2 ⟨#[x0, x1, x2, x3, x4, x5, x6, x7, x8, x9, x10, x11, x12, x13, x14, x15, x16, x17, x18, x19, x20, x21, x22, x23, x24, x25, x26, x27, x28, x29], h⟩ k =
k .ret ⟨#[x0, x1, x2, x3, x5, x5, x6, x7, x8, x9, x10, x11, x12, x13, x14, x15, x16, x17, x18, x19, x20, x21, x22, x23, x24, x25, x26, x27, x28, x5], h⟩ := by kernel_rfl
theorem call18 (x0 x1 : Value) (h : Heap) : evC Try.prog 18 #[x0, x1] h = codeK Try.prog (evC Try.prog) loopL c18_0 ⟨#[x0, x1, undef, undef, undef, undef, undef, undef, undef, undef, undef, undef, undef, undef, undef, undef, undef, undef, undef, undef, undef, undef, undef, undef, undef, undef, undef, undef, undef, undef], nm h⟩ (retK Try.f18 Try.prog h) :=
  (evC_call 18 Try.f18 c18_0 Try.func18 (by kernel_rfl) #[x0, x1] h).trans (by kernel_rfl)
theorem ret18 (x0 x1 x2 x3 x4 x5 x6 x7 x8 x9 x10 x11 x12 x13 x14 x15 x16 x17 x18 x19 x20 x21 x22 x23 x24 x25 x26 x27 x28 x29 : Value) (h0 h : Heap) : retK Try.f18 Try.prog h0 .ret ⟨#[x0, x1, x2, x3, x4, x5, x6, x7, x8, x9, x10, x11, x12, x13, x14, x15, x16, x17, x18, x19, x20, x21, x22, x23, x24, x25, x26, x27, x28, x29], h⟩ = fin h0 (some x4) h := by kernel_rfl
theorem retn18 (x0 x1 x2 x3 x4 x5 x6 x7 x8 x9 x10 x11 x12 x13 x14 x15 x16 x17 x18 x19 x20 x21 x22 x23 x24 x25 x26 x27 x28 x29 : Value) (h0 h : Heap) : retK Try.f18 Try.prog h0 .normal ⟨#[x0, x1, x2, x3, x4, x5, x6, x7, x8, x9, x10, x11, x12, x13, x14, x15, x16, x17, x18, x19, x20, x21, x22, x23, x24, x25, x26, x27, x28, x29], h⟩ = fin h0 (some x4) h := by kernel_rfl
end Go.Am
namespace Go.Am
open Go.Proofs
set_option maxRecDepth 100000
noncomputable def c41_0 : Code := bodyC Try.f41 []
theorem c41_0_eq {β : Type} (x0 x1 x2 x3 x4 x5 x6 x7 : Value) (h : Heap) (k : Ex → St → Option β) : codeK Try.prog (evC Try.prog) loopL c41_0 ⟨#[x0, x1, x2, x3, x4, x5, x6, x7], h⟩ k =
(binV Try.prog .eql 27 (.tmp 3) (.const (Go.Value.slice Option.none 0 0)) x0 (Go.Value.slice Option.none 0 0)).bind fun t4_0 =>
cnd t4_0 (
k .ret ⟨#[x0, x1, (Go.Value.slice Option.none 0 0), x0, t4_0, x5, x6, x7], h⟩) (
obH (buildSliceV Try.prog 27 0 #[] h) fun t5_1 h2 =>
obH (appendV Try.prog 27 (some 27) t5_1 x0 h2) fun t7_3 h4 =>
k .ret ⟨#[x0, x1, t7_3, x0, t4_0, t5_1, x0, t7_3], h4⟩) := by kernel_rfl
theorem call41 (x0 : Value) (h : Heap) : evC Try.prog 41 #[x0] h = codeK Try.prog (evC Try.prog) loopL c41_0 ⟨#[x0, undef, undef, undef, undef, undef, undef, undef], nm h⟩ (retK Try.f41 Try.prog h) :=
  (evC_call 41 Try.f41 c41_0 Try.func41 (by kernel_rfl) #[x0] h).trans (by kernel_rfl)
theorem ret41 (x0 x1 x2 x3 x4 x5 x6 x7 : Value) (h0 h : Heap) : retK Try.f41 Try.prog h0 .ret ⟨#[x0, x1, x2, x3, x4, x5, x6, x7], h⟩ = fin h0 (some x2) h := by kernel_rfl
theorem retn41 (x0 x1 x2 x3 x4 x5 x6 x7 : Value) (h0 h : Heap) : retK Try.f41 Try.prog h0 .normal ⟨#[x0, x1, x2, x3, x4, x5, x6, x7], h⟩ = fin h0 (some x2) h := by kernel_rfl
end Go.Am
namespace Go.Am
open Go.Proofs
set_option maxRecDepth 100000
noncomputable def c22_0 : Code := bodyC Try.f22 []
theorem c22_0_eq {β : Type} (x0 x1 x2 x3 x4 x5 x6 x7 x8 x9 x10 x11 x12 x13 x14 x15 x16 : Value) (h : Heap) (k : Ex → St → Option β) : codeK Try.prog (evC Try.prog) loopL c22_0 ⟨#[x0, x1, x2, x3, x4, x5, x6, x7, x8, x9, x10, x11, x12, x13, x14, x15, x16], h⟩ k =
(binV Try.prog .lss 3 (.tmp 5) (.const (Go.Value.int Go.IntKind.i64 0)) x1 (Go.Value.int Go.IntKind.i64 0)).bind fun t6_0 =>
(gd (wt t6_0 false) (lenV Try.prog 22 (gdV (wt t6_0 false) x0) h)).bind fun t10_1 =>
(gd (wt t6_0 false) (binV Try.prog .geq 3 (.tmp 8) (.tmp 10) (gdV (wt t6_0 false) x1) t10_1)).bind fun t11_2 =>
(pickV t6_0 (Go.Value.bool Bool.true) t11_2).bind fun t12_3 =>
cnd t12_3 (
k .ret ⟨#[x0, x1, x2, x3, (Go.Value.int Go.IntKind.u64 0), x1, t6_0, t6_0, (gdV (wt t6_0 false) x1), (gdV (wt t6_0 false) x0), t10_1, t11_2, t12_3, x13, x14, x15, x16], h⟩) (
(indexAddrV Try.prog 22 x0 x1).bind fun t15_4 =>
(loadV Try.prog 29 t15_4 h).bind fun t16_5 =>
k .ret ⟨#[x0, x1, x2, x3, t16_5, x1, t6_0, t6_0, (gdV (wt t6_0 false) x1), (gdV (wt t6_0 false) x0), t10_1, t11_2, t12_3, x0, x1, t15_4, t16_5], h⟩) := by kernel_rfl
theorem call22 (x0 x1 : Value) (h : Heap) : evC Try.prog 22 #[x0, x1] h = codeK Try.prog (evC Try.prog) loopL c22_0 ⟨#[x0, x1, undef, undef, undef, undef, undef, undef, undef, undef, undef, undef, undef, undef, undef, undef, undef], nm h⟩ (retK Try.f22 Try.prog h) :=
  (evC_call 22 Try.f22 c22_0 Try.func22 (by kernel_rfl) #[x0, x1] h).trans (by kernel_rfl)
theorem ret22 (x0 x1 x2 x3 x4 x5 x6 x7 x8 x9 x10 x11 x12 x13 x14 x15 x16 : Value) (h0 h : Heap) : retK Try.f22 Try.prog h0 .ret ⟨#[x0, x1, x2, x3, x4, x5, x6, x7, x8, x9, x10, x11, x12, x13, x14, x15, x16], h⟩ = fin h0 (some x4) h := by kernel_rfl
theorem retn22 (x0 x1 x2 x3 x4 x5 x6 x7 x8 x9 x10 x11 x12 x13 x14 x15 x16 : Value) (h0 h : Heap) : retK Try.f22 Try.prog h0 .normal ⟨#[x0, x1, x2, x3, x4, x5, x6, x7, x8, x9, x10, x11, x12, x13, x14, x15, x16], h⟩ = fin h0 (some x4) h := by kernel_rfl
end Go.Am
namespace Go.Am
open Go.Proofs
set_option maxRecDepth 100000
noncomputable def c19_0 : Code := bodyC Try.f19 []
noncomputable def c19_1 : Code := bodyC Try.f19 [true, true, true, false, false, false]
noncomputable def c19_2 : Code := bodyC Try.f19 [true, true, true, true]
theorem c19_0_eq {β : Type} (x0 x1 x2 x3 x4 x5 x6 x7 x8 x9 x10 x11 x12 x13 x14 x15 x16 x17 x18 x19 x20 x21 x22 x23 x24 x25 x26 x27 x28 x29 x30 x31 x32 x33 x34 x35 x36 : Value) (h : Heap) (k : Ex → St → Option β) : codeK Try.prog (evC Try.prog) loopL c19_0 ⟨#[x0, x1, x2, x3, x4, x5, x6, x7, x8, x9, x10, x11, x12, x13, x14, x15, x16, x17, x18, x19, x20, x21, x22, x23, x24, x25, x26, x27, x28, x29, x30, x31, x32, x33, x34, x35, x36], h⟩ k =
obH (buildSliceV Try.prog 22 0 #[] h) fun t7_0 h1 =>
obH (appendV Try.prog 22 (some 22) t7_0 x0 h1) fun t9_2 h3 =>
(binV Try.prog .lss 3 (.tmp 10) (.const (Go.Value.int Go.IntKind.i64 0)) x1 (Go.Value.int Go.IntKind.i64 0)).bind fun t11_4 =>
(gd (wt t11_4 false) (binV Try.prog .gtr 3 (.tmp 13) (.const (Go.Value.int Go.IntKind.i64 63)) (gdV (wt t11_4 false) x1) (Go.Value.int Go.IntKind.i64 63))).bind fun t14_5 =>
(pickV t11_4 (Go.Value.bool Bool.true) t14_5).bind fun t15_6 =>
obH (gdH (wt t15_6 false) h3 (evC Try.prog 22 #[(gdV (wt t15_6 false) x0), (gdV (wt t15_6 false) x1)] h3)) fun t19_7 h8 =>
(gd (wt t15_6 false) (binV Try.prog .eql 29 (.tmp 19) (.const (Go.Value.int Go.IntKind.u64 18446744073709551615)) t19_7 (Go.Value.int Go.IntKind.u64 18446744073709551615))).bind fun t20_9 =>
(pickV t15_6 (Go.Value.bool Bool.true) t20_9).bind fun t21_10 =>
cnd t21_10 (
k .ret ⟨#[x0, x1, x2, x3, t9_2, (Go.Value.bool Bool.false), t9_2, t7_0, x0, t9_2, x1, t11_4, t11_4, (gdV (wt t11_4 false) x1), t14_5, t15_6, t15_6, (gdV (wt t15_6 false) x0), (gdV (wt t15_6 false) x1), t19_7, t20_9, t21_10, t9_2, x23, x24, x25, x26, x27, x28, x29, x30, x31, x32, x33, x34, x35, x36], h8⟩) (
loopK Try.prog (evC Try.prog) c19_1 ⟨#[x0, x1, x2, x3, (Go.Value.slice Option.none 0 0), (Go.Value.bool Bool.false), t9_2, t7_0, x0, t9_2, x1, t11_4, t11_4, (gdV (wt t11_4 false) x1), t14_5, t15_6, t15_6, (gdV (wt t15_6 false) x0), (gdV (wt t15_6 false) x1), t19_7, t20_9, t21_10, x22, x23, x24, x25, x26, x27, x28, x29, x30, x31, x32, x33, x34, x35, x36], h8⟩ (blockK 0 (seqK Try.prog (evC Try.prog) c19_2 k))) := by kernel_rfl
theorem c19_1_eq {β : Type} (x0 x1 x2 x3 x4 x5 x6 x7 x8 x9 x10 x11 x12 x13 x14 x15 x16 x17 x18 x19 x20 x21 x22 x23 x24 x25 x26 x27 x28 x29 x30 x31 x32 x33 x34 x35 x36 : Value) (h : Heap) (k : Ex → St → Option β) : codeK Try.prog (evC Try.prog) loopL c19_1 ⟨#[x0, x1, x2, x3, x4, x5, x6, x7, x8, x9, x10, x11, x12, x13, x14, x15, x16, x17, x18, x19, x20, x21, x22, x23, x24, x25, x26, x27, x28, x29, x30, x31, x32, x33, x34, x35, x36], h⟩ k =
(lenV Try.prog 22 x6 h).bind fun t24_11 =>
(binV Try.prog .leq 3 (.tmp 24) (.tmp 25) t24_11 x1).bind fun t26_12 =>
cnd t26_12 (
obH (buildSliceV Try.prog 22 1 #[(0, (Go.Value.int Go.IntKind.u64 0))] h) fun t28_13 h14 =>
obH (appendV Try.prog 22 (some 22) x6 t28_13 h14) fun t29_15 h16 =>
k .normal ⟨#[x0, x1, x2, x3, x4, x5, t29_15, x7, x8, x9, x10, x11, x12, x13, x14, x15, x16, x17, x18, x19, x20, x21, x22, x6, t24_11, x1, t26_12, x6, t28_13, t29_15, x30, x31, x32, x33, x34, x35, x36], h16⟩) (
k (.exit 0) ⟨#[x0, x1, x2, x3, x4, x5, x6, x7, x8, x9, x10, x11, x12, x13, x14, x15, x16, x17, x18, x19, x20, x21, x22, x6, t24_11, x1, t26_12, x27, x28, x29, x30, x31, x32, x33, x34, x35, x36], h⟩) := by kernel_rfl
theorem c19_2_eq {β : Type} (x0 x1 x2 x3 x4 x5 x6 x7 x8 x9 x10 x11 x12 x13 x14 x15 x16 x17 x18 x19 x20 x21 x22 x23 x24 x25 x26 x27 x28 x29 x30 x31 x32 x33 x34 x35 x36 : Value) (h : Heap) (k : Ex → St → Option β) : codeK Try.prog (evC Try.prog) loopL c19_2 ⟨#[x0, x1, x2, x3, x4, x5, x6, x7, x8, x9, x10, x11, x12, x13, x14, x15, x16, x17, x18, x19, x20, x21, x22, x23, x24, x25, x26, x27, x28, x29, x30, x31, x32, x33, x34, x35, x36], h⟩ k =
(indexAddrV Try.prog 22 x6 x1).bind fun t32_17 =>
(loadV Try.prog 29 t32_17 h).bind fun t33_18 =>
(binV Try.prog .add 29 (.tmp 33) (.const (Go.Value.int Go.IntKind.u64 1)) t33_18 (Go.Value.int Go.IntKind.u64 1)).bind fun t34_19 =>
(indexAddrV Try.prog 22 x6 x1).bind fun t35_20 =>
(storeV Try.prog 29 t35_20 t34_19 h).bind fun h21 =>
k .ret ⟨#[x0, x1, x2, x3, x6, (Go.Value.bool Bool.true), x6, x7, x8, x9, x10, x11, x12, x13, x14, x15, x16, x17, x18, x19, x20, x21, x22, x23, x24, x25, x26, x27, x28, x29, x6, x1, t32_17, t33_18, t34_19, t35_20, x6], h21⟩ := by kernel_rfl
theorem call19 (x0 x1 : Value) (h : Heap) : evC Try.prog 19 #[x0, x1] h = codeK Try.prog (evC Try.prog) loopL c19_0 ⟨#[x0, x1, undef, undef, undef, undef, undef, undef, undef, undef, undef, undef, undef, undef, undef, undef, undef, undef, undef, undef, undef, undef, undef, undef, undef, undef, undef, undef, undef, undef, undef, undef, undef, undef, undef, undef, undef], nm h⟩ (retK Try.f19 Try.prog h) :=
  (evC_call 19 Try.f19 c19_0 Try.func19 (by kernel_rfl) #[x0, x1] h).trans (by kernel_rfl)
theorem ret19 (x0 x1 x2 x3 x4 x5 x6 x7 x8 x9 x10 x11 x12 x13 x14 x15 x16 x17 x18 x19 x20 x21 x22 x23 x24 x25 x26 x27 x28 x29 x30 x31 x32 x33 x34 x35 x36 : Value) (h0 h : Heap) : retK Try.f19 Try.prog h0 .ret ⟨#[x0, x1, x2, x3, x4, x5, x6, x7, x8, x9, x10, x11, x12, x13, x14, x15, x16, x17, x18, x19, x20, x21, x22, x23, x24, x25, x26, x27, x28, x29, x30, x31, x32, x33, x34, x35, x36], h⟩ = fin h0 (some (.tuple #[x4, x5])) h := by kernel_rfl
theorem retn19 (x0 x1 x2 x3 x4 x5 x6 x7 x8 x9 x10 x11 x12 x13 x14 x15 x16 x17 x18 x19 x20 x21 x22 x23 x24 x25 x26 x27 x28 x29 x30 x31 x32 x33 x34 x35 x36 : Value) (h0 h : Heap) : retK Try.f19 Try.prog h0 .normal ⟨#[x0, x1, x2, x3, x4, x5, x6, x7, x8, x9, x10, x11, x12, x13, x14, x15, x16, x17, x18, x19, x20, x21, x22, x23, x24, x25, x26, x27, x28, x29, x30, x31, x32, x33, x34, x35, x36], h⟩ = fin h0 (some (.tuple #[x4, x5])) h := by kernel_rfl
end Go.Am
namespace Go.Am
open Go.Proofs
set_option maxRecDepth 100000
noncomputable def c20_0 : Code := bodyC Try.f20 []
noncomputable def c20_1 : Code := bodyC Try.f20 [true, true, false, true, false, false]
noncomputable def c20_2 : Code := bodyC Try.f20 [true, true, true]
theorem c20_0_eq {β : Type} (x0 x1 x2 x3 x4 x5 x6 x7 x8 x9 x10 x11 x12 x13 x14 x15 x16 x17 x18 x19 x20 x21 x22 x23 x24 x25 x26 x27 x28 x29 x30 x31 x32 x33 x34 x35 : Value) (h : Heap) (k : Ex → St → Option β) : codeK Try.prog (evC Try.prog) loopL c20_0 ⟨#[x0, x1, x2, x3, x4, x5, x6, x7, x8, x9, x10, x11, x12, x13, x14, x15, x16, x17, x18, x19, x20, x21, x22, x23, x24, x25, x26, x27, x28, x29, x30, x31, x32, x33, x34, x35], h⟩ k =
loopK Try.prog (evC Try.prog) c20_1 ⟨#[x0, x1, x2, x3, (Go.Value.slice Option.none 0 0), (Go.Value.slice Option.none 0 0), (Go.Value.int Go.IntKind.i64 0), x7, x8, x9, x10, x11, x12, x13, x14, x15, x16, x17, x18, x19, x20, x21, x22, x23, x24, x25, x26, x27, x28, x29, x30, x31, x32, x33, x34, x35], h⟩ (blockK 0 (seqK Try.prog (evC Try.prog) c20_2 k)) := by kernel_rfl
theorem c20_1_eq {β : Type} (x0 x1 x2 x3 x4 x5 x6 x7 x8 x9 x10 x11 x12 x13 x14 x15 x16 x17 x18 x19 x20 x21 x22 x23 x24 x25 x26 x27 x28 x29 x30 x31 x32 x33 x34 x35 : Value) (h : Heap) (k : Ex → St → Option β) : codeK Try.prog (evC Try.prog) loopL c20_1 ⟨#[x0, x1, x2, x3, x4, x5, x6, x7, x8, x9, x10, x11, x12, x13, x14, x15, x16, x17, x18, x19, x20, x21, x22, x23, x24, x25, x26, x27, x28, x29, x30, x31, x32, x33, x34, x35], h⟩ k =
(lenV Try.prog 22 x0 h).bind fun t10_0 =>
(binV Try.prog .lss 3 (.tmp 8) (.tmp 10) x6 t10_0).bind fun t11_1 =>
(gd (wt t11_1 false) (lenV Try.prog 22 (gdV (wt t11_1 false) x1) h)).bind fun t15_2 =>
(gd (wt t11_1 false) (binV Try.prog .lss 3 (.tmp 13) (.tmp 15) (gdV (wt t11_1 false) x6) t15_2)).bind fun t16_3 =>
(pickV t11_1 (Go.Value.bool Bool.true) t16_3).bind fun t17_4 =>
cnd t17_4 (
obH (evC Try.prog 22 #[x0, x6] h) fun t22_5 h6 =>
obH (evC Try.prog 22 #[x1, x6] h6) fun t25_7 h8 =>
(binV Try.prog .gtr 29 (.tmp 25) (.tmp 26) t25_7 t22_5).bind fun t27_9 =>
cnd t27_9 (
obH (evC Try.prog 22 #[x1, x6] h8) fun t30_10 h11 =>
obH (buildSliceV Try.prog 22 1 #[(0, t30_10)] h11) fun t33_12 h13 =>
obH (appendV Try.prog 22 (some 22) x5 t33_12 h13) fun t34_14 h15 =>
(binV Try.prog .add 3 (.tmp 18) (.const (Go.Value.int Go.IntKind.i64 1)) x6 (Go.Value.int Go.IntKind.i64 1)).bind fun t19_16 =>
k .normal ⟨#[x0, x1, x2, x3, x4, t34_14, t19_16, t30_10, x6, x0, t10_0, t11_1, t11_1, (gdV (wt t11_1 false) x6), (gdV (wt t11_1 false) x1), t15_2, t16_3, t17_4, x6, t19_16, x0, x6, t22_5, x1, x6, t25_7, t22_5, t27_9, x1, x6, t30_10, x5, t30_10, t33_12, t34_14, x35], h15⟩) (
obH (buildSliceV Try.prog 22 1 #[(0, t22_5)] h8) fun t33_17 h18 =>
obH (appendV Try.prog 22 (some 22) x5 t33_17 h18) fun t34_19 h20 =>
(binV Try.prog .add 3 (.tmp 18) (.const (Go.Value.int Go.IntKind.i64 1)) x6 (Go.Value.int Go.IntKind.i64 1)).bind fun t19_21 =>
k .normal ⟨#[x0, x1, x2, x3, x4, t34_19, t19_21, t22_5, x6, x0, t10_0, t11_1, t11_1, (gdV (wt t11_1 false) x6), (gdV (wt t11_1 false) x1), t15_2, t16_3, t17_4, x6, t19_21, x0, x6, t22_5, x1, x6, t25_7, t22_5, t27_9, x28, x29, x30, x5, t22_5, t33_17, t34_19, x35], h20⟩)) (
k (.exit 0) ⟨#[x0, x1, x2, x3, x4, x5, x6, x7, x6, x0, t10_0, t11_1, t11_1, (gdV (wt t11_1 false) x6), (gdV (wt t11_1 false) x1), t15_2, t16_3, t17_4, x18, x19, x20, x21, x22, x23, x24, x25, x26, x27, x28, x29, x30, x31, x32, x33, x34, x35], h⟩) := by kernel_rfl
theorem c20_2_eq {β : Type} (x0 x1 x2 x3 x4 x5 x6 x7 x8 x9 x10 x11 x12 x13 x14 x15 x16 x17 x18 x19 x20 x21 x22 x23 x24 x25 x26 x27 x28 x29 x30 x31 x32 x33 x34 x35 : Value) (h : Heap) (k : Ex → St → Option β) : codeK Try.prog (evC Try.prog) loopL c20_2 ⟨#[x0, x1, x2, x3, x4, x5, x6, x7, x8, x9, x10, x11, x12, x13, x14, x15, x16, x17, x18, x19, x20, x21, x22, x23, x24, x25, x26, x27, x28, x29, x30, x31, x32, x33, x34, x35], h⟩ k =
k .ret ⟨#[x0, x1, x2, x3, x5, x5, x6, x7, x8, x9, x10, x11, x12, x13, x14, x15, x16, x17, x18, x19, x20, x21, x22, x23, x24, x25, x26, x27, x28, x29, x30, x31, x32, x33, x34, x5], h⟩ := by kernel_rfl
theorem call20 (x0 x1 : Value) (h : Heap) : evC Try.prog 20 #[x0, x1] h = codeK Try.prog (evC Try.prog) loopL c20_0 ⟨#[x0, x1, undef, undef, undef, undef, undef, undef, undef, undef, undef, undef, undef, undef, undef, undef, undef, undef, undef, undef, undef, undef, undef, undef, undef, undef, undef, undef, undef, undef, undef, undef, undef, undef, undef, undef], nm h⟩ (retK Try.f20 Try.prog h) :=
  (evC_call 20 Try.f20 c20_0 Try.func20 (by kernel_rfl) #[x0, x1] h).trans (by kernel_rfl)
theorem ret20 (x0 x1 x2 x3 x4 x5 x6 x7 x8 x9 x10 x11 x12 x13 x14 x15 x16 x17 x18 x19 x20 x21 x22 x23 x24 x25 x26 x27 x28 x29 x30 x31 x32 x33 x34 x35 : Value) (h0 h : Heap) : retK Try.f20 Try.prog h0 .ret ⟨#[x0, x1, x2, x3, x4, x5, x6, x7, x8, x9, x10, x11, x12, x13, x14, x15, x16, x17, x18, x19, x20, x21, x22, x23, x24, x25, x26, x27, x28, x29, x30, x31, x32, x33, x34, x35], h⟩ = fin h0 (some x4) h := by kernel_rfl
theorem retn20 (x0 x1 x2 x3 x4 x5 x6 x7 x8 x9 x10 x11 x12 x13 x14 x15 x16 x17 x18 x19 x20 x21 x22 x23 x24 x25 x26 x27 x28 x29 x30 x31 x32 x33 x34 x35 : Value) (h0 h : Heap) : retK Try.f20 Try.prog h0 .normal ⟨#[x0, x1, x2, x3, x4, x5, x6, x7, x8, x9, x10, x11, x12, x13, x14, x15, x16, x17, x18, x19, x20, x21, x22, x23, x24, x25, x26, x27, x28, x29, x30, x31, x32, x33, x34, x35], h⟩ = fin h0 (some x4) h := by kernel_rfl
end Go.Am
namespace Go.Am
open Go.Proofs
set_option maxRecDepth 100000
noncomputable def c21_0 : Code := bodyC Try.f21 []
noncomputable def c21_1 : Code := bodyC Try.f21 [true, true, false, true, false, false]
noncomputable def c21_2 : Code := bodyC Try.f21 [true, true, true]
theorem c21_0_eq {β : Type} (x0 x1 x2 x3 x4 x5 x6 x7 x8 x9 x10 x11 x12 x13 x14 x15 x16 x17 x18 x19 x20 x21 x22 x23 x24 x25 x26 x27 x28 x29 x30 x31 x32 x33 x34 x35 x36 x37 x38 x39 x40 x41 x42 x43 x44 x45 x46 x47 x48 : Value) (h : Heap) (k : Ex → St → Option β) : codeK Try.prog (evC Try.prog) loopL c21_0 ⟨#[x0, x1, x2, x3, x4, x5, x6, x7, x8, x9, x10, x11, x12, x13, x14, x15, x16, x17, x18, x19, x20, x21, x22, x23, x24, x25, x26, x27, x28, x29, x30, x31, x32, x33, x34, x35, x36, x37, x38, x39, x40, x41, x42, x43, x44, x45, x46, x47, x48], h⟩ k =
loopK Try.prog (evC Try.prog) c21_1 ⟨#[x0, x1, x2, x3, (Go.Value.int Go.IntKind.i64 0), (Go.Value.bool Bool.true), (Go.Value.bool Bool.true), (Go.Value.int Go.IntKind.i64 0), x8, x9, x10, x11, x12, x13, x14, x15, x16, x17, x18, x19, x20, x21, x22, x23, x24, x25, x26, x27, x28, x29, x30, x31, x32, x33, x34, x35, x36, x37, x38, x39, x40, x41, x42, x43, x44, x45, x46, x47, x48], h⟩ (blockK 0 (seqK Try.prog (evC Try.prog) c21_2 k)) := by kernel_rfl
theorem c21_1_eq {β : Type} (x0 x1 x2 x3 x4 x5 x6 x7 x8 x9 x10 x11 x12 x13 x14 x15 x16 x17 x18 x19 x20 x21 x22 x23 x24 x25 x26 x27 x28 x29 x30 x31 x32 x33 x34 x35 x36 x37 x38 x39 x40 x41 x42 x43 x44 x45 x46 x47 x48 : Value) (h : Heap) (k : Ex → St → Option β) : codeK Try.prog (evC Try.prog) loopL c21_1 ⟨#[x0, x1, x2, x3, x4, x5, x6, x7, x8, x9, x10, x11, x12, x13, x14, x15, x16, x17, x18, x19, x20, x21, x22, x23, x24, x25, x26, x27, x28, x29, x30, x31, x32, x33, x34, x35, x36, x37, x38, x39, x40, x41, x42, x43, x44, x45, x46, x47, x48], h⟩ k =
(lenV Try.prog 22 x0 h).bind fun t10_0 =>
(binV Try.prog .lss 3 (.tmp 8) (.tmp 10) x7 t10_0).bind fun t11_1 =>
(gd (wt t11_1 false) (lenV Try.prog 22 (gdV (wt t11_1 false) x1) h)).bind fun t15_2 =>
(gd (wt t11_1 false) (binV Try.prog .lss 3 (.tmp 13) (.tmp 15) (gdV (wt t11_1 false) x7) t15_2)).bind fun t16_3 =>
(pickV t11_1 (Go.Value.bool Bool.true) t16_3).bind fun t17_4 =>
cnd t17_4 (
obH (gdH (wt x5 true) h (evC Try.prog 22 #[(gdV (wt x5 true) x0), (gdV (wt x5 true) x7)] h)) fun t24_5 h6 =>
obH (gdH (wt x5 true) h6 (evC Try.prog 22 #[(gdV (wt x5 true) x1), (gdV (wt x5 true) x7)] h6)) fun t27_7 h8 =>
(gd (wt x5 true) (binV Try.prog .leq 29 (.tmp 24) (.tmp 27) t24_5 t27_7)).bind fun t28_9 =>
(pickV x5 t28_9 (Go.Value.bool Bool.false)).bind fun t29_10 =>
obH (gdH (wt x6 true) h8 (evC Try.prog 22 #[(gdV (wt x6 true) x0), (gdV (wt x6 true) x7)] h8)) fun t34_11 h12 =>
obH (gdH (wt x6 true) h12 (evC Try.prog 22 #[(gdV (wt x6 true) x1), (gdV (wt x6 true) x7)] h12)) fun t37_13 h14 =>
(gd (wt x6 true) (binV Try.prog .geq 29 (.tmp 34) (.tmp 37) t34_11 t37_13)).bind fun t38_15 =>
(pickV x6 t38_15 (Go.Value.bool Bool.false)).bind fun t39_16 =>
(binV Try.prog .add 3 (.tmp 18) (.const (Go.Value.int Go.IntKind.i64 1)) x7 (Go.Value.int Go.IntKind.i64 1)).bind fun t19_17 =>
k .normal ⟨#[x0, x1, x2, x3, x4, t29_10, t39_16, t19_17, x7, x0, t10_0, t11_1, t11_1, (gdV (wt t11_1 false) x7), (gdV (wt t11_1 false) x1), t15_2, t16_3, t17_4, x7, t19_17, x5, x5, (gdV (wt x5 true) x0), (gdV (wt x5 true) x7), t24_5, (gdV (wt x5 true) x1), (gdV (wt x5 true) x7), t27_7, t28_9, t29_10, x6, x6, (gdV (wt x6 true) x0), (gdV (wt x6 true) x7), t34_11, (gdV (wt x6 true) x1), (gdV (wt x6 true) x7), t37_13, t38_15, t39_16, x40, x41, x42, x43, x44, x45, x46, x47, x48], h14⟩) (
k (.exit 0) ⟨#[x0, x1, x2, x3, x4, x5, x6, x7, x7, x0, t10_0, t11_1, t11_1, (gdV (wt t11_1 false) x7), (gdV (wt t11_1 false) x1), t15_2, t16_3, t17_4, x18, x19, x20, x21, x22, x23, x24, x25, x26, x27, x28, x29, x30, x31, x32, x33, x34, x35, x36, x37, x38, x39, x40, x41, x42, x43, x44, x45, x46, x47, x48], h⟩) := by kernel_rfl
theorem c21_2_eq {β : Type} (x0 x1 x2 x3 x4 x5 x6 x7 x8 x9 x10 x11 x12 x13 x14 x15 x16 x17 x18 x19 x20 x21 x22 x23 x24 x25 x26 x27 x28 x29 x30 x31 x32 x33 x34 x35 x36 x37 x38 x39 x40 x41 x42 x43 x44 x45 x46 x47 x48 : Value) (h : Heap) (k : Ex → St → Option β) : codeK Try.prog (evC Try.prog) loopL c21_2 ⟨#[x0, x1, x2, x3, x4, x5, x6, x7, x8, x9, x10, x11, x12, x13, x14, x15, x16, x17, x18, x19, x20, x21, x22, x23, x24, x25, x26, x27, x28, x29, x30, x31, x32, x33, x34, x35, x36, x37, x38, x39, x40, x41, x42, x43, x44, x45, x46, x47, x48], h⟩ k =
(pickV x5 (gdV (wt x5 true) x6) (Go.Value.bool Bool.false)).bind fun t44_18 =>
cnd t44_18 (
k .ret ⟨#[x0, x1, x2, x3, (Go.Value.int Go.IntKind.i64 0), x5, x6, x7, x8, x9, x10, x11, x12, x13, x14, x15, x16, x17, x18, x19, x20, x21, x22, x23, x24, x25, x26, x27, x28, x29, x30, x31, x32, x33, x34, x35, x36, x37, x38, x39, t44_18, x5, x5, (gdV (wt x5 true) x6), t44_18, x45, x46, x47, x48], h⟩) (
cnd x5 (
k .ret ⟨#[x0, x1, x2, x3, (Go.Value.int Go.IntKind.i64 (-1)), x5, x6, x7, x8, x9, x10, x11, x12, x13, x14, x15, x16, x17, x18, x19, x20, x21, x22, x23, x24, x25, x26, x27, x28, x29, x30, x31, x32, x33, x34, x35, x36, x37, x38, x39, t44_18, x5, x5, (gdV (wt x5 true) x6), t44_18, x5, x5, x47, x48], h⟩) (
cnd x6 (
k .ret ⟨#[x0, x1, x2, x3, (Go.Value.int Go.IntKind.i64 1), x5, x6, x7, x8, x9, x10, x11, x12, x13, x14, x15, x16, x17, x18, x19, x20, x21, x22, x23, x24, x25, x26, x27, x28, x29, x30, x31, x32, x33, x34, x35, x36, x37, x38, x39, t44_18, x5, x5, (gdV (wt x5 true) x6), t44_18, x5, x5, x6, x6], h⟩) (
k .ret ⟨#[x0, x1, x2, x3, (Go.Value.int Go.IntKind.i64 2), x5, x6, x7, x8, x9, x10, x11, x12, x13, x14, x15, x16, x17, x18, x19, x20, x21, x22, x23, x24, x25, x26, x27, x28, x29, x30, x31, x32, x33, x34, x35, x36, x37, x38, x39, t44_18, x5, x5, (gdV (wt x5 true) x6), t44_18, x5, x5, x6, x6], h⟩))) := by kernel_rfl
theorem call21 (x0 x1 : Value) (h : Heap) : evC Try.prog 21 #[x0, x1] h = codeK Try.prog (evC Try.prog) loopL c21_0 ⟨#[x0, x1, undef, undef, undef, undef, undef, undef, undef, undef, undef, undef, undef, undef, undef, undef, undef, undef, undef, undef, undef, undef, undef, undef, undef, undef, undef, undef, undef, undef, undef, undef, undef, undef, undef, undef, undef, undef, undef, undef, undef, undef, undef, undef, undef, undef, undef, undef, undef], nm h⟩ (retK Try.f21 Try.prog h) :=
  (evC_call 21 Try.f21 c21_0 Try.func21 (by kernel_rfl) #[x0, x1] h).trans (by kernel_rfl)
theorem ret21 (x0 x1 x2 x3 x4 x5 x6 x7 x8 x9 x10 x11 x12 x13 x14 x15 x16 x17 x18 x19 x20 x21 x22 x23 x24 x25 x26 x27 x28 x29 x30 x31 x32 x33 x34 x35 x36 x37 x38 x39 x40 x41 x42 x43 x44 x45 x46 x47 x48 : Value) (h0 h : Heap) : retK Try.f21 Try.prog h0 .ret ⟨#[x0, x1, x2, x3, x4, x5, x6, x7, x8, x9, x10, x11, x12, x13, x14, x15, x16, x17, x18, x19, x20, x21, x22, x23, x24, x25, x26, x27, x28, x29, x30, x31, x32, x33, x34, x35, x36, x37, x38, x39, x40, x41, x42, x43, x44, x45, x46, x47, x48], h⟩ = fin h0 (some x4) h := by kernel_rfl
theorem retn21 (x0 x1 x2 x3 x4 x5 x6 x7 x8 x9 x10 x11 x12 x13 x14 x15 x16 x17 x18 x19 x20 x21 x22 x23 x24 x25 x26 x27 x28 x29 x30 x31 x32 x33 x34 x35 x36 x37 x38 x39 x40 x41 x42 x43 x44 x45 x46 x47 x48 : Value) (h0 h : Heap) : retK Try.f21 Try.prog h0 .normal ⟨#[x0, x1, x2, x3, x4, x5, x6, x7, x8, x9, x10, x11, x12, x13, x14, x15, x16, x17, x18, x19, x20, x21, x22, x23, x24, x25, x26, x27, x28, x29, x30, x31, x32, x33, x34, x35, x36, x37, x38, x39, x40, x41, x42, x43, x44, x45, x46, x47, x48], h⟩ = fin h0 (some x4) h := by kernel_rfl
end Go.Am
namespace Go.Am
open Go.Proofs
set_option maxRecDepth 100000
noncomputable def c17_0 : Code := bodyC Try.f17 []
noncomputable def c17_1 : Code := bodyC Try.f17 [true, true, false, true, false, false]
noncomputable def c17_2 : Code := bodyC Try.f17 [true, true, true]
theorem c17_0_eq {β : Type} (x0 x1 x2 x3 x4 x5 x6 x7 x8 x9 x10 x11 x12 x13 x14 x15 x16 x17 x18 x19 x20 x21 x22 x23 x24 x25 : Value) (h : Heap) (k : Ex → St → Option β) : codeK Try.prog (evC Try.prog) loopL c17_0 ⟨#[x0, x1, x2, x3, x4, x5, x6, x7, x8, x9, x10, x11, x12, x13, x14, x15, x16, x17, x18, x19, x20, x21, x22, x23, x24, x25], h⟩ k =
(lenV Try.prog 22 x0 h).bind fun t7_0 =>
(lenV Try.prog 22 x1 h).bind fun t9_1 =>
(binV Try.prog .neq 3 (.tmp 7) (.tmp 9) t7_0 t9_1).bind fun t10_2 =>
cnd t10_2 (
k .ret ⟨#[x0, x1, x2, x3, (Go.Value.bool Bool.false), x5, x0, t7_0, x1, t9_1, t10_2, x11, x12, x13, x14, x15, x16, x17, x18, x19, x20, x21, x22, x23, x24, x25], h⟩) (
loopK Try.prog (evC Try.prog) c17_1 ⟨#[x0, x1, x2, x3, (Go.Value.bool Bool.false), (Go.Value.int Go.IntKind.i64 0), x0, t7_0, x1, t9_1, t10_2, x11, x12, x13, x14, x15, x16, x17, x18, x19, x20, x21, x22, x23, x24, x25], h⟩ (blockK 0 (seqK Try.prog (evC Try.prog) c17_2 k))) := by kernel_rfl
theorem c17_1_eq {β : Type} (x0 x1 x2 x3 x4 x5 x6 x7 x8 x9 x10 x11 x12 x13 x14 x15 x16 x17 x18 x19 x20 x21 x22 x23 x24 x25 : Value) (h : Heap) (k : Ex → St → Option β) : codeK Try.prog (evC Try.prog) loopL c17_1 ⟨#[x0, x1, x2, x3, x4, x5, x6, x7, x8, x9, x10, x11, x12, x13, x14, x15, x16, x17, x18, x19, x20, x21, x22, x23, x24, x25], h⟩ k =
(lenV Try.prog 22 x0 h).bind fun t13_3 =>
(binV Try.prog .lss 3 (.tmp 11) (.tmp 13) x5 t13_3).bind fun t14_4 =>
cnd t14_4 (
(indexAddrV Try.prog 22 x0 x5).bind fun t19_5 =>
(loadV Try.prog 29 t19_5 h).bind fun t20_6 =>
(indexAddrV Try.prog 22 x1 x5).bind fun t23_7 =>
(loadV Try.prog 29 t23_7 h).bind fun t24_8 =>
(binV Try.prog .neq 29 (.tmp 20) (.tmp 24) t20_6 t24_8).bind fun t25_9 =>
cnd t25_9 (
k .ret ⟨#[x0, x1, x2, x3, (Go.Value.bool Bool.false), x5, x6, x7, x8, x9, x10, x5, x0, t13_3, t14_4, x15, x16, x0, x5, t19_5, t20_6, x1, x5, t23_7, t24_8, t25_9], h⟩) (
(binV Try.prog .add 3 (.tmp 15) (.const (Go.Value.int Go.IntKind.i64 1)) x5 (Go.Value.int Go.IntKind.i64 1)).bind fun t16_10 =>
k .normal ⟨#[x0, x1, x2, x3, x4, t16_10, x6, x7, x8, x9, x10, x5, x0, t13_3, t14_4, x5, t16_10, x0, x5, t19_5, t20_6, x1, x5, t23_7, t24_8, t25_9], h⟩)) (
k (.exit 0) ⟨#[x0, x1, x2, x3, x4, x5, x6, x7, x8, x9, x10, x5, x0, t13_3, t14_4, x15, x16, x17, x18, x19, x20, x21, x22, x23, x24, x25], h⟩) := by kernel_rfl
theorem c17_2_eq {β : Type} (x0 x1 x2 x3 x4 x5 x6 x7 x8 x9 x10 x11 x12 x13 x14 x15 x16 x17 x18 x19 x20 x21 x22 x23 x24 x25 : Value) (h : Heap) (k : Ex → St → Option β) : codeK Try.prog (evC Try.prog) loopL c17_2 ⟨#[x0, x1, x2, x3, x4, x5, x6, x7, x8, x9, x10, x11, x12, x13, x14, x15, x16, x17, x18, x19, x20, x21, x22, x23, x24, x25], h⟩ k =
k .ret ⟨#[x0, x1, x2, x3, (Go.Value.bool Bool.true), x5, x6, x7, x8, x9, x10, x11, x12, x13, x14, x15, x16, x17, x18, x19, x20, x21, x22, x23, x24, x25], h⟩ := by kernel_rfl
theorem call17 (x0 x1 : Value) (h : Heap) : evC Try.prog 17 #[x0, x1] h = codeK Try.prog (evC Try.prog) loopL c17_0 ⟨#[x0, x1, undef, undef, undef, undef, undef, undef, undef, undef, undef, undef, undef, undef, undef, undef, undef, undef, undef, undef, undef, undef, undef, undef, undef, undef], nm h⟩ (retK Try.f17 Try.prog h) :=
  (evC_call 17 Try.f17 c17_0 Try.func17 (by kernel_rfl) #[x0, x1] h).trans (by kernel_rfl)
theorem ret17 (x0 x1 x2 x3 x4 x5 x6 x7 x8 x9 x10 x11 x12 x13 x14 x15 x16 x17 x18 x19 x20 x21 x22 x23 x24 x25 : Value) (h0 h : Heap) : retK Try.f17 Try.prog h0 .ret ⟨#[x0, x1, x2, x3, x4, x5, x6, x7, x8, x9, x10, x11, x12, x13, x14, x15, x16, x17, x18, x19, x20, x21, x22, x23, x24, x25], h⟩ = fin h0 (some x4) h := by kernel_rfl
theorem retn17 (x0 x1 x2 x3 x4 x5 x6 x7 x8 x9 x10 x11 x12 x13 x14 x15 x16 x17 x18 x19 x20 x21 x22 x23 x24 x25 : Value) (h0 h : Heap) : retK Try.f17 Try.prog h0 .normal ⟨#[x0, x1, x2, x3, x4, x5, x6, x7, x8, x9, x10, x11, x12, x13, x14, x15, x16, x17, x18, x19, x20, x21, x22, x23, x24, x25], h⟩ = fin h0 (some x4) h := by kernel_rfl
end Go.Am
namespace Go.Am
open Go.Proofs
set_option maxRecDepth 100000
noncomputable def c12_0 : Code := bodyC Try.f12 []
theorem c12_0_eq {β : Type} (x0 x1 x2 x3 x4 x5 x6 x7 x8 x9 x10 x11 x12 x13 x14 x15 x16 x17 x18 x19 x20 x21 x22 x23 x24 : Value) (h : Heap) (k : Ex → St → Option β) : codeK Try.prog (evC Try.prog) loopL c12_0 ⟨#[x0, x1, x2, x3, x4, x5, x6, x7, x8, x9, x10, x11, x12, x13, x14, x15, x16, x17, x18, x19, x20, x21, x22, x23, x24], h⟩ k =
obH (evC Try.prog 14 #[(Go.Value.int Go.IntKind.i64 2)] h) fun t4_0 h1 =>
obH (evC Try.prog 15 #[t4_0, (Go.Value.int Go.IntKind.i64 1)] h1) fun t5_2 h3 =>
(extractV t5_2 0).bind fun t6_4 =>
(extractV t5_2 1).bind fun t7_5 =>
obH (buildSliceV Try.prog 27 2 #[(0, (Go.Value.int Go.IntKind.u64 1)), (1, (Go.Value.int Go.IntKind.u64 0))] h3) fun t8_6 h7 =>
obH (buildSliceV Try.prog 27 2 #[(0, (Go.Value.int Go.IntKind.u64 0)), (1, (Go.Value.int Go.IntKind.u64 1))] h7) fun t9_8 h9 =>
obH (evC Try.prog 13 #[t8_6, t9_8] h9) fun t10_10 h11 =>
(binV Try.prog .eql 3 (.tmp 10) (.const (Go.Value.int Go.IntKind.i64 2)) t10_10 (Go.Value.int Go.IntKind.i64 2)).bind fun t11_12 =>
(pickV t11_12 (gdV (wt t11_12 true) t7_5) (Go.Value.bool Bool.false)).bind fun t14_13 =>
obH (gdH (wt t14_13 true) h11 (buildSliceV Try.prog 22 2 #[(0, (Go.Value.int Go.IntKind.u64 0)), (1, (Go.Value.int Go.IntKind.u64 1))] h11)) fun t17_14 h15 =>
obH (gdH (wt t14_13 true) h15 (evC Try.prog 17 #[(gdV (wt t14_13 true) t6_4), t17_14] h15)) fun t18_16 h17 =>
(pickV t14_13 t18_16 (Go.Value.bool Bool.false)).bind fun t19_18 =>
obH (gdH (wt t19_18 true) h17 (evC Try.prog 16 #[(gdV (wt t19_18 true) t6_4), (Go.Value.int Go.IntKind.i64 1)] h17)) fun t22_19 h20 =>
(gd (wt t19_18 true) (binV Try.prog .eql 29 (.tmp 22) (.const (Go.Value.int Go.IntKind.u64 1)) t22_19 (Go.Value.int Go.IntKind.u64 1))).bind fun t23_21 =>
(pickV t19_18 t23_21 (Go.Value.bool Bool.false)).bind fun t24_22 =>
k .ret ⟨#[t24_22, t6_4, t7_5, t5_2, t4_0, t5_2, t6_4, t7_5, t8_6, t9_8, t10_10, t11_12, t11_12, (gdV (wt t11_12 true) t7_5), t14_13, t14_13, (gdV (wt t14_13 true) t6_4), t17_14, t18_16, t19_18, t19_18, (gdV (wt t19_18 true) t6_4), t22_19, t23_21, t24_22], h20⟩ := by kernel_rfl
theorem call12 (h : Heap) : evC Try.prog 12 #[] h = codeK Try.prog (evC Try.prog) loopL c12_0 ⟨#[undef, undef, undef, undef, undef, undef, undef, undef, undef, undef, undef, undef, undef, undef, undef, undef, undef, undef, undef, undef, undef, undef, undef, undef, undef], nm h⟩ (retK Try.f12 Try.prog h) :=
  (evC_call 12 Try.f12 c12_0 Try.func12 (by kernel_rfl) #[] h).trans (by kernel_rfl)
theorem ret12 (x0 x1 x2 x3 x4 x5 x6 x7 x8 x9 x10 x11 x12 x13 x14 x15 x16 x17 x18 x19 x20 x21 x22 x23 x24 : Value) (h0 h : Heap) : retK Try.f12 Try.prog h0 .ret ⟨#[x0, x1, x2, x3, x4, x5, x6, x7, x8, x9, x10, x11, x12, x13, x14, x15, x16, x17, x18, x19, x20, x21, x22, x23, x24], h⟩ = fin h0 (some x0) h := by kernel_rfl
theorem retn12 (x0 x1 x2 x3 x4 x5 x6 x7 x8 x9 x10 x11 x12 x13 x14 x15 x16 x17 x18 x19 x20 x21 x22 x23 x24 : Value) (h0 h : Heap) : retK Try.f12 Try.prog h0 .normal ⟨#[x0, x1, x2, x3, x4, x5, x6, x7, x8, x9, x10, x11, x12, x13, x14, x15, x16, x17, x18, x19, x20, x21, x22, x23, x24], h⟩ = fin h0 (some x0) h := by kernel_rfl
end Go.Am
namespace Go.Am
open Go.Proofs
set_option maxRecDepth 100000
noncomputable def c6_0 : Code := bodyC Try.f6 []
theorem c6_0_eq {β : Type} (x0 x1 x2 x3 x4 x5 x6 x7 x8 x9 x10 x11 x12 x13 x14 x15 x16 x17 x18 x19 x20 x21 x22 x23 x24 x25 x26 x27 x28 x29 x30 x31 x32 x33 x34 x35 x36 x37 x38 x39 x40 x41 x42 x43 x44 x45 x46 x47 x48 x49 x50 x51 x52 x53 x54 x55 x56 x57 x58 x59 x60 x61 x62 x63 x64 x65 x66 x67 : Value) (h : Heap) (k : Ex → St → Option β) : codeK Try.prog (evC Try.prog) loopL c6_0 ⟨#[x0, x1, x2, x3, x4, x5, x6, x7, x8, x9, x10, x11, x12, x13, x14, x15, x16, x17, x18, x19, x20, x21, x22, x23, x24, x25, x26, x27, x28, x29, x30, x31, x32, x33, x34, x35, x36, x37, x38, x39, x40, x41, x42, x43, x44, x45, x46, x47, x48, x49, x50, x51, x52, x53, x54, x55, x56, x57, x58, x59, x60, x61, x62, x63, x64, x65, x66, x67], h⟩ k =
obH (evC Try.prog 12 #[] h) fun t11_0 h1 =>
(unV Try.prog .not t11_0).bind fun t12_2 =>
cnd t12_2 (
k .ret ⟨#[x0, x1, x2, x3, x4, x5, (Go.Value.bool Bool.false), x7, x8, x9, x10, t11_0, t12_2, x13, x14, x15, x16, x17, x18, x19, x20, x21, x22, x23, x24, x25, x26, x27, x28, x29, x30, x31, x32, x33, x34, x35, x36, x37, x38, x39, x40, x41, x42, x43, x44, x45, x46, x47, x48, x49, x50, x51, x52, x53, x54, x55, x56, x57, x58, x59, x60, x61, x62, x63, x64, x65, x66, x67], h1⟩) (
(lenV Try.prog 22 x0 h1).bind fun t14_3 =>
(binV Try.prog .gtr 3 (.tmp 14) (.const (Go.Value.int Go.IntKind.i64 40)) t14_3 (Go.Value.int Go.IntKind.i64 40)).bind fun t15_4 =>
(gd (wt t15_4 false) (lenV Try.prog 22 (gdV (wt t15_4 false) x1) h1)).bind fun t18_5 =>
(gd (wt t15_4 false) (binV Try.prog .gtr 3 (.tmp 18) (.const (Go.Value.int Go.IntKind.i64 40)) t18_5 (Go.Value.int Go.IntKind.i64 40))).bind fun t19_6 =>
(pickV t15_4 (Go.Value.bool Bool.true) t19_6).bind fun t20_7 =>
cnd t20_7 (
k .ret ⟨#[x0, x1, x2, x3, x4, x5, (Go.Value.bool Bool.true), x7, x8, x9, x10, t11_0, t12_2, x0, t14_3, t15_4, t15_4, (gdV (wt t15_4 false) x1), t18_5, t19_6, t20_7, x21, x22, x23, x24, x25, x26, x27, x28, x29, x30, x31, x32, x33, x34, x35, x36, x37, x38, x39, x40, x41, x42, x43, x44, x45, x46, x47, x48, x49, x50, x51, x52, x53, x54, x55, x56, x57, x58, x59, x60, x61, x62, x63, x64, x65, x66, x67], h1⟩) (
obH (evC Try.prog 15 #[x0, x2] h1) fun t24_8 h9 =>
(extractV t24_8 0).bind fun t25_10 =>
(extractV t24_8 1).bind fun t26_11 =>
obH (evC Try.prog 19 #[x0, x2] h9) fun t30_12 h13 =>
(extractV t30_12 0).bind fun t31_14 =>
(extractV t30_12 1).bind fun t32_15 =>
obH (evC Try.prog 17 #[t25_10, t31_14] h13) fun t35_16 h17 =>
(gd (wt t35_16 true) (binV Try.prog .eql 4 (.tmp 37) (.tmp 38) (gdV (wt t35_16 true) t26_11) (gdV (wt t35_16 true) t32_15))).bind fun t39_18 =>
(pickV t35_16 t39_18 (Go.Value.bool Bool.false)).bind fun t40_19 =>
obH (gdH (wt t40_19 true) h17 (evC Try.prog 18 #[(gdV (wt t40_19 true) x0), (gdV (wt t40_19 true) x1)] h17)) fun t44_20 h21 =>
obH (gdH (wt t40_19 true) h21 (evC Try.prog 20 #[(gdV (wt t40_19 true) x0), (gdV (wt t40_19 true) x1)] h21)) fun t47_22 h23 =>
obH (gdH (wt t40_19 true) h23 (evC Try.prog 17 #[t44_20, t47_22] h23)) fun t48_24 h25 =>
(pickV t40_19 t48_24 (Go.Value.bool Bool.false)).bind fun t49_26 =>
obH (gdH (wt t49_26 true) h25 (evC Try.prog 13 #[(gdV (wt t49_26 true) x0), (gdV (wt t49_26 true) x1)] h25)) fun t53_27 h28 =>
obH (gdH (wt t49_26 true) h28 (evC Try.prog 21 #[(gdV (wt t49_26 true) x0), (gdV (wt t49_26 true) x1)] h28)) fun t56_29 h30 =>
(gd (wt t49_26 true) (binV Try.prog .eql 3 (.tmp 53) (.tmp 56) t53_27 t56_29)).bind fun t57_31 =>
(pickV t49_26 t57_31 (Go.Value.bool Bool.false)).bind fun t58_32 =>
obH (gdH (wt t58_32 true) h30 (evC Try.prog 16 #[(gdV (wt t58_32 true) x0), (gdV (wt t58_32 true) x2)] h30)) fun t62_33 h34 =>
obH (gdH (wt t58_32 true) h34 (evC Try.prog 22 #[(gdV (wt t58_32 true) x0), (gdV (wt t58_32 true) x2)] h34)) fun t65_35 h36 =>
(gd (wt t58_32 true) (binV Try.prog .eql 29 (.tmp 62) (.tmp 65) t62_33 t65_35)).bind fun t66_37 =>
(pickV t58_32 t66_37 (Go.Value.bool Bool.false)).bind fun t67_38 =>
k .ret ⟨#[x0, x1, x2, x3, x4, x5, t67_38, t25_10, t26_11, t31_14, t32_15, t11_0, t12_2, x0, t14_3, t15_4, t15_4, (gdV (wt t15_4 false) x1), t18_5, t19_6, t20_7, t24_8, x0, x2, t24_8, t25_10, t26_11, t30_12, x0, x2, t30_12, t31_14, t32_15, t25_10, t31_14, t35_16, t35_16, (gdV (wt t35_16 true) t26_11), (gdV (wt t35_16 true) t32_15), t39_18, t40_19, t40_19, (gdV (wt t40_19 true) x0), (gdV (wt t40_19 true) x1), t44_20, (gdV (wt t40_19 true) x0), (gdV (wt t40_19 true) x1), t47_22, t48_24, t49_26, t49_26, (gdV (wt t49_26 true) x0), (gdV (wt t49_26 true) x1), t53_27, (gdV (wt t49_26 true) x0), (gdV (wt t49_26 true) x1), t56_29, t57_31, t58_32, t58_32, (gdV (wt t58_32 true) x0), (gdV (wt t58_32 true) x2), t62_33, (gdV (wt t58_32 true) x0), (gdV (wt t58_32 true) x2), t65_35, t66_37, t67_38], h36⟩)) := by kernel_rfl
theorem call6 (x0 x1 x2 : Value) (h : Heap) : evC Try.prog 6 #[x0, x1, x2] h = codeK Try.prog (evC Try.prog) loopL c6_0 ⟨#[x0, x1, x2, undef, undef, undef, undef, undef, undef, undef, undef, undef, undef, undef, undef, undef, undef, undef, undef, undef, undef, undef, undef, undef, undef, undef, undef, undef, undef, undef, undef, undef, undef, undef, undef, undef, undef, undef, undef, undef, undef, undef, undef, undef, undef, undef, undef, undef, undef, undef, undef, undef, undef, undef, undef, undef, undef, undef, undef, undef, undef, undef, undef, undef, undef, undef, undef, undef], nm h⟩ (retK Try.f6 Try.prog h) :=
  (evC_call 6 Try.f6 c6_0 Try.func6 (by kernel_rfl) #[x0, x1, x2] h).trans (by kernel_rfl)
theorem ret6 (x0 x1 x2 x3 x4 x5 x6 x7 x8 x9 x10 x11 x12 x13 x14 x15 x16 x17 x18 x19 x20 x21 x22 x23 x24 x25 x26 x27 x28 x29 x30 x31 x32 x33 x34 x35 x36 x37 x38 x39 x40 x41 x42 x43 x44 x45 x46 x47 x48 x49 x50 x51 x52 x53 x54 x55 x56 x57 x58 x59 x60 x61 x62 x63 x64 x65 x66 x67 : Value) (h0 h : Heap) : retK Try.f6 Try.prog h0 .ret ⟨#[x0, x1, x2, x3, x4, x5, x6, x7, x8, x9, x10, x11, x12, x13, x14, x15, x16, x17, x18, x19, x20, x21, x22, x23, x24, x25, x26, x27, x28, x29, x30, x31, x32, x33, x34, x35, x36, x37, x38, x39, x40, x41, x42, x43, x44, x45, x46, x47, x48, x49, x50, x51, x52, x53, x54, x55, x56, x57, x58, x59, x60, x61, x62, x63, x64, x65, x66, x67], h⟩ = fin h0 (some x6) h := by kernel_rfl
theorem retn6 (x0 x1 x2 x3 x4 x5 x6 x7 x8 x9 x10 x11 x12 x13 x14 x15 x16 x17 x18 x19 x20 x21 x22 x23 x24 x25 x26 x27 x28 x29 x30 x31 x32 x33 x34 x35 x36 x37 x38 x39 x40 x41 x42 x43 x44 x45 x46 x47 x48 x49 x50 x51 x52 x53 x54 x55 x56 x57 x58 x59 x60 x61 x62 x63 x64 x65 x66 x67 : Value) (h0 h : Heap) : retK Try.f6 Try.prog h0 .normal ⟨#[x0, x1, x2, x3, x4, x5, x6, x7, x8, x9, x10, x11, x12, x13, x14, x15, x16, x17, x18, x19, x20, x21, x22, x23, x24, x25, x26, x27, x28, x29, x30, x31, x32, x33, x34, x35, x36, x37, x38, x39, x40, x41, x42, x43, x44, x45, x46, x47, x48, x49, x50, x51, x52, x53, x54, x55, x56, x57, x58, x59, x60, x61, x62, x63, x64, x65, x66, x67], h⟩ = fin h0 (some x6) h := by kernel_rfl
end Go.Am
namespace Go.Am
open Go.Proofs
set_option maxRecDepth 100000
noncomputable def c7_0 : Code := bodyC Try.f7 []
theorem c7_0_eq {β : Type} (x0 x1 x2 x3 x4 x5 x6 x7 x8 x9 x10 x11 x12 x13 x14 x15 x16 x17 x18 x19 x20 x21 x22 x23 x24 x25 x26 x27 x28 x29 x30 x31 x32 x33 x34 x35 x36 x37 x38 x39 x40 x41 x42 x43 x44 x45 x46 x47 x48 x49 x50 x51 x52 x53 x54 x55 x56 x57 x58 x59 x60 x61 x62 x63 x64 x65 x66 x67 x68 x69 x70 x71 x72 x73 x74 x75 x76 x77 x78 x79 x80 x81 x82 x83 x84 x85 x86 x87 x88 x89 x90 : Value) (h : Heap) (k : Ex → St → Option β) : codeK Try.prog (evC Try.prog) loopL c7_0 ⟨#[x0, x1, x2, x3, x4, x5, x6, x7, x8, x9, x10, x11, x12, x13, x14, x15, x16, x17, x18, x19, x20, x21, x22, x23, x24, x25, x26, x27, x28, x29, x30, x31, x32, x33, x34, x35, x36, x37, x38, x39, x40, x41, x42, x43, x44, x45, x46, x47, x48, x49, x50, x51, x52, x53, x54, x55, x56, x57, x58, x59, x60, x61, x62, x63, x64, x65, x66, x67, x68, x69, x70, x71, x72, x73, x74, x75, x76, x77, x78, x79, x80, x81, x82, x83, x84, x85, x86, x87, x88, x89, x90], h⟩ k =
obH (evC Try.prog 12 #[] h) fun t12_0 h1 =>
(unV Try.prog .not t12_0).bind fun t13_2 =>
cnd t13_2 (
k .ret ⟨#[x0, x1, x2, x3, x4, x5, (Go.Value.bool Bool.false), x7, x8, x9, x10, x11, t12_0, t13_2, x14, x15, x16, x17, x18, x19, x20, x21, x22, x23, x24, x25, x26, x27, x28, x29, x30, x31, x32, x33, x34, x35, x36, x37, x38, x39, x40, x41, x42, x43, x44, x45, x46, x47, x48, x49, x50, x51, x52, x53, x54, x55, x56, x57, x58, x59, x60, x61, x62, x63, x64, x65, x66, x67, x68, x69, x70, x71, x72, x73, x74, x75, x76, x77, x78, x79, x80, x81, x82, x83, x84, x85, x86, x87, x88, x89, x90], h1⟩) (
(lenV Try.prog 22 x0 h1).bind fun t15_3 =>
(binV Try.prog .gtr 3 (.tmp 15) (.const (Go.Value.int Go.IntKind.i64 40)) t15_3 (Go.Value.int Go.IntKind.i64 40)).bind fun t16_4 =>
(gd (wt t16_4 false) (lenV Try.prog 22 (gdV (wt t16_4 false) x1) h1)).bind fun t19_5 =>
(gd (wt t16_4 false) (binV Try.prog .gtr 3 (.tmp 19) (.const (Go.Value.int Go.IntKind.i64 40)) t19_5 (Go.Value.int Go.IntKind.i64 40))).bind fun t20_6 =>
(pickV t16_4 (Go.Value.bool Bool.true) t20_6).bind fun t21_7 =>
cnd t21_7 (
k .ret ⟨#[x0, x1, x2, x3, x4, x5, (Go.Value.bool Bool.true), x7, x8, x9, x10, x11, t12_0, t13_2, x0, t15_3, t16_4, t16_4, (gdV (wt t16_4 false) x1), t19_5, t20_6, t21_7, x22, x23, x24, x25, x26, x27, x28, x29, x30, x31, x32, x33, x34, x35, x36, x37, x38, x39, x40, x41, x42, x43, x44, x45, x46, x47, x48, x49, x50, x51, x52, x53, x54, x55, x56, x57, x58, x59, x60, x61, x62, x63, x64, x65, x66, x67, x68, x69, x70, x71, x72, x73, x74, x75, x76, x77, x78, x79, x80, x81, x82, x83, x84, x85, x86, x87, x88, x89, x90], h1⟩) (
obH (evC Try.prog 18 #[x0, x1] h1) fun t24_8 h9 =>
obH (evC Try.prog 13 #[x0, t24_8] h9) fun t27_10 h11 =>
obH (evC Try.prog 13 #[x1, t24_8] h11) fun t30_12 h13 =>
obH (evC Try.prog 15 #[x0, x2] h13) fun t34_14 h15 =>
(extractV t34_14 0).bind fun t35_16 =>
(extractV t34_14 1).bind fun t36_17 =>
(binV Try.prog .eql 3 (.tmp 37) (.const (Go.Value.int Go.IntKind.i64 0)) t27_10 (Go.Value.int Go.IntKind.i64 0)).bind fun t38_18 =>
(gd (wt t38_18 false) (binV Try.prog .eql 3 (.tmp 40) (.const (Go.Value.int Go.IntKind.i64 (-1))) (gdV (wt t38_18 false) t27_10) (Go.Value.int Go.IntKind.i64 (-1)))).bind fun t41_19 =>
(pickV t38_18 (Go.Value.bool Bool.true) t41_19).bind fun t42_20 =>
(gd (wt t42_20 true) (binV Try.prog .eql 3 (.tmp 44) (.const (Go.Value.int Go.IntKind.i64 0)) (gdV (wt t42_20 true) t30_12) (Go.Value.int Go.IntKind.i64 0))).bind fun t45_21 =>
(gd (wt (gdV (wt t42_20 true) t45_21) false) (binV Try.prog .eql 3 (.tmp 47) (.const (Go.Value.int Go.IntKind.i64 (-1))) (gdV (wt (gdV (wt t42_20 true) t45_21) false) t30_12) (Go.Value.int Go.IntKind.i64 (-1)))).bind fun t48_22 =>
(gd (wt t42_20 true) (pickV (gdV (wt t42_20 true) t45_21) (Go.Value.bool Bool.true) t48_22)).bind fun t49_23 =>
(pickV t42_20 t49_23 (Go.Value.bool Bool.false)).bind fun t50_24 =>
obH (gdH (wt t50_24 true) h15 (evC Try.prog 18 #[(gdV (wt t50_24 true) x1), (gdV (wt t50_24 true) x0)] h15)) fun t54_25 h26 =>
obH (gdH (wt t50_24 true) h26 (evC Try.prog 17 #[t54_25, (gdV (wt t50_24 true) t24_8)] h26)) fun t56_27 h28 =>
(pickV t50_24 t56_27 (Go.Value.bool Bool.false)).bind fun t57_29 =>
obH (gdH (wt t57_29 true) h28 (evC Try.prog 18 #[(gdV (wt t57_29 true) t24_8), (gdV (wt t57_29 true) x0)] h28)) fun t61_30 h31 =>
obH (gdH (wt t57_29 true) h31 (evC Try.prog 17 #[t61_30, (gdV (wt t57_29 true) t24_8)] h31)) fun t63_32 h33 =>
(pickV t57_29 t63_32 (Go.Value.bool Bool.false)).bind fun t64_34 =>
obH (gdH (wt t64_34 true) h33 (evC Try.prog 13 #[(gdV (wt t64_34 true) x0), (gdV (wt t64_34 true) x0)] h33)) fun t68_35 h36 =>
(gd (wt t64_34 true) (binV Try.prog .eql 3 (.tmp 68) (.const (Go.Value.int Go.IntKind.i64 0)) t68_35 (Go.Value.int Go.IntKind.i64 0))).bind fun t69_37 =>
(pickV t64_34 t69_37 (Go.Value.bool Bool.false)).bind fun t70_38 =>
(gd (wt t70_38 true) (unV Try.prog .not (gdV (wt t70_38 true) t36_17))).bind fun t73_39 =>
obH (gdH (wt (gdV (wt t70_38 true) t73_39) false) h36 (evC Try.prog 13 #[(gdV (wt (gdV (wt t70_38 true) t73_39) false) x0), (gdV (wt (gdV (wt t70_38 true) t73_39) false) t35_16)] h36)) fun t77_40 h41 =>
(gd (wt (gdV (wt t70_38 true) t73_39) false) (binV Try.prog .eql 3 (.tmp 77) (.const (Go.Value.int Go.IntKind.i64 (-1))) t77_40 (Go.Value.int Go.IntKind.i64 (-1)))).bind fun t78_42 =>
obH (gdH (wt (gdV (wt (gdV (wt t70_38 true) t73_39) false) t78_42) true) h41 (evC Try.prog 16 #[(gdV (wt (gdV (wt (gdV (wt t70_38 true) t73_39) false) t78_42) true) t35_16), (gdV (wt (gdV (wt (gdV (wt t70_38 true) t73_39) false) t78_42) true) x2)] h41)) fun t82_43 h44 =>
obH (gdH (wt (gdV (wt (gdV (wt t70_38 true) t73_39) false) t78_42) true) h44 (evC Try.prog 16 #[(gdV (wt (gdV (wt (gdV (wt t70_38 true) t73_39) false) t78_42) true) x0), (gdV (wt (gdV (wt (gdV (wt t70_38 true) t73_39) false) t78_42) true) x2)] h44)) fun t85_45 h46 =>
(gd (wt (gdV (wt (gdV (wt t70_38 true) t73_39) false) t78_42) true) (binV Try.prog .add 29 (.tmp 85) (.const (Go.Value.int Go.IntKind.u64 1)) t85_45 (Go.Value.int Go.IntKind.u64 1))).bind fun t86_47 =>
(gd (wt (gdV (wt (gdV (wt t70_38 true) t73_39) false) t78_42) true) (binV Try.prog .eql 29 (.tmp 82) (.tmp 86) t82_43 t86_47)).bind fun t87_48 =>
(gd (wt (gdV (wt t70_38 true) t73_39) false) (pickV (gdV (wt (gdV (wt t70_38 true) t73_39) false) t78_42) t87_48 (Go.Value.bool Bool.false))).bind fun t88_49 =>
(gd (wt t70_38 true) (pickV (gdV (wt t70_38 true) t73_39) (Go.Value.bool Bool.true) t88_49)).bind fun t89_50 =>
(pickV t70_38 t89_50 (Go.Value.bool Bool.false)).bind fun t90_51 =>
k .ret ⟨#[x0, x1, x2, x3, x4, x5, t90_51, t24_8, t27_10, t30_12, t35_16, t36_17, t12_0, t13_2, x0, t15_3, t16_4, t16_4, (gdV (wt t16_4 false) x1), t19_5, t20_6, t21_7, x0, x1, t24_8, x0, t24_8, t27_10, x1, t24_8, t30_12, t34_14, x0, x2, t34_14, t35_16, t36_17, t27_10, t38_18, t38_18, (gdV (wt t38_18 false) t27_10), t41_19, t42_20, t42_20, (gdV (wt t42_20 true) t30_12), t45_21, (gdV (wt t42_20 true) t45_21), (gdV (wt (gdV (wt t42_20 true) t45_21) false) t30_12), t48_22, t49_23, t50_24, t50_24, (gdV (wt t50_24 true) x1), (gdV (wt t50_24 true) x0), t54_25, (gdV (wt t50_24 true) t24_8), t56_27, t57_29, t57_29, (gdV (wt t57_29 true) t24_8), (gdV (wt t57_29 true) x0), t61_30, (gdV (wt t57_29 true) t24_8), t63_32, t64_34, t64_34, (gdV (wt t64_34 true) x0), (gdV (wt t64_34 true) x0), t68_35, t69_37, t70_38, t70_38, (gdV (wt t70_38 true) t36_17), t73_39, (gdV (wt t70_38 true) t73_39), (gdV (wt (gdV (wt t70_38 true) t73_39) false) x0), (gdV (wt (gdV (wt t70_38 true) t73_39) false) t35_16), t77_40, t78_42, (gdV (wt (gdV (wt t70_38 true) t73_39) false) t78_42), (gdV (wt (gdV (wt (gdV (wt t70_38 true) t73_39) false) t78_42) true) t35_16), (gdV (wt (gdV (wt (gdV (wt t70_38 true) t73_39) false) t78_42) true) x2), t82_43, (gdV (wt (gdV (wt (gdV (wt t70_38 true) t73_39) false) t78_42) true) x0), (gdV (wt (gdV (wt (gdV (wt t70_38 true) t73_39) false) t78_42) true) x2), t85_45, t86_47, t87_48, t88_49, t89_50, t90_51], h46⟩)) := by kernel_rfl
theorem call7 (x0 x1 x2 : Value) (h : Heap) : evC Try.prog 7 #[x0, x1, x2] h = codeK Try.prog (evC Try.prog) loopL c7_0 ⟨#[x0, x1, x2, undef, undef, undef, undef, undef, undef, undef, undef, undef, undef, undef, undef, undef, undef, undef, undef, undef, undef, undef, undef, undef, undef, undef, undef, undef, undef, undef, undef, undef, undef, undef, undef, undef, undef, undef, undef, undef, undef, undef, undef, undef, undef, undef, undef, undef, undef, undef, undef, undef, undef, undef, undef, undef, undef, undef, undef, undef, undef, undef, undef, undef, undef, undef, undef, undef, undef, undef, undef, undef, undef, undef, undef, undef, undef, undef, undef, undef, undef, undef, undef, undef, undef, undef, undef, undef, undef, undef, undef], nm h⟩ (retK Try.f7 Try.prog h) :=
  (evC_call 7 Try.f7 c7_0 Try.func7 (by kernel_rfl) #[x0, x1, x2] h).trans (by kernel_rfl)
theorem ret7 (x0 x1 x2 x3 x4 x5 x6 x7 x8 x9 x10 x11 x12 x13 x14 x15 x16 x17 x18 x19 x20 x21 x22 x23 x24 x25 x26 x27 x28 x29 x30 x31 x32 x33 x34 x35 x36 x37 x38 x39 x40 x41 x42 x43 x44 x45 x46 x47 x48 x49 x50 x51 x52 x53 x54 x55 x56 x57 x58 x59 x60 x61 x62 x63 x64 x65 x66 x67 x68 x69 x70 x71 x72 x73 x74 x75 x76 x77 x78 x79 x80 x81 x82 x83 x84 x85 x86 x87 x88 x89 x90 : Value) (h0 h : Heap) : retK Try.f7 Try.prog h0 .ret ⟨#[x0, x1, x2, x3, x4, x5, x6, x7, x8, x9, x10, x11, x12, x13, x14, x15, x16, x17, x18, x19, x20, x21, x22, x23, x24, x25, x26, x27, x28, x29, x30, x31, x32, x33, x34, x35, x36, x37, x38, x39, x40, x41, x42, x43, x44, x45, x46, x47, x48, x49, x50, x51, x52, x53, x54, x55, x56, x57, x58, x59, x60, x61, x62, x63, x64, x65, x66, x67, x68, x69, x70, x71, x72, x73, x74, x75, x76, x77, x78, x79, x80, x81, x82, x83, x84, x85, x86, x87, x88, x89, x90], h⟩ = fin h0 (some x6) h := by kernel_rfl
theorem retn7 (x0 x1 x2 x3 x4 x5 x6 x7 x8 x9 x10 x11 x12 x13 x14 x15 x16 x17 x18 x19 x20 x21 x22 x23 x24 x25 x26 x27 x28 x29 x30 x31 x32 x33 x34 x35 x36 x37 x38 x39 x40 x41 x42 x43 x44 x45 x46 x47 x48 x49 x50 x51 x52 x53 x54 x55 x56 x57 x58 x59 x60 x61 x62 x63 x64 x65 x66 x67 x68 x69 x70 x71 x72 x73 x74 x75 x76 x77 x78 x79 x80 x81 x82 x83 x84 x85 x86 x87 x88 x89 x90 : Value) (h0 h : Heap) : retK Try.f7 Try.prog h0 .normal ⟨#[x0, x1, x2, x3, x4, x5, x6, x7, x8, x9, x10, x11, x12, x13, x14, x15, x16, x17, x18, x19, x20, x21, x22, x23, x24, x25, x26, x27, x28, x29, x30, x31, x32, x33, x34, x35, x36, x37, x38, x39, x40, x41, x42, x43, x44, x45, x46, x47, x48, x49, x50, x51, x52, x53, x54, x55, x56, x57, x58, x59, x60, x61, x62, x63, x64, x65, x66, x67, x68, x69, x70, x71, x72, x73, x74, x75, x76, x77, x78, x79, x80, x81, x82, x83, x84, x85, x86, x87, x88, x89, x90], h⟩ = fin h0 (some x6) h := by kernel_rfl
end Go.Am
namespace Go.Am
open Go.Proofs
set_option maxRecDepth 100000
noncomputable def c3_0 : Code := bodyC Try.f3 []
theorem c3_0_eq {β : Type} (x0 x1 x2 x3 x4 x5 x6 x7 x8 x9 x10 x11 x12 x13 x14 x15 x16 x17 x18 x19 x20 x21 x22 x23 x24 x25 x26 x27 x28 x29 x30 x31 x32 x33 x34 x35 x36 x37 x38 x39 x40 x41 x42 x43 x44 x45 x46 x47 x48 x49 x50 x51 x52 x53 x54 x55 x56 x57 x58 x59 x60 x61 x62 x63 x64 x65 x66 x67 x68 x69 x70 x71 : Value) (h : Heap) (k : Ex → St → Option β) : codeK Try.prog (evC Try.prog) loopL c3_0 ⟨#[x0, x1, x2, x3, x4, x5, x6, x7, x8, x9, x10, x11, x12, x13, x14, x15, x16, x17, x18, x19, x20, x21, x22, x23, x24, x25, x26, x27, x28, x29, x30, x31, x32, x33, x34, x35, x36, x37, x38, x39, x40, x41, x42, x43, x44, x45, x46, x47, x48, x49, x50, x51, x52, x53, x54, x55, x56, x57, x58, x59, x60, x61, x62, x63, x64, x65, x66, x67, x68, x69, x70, x71], h⟩ k =
obH (evC Try.prog 12 #[] h) fun t11_0 h1 =>
(unV Try.prog .not t11_0).bind fun t12_2 =>
cnd t12_2 (
k .ret ⟨#[x0, x1, x2, x3, x4, x5, (Go.Value.bool Bool.false), x7, x8, x9, x10, t11_0, t12_2, x13, x14, x15, x16, x17, x18, x19, x20, x21, x22, x23, x24, x25, x26, x27, x28, x29, x30, x31, x32, x33, x34, x35, x36, x37, x38, x39, x40, x41, x42, x43, x44, x45, x46, x47, x48, x49, x50, x51, x52, x53, x54, x55, x56, x57, x58, x59, x60, x61, x62, x63, x64, x65, x66, x67, x68, x69, x70, x71], h1⟩) (
(lenV Try.prog 22 x0 h1).bind fun t14_3 =>
(binV Try.prog .gtr 3 (.tmp 14) (.const (Go.Value.int Go.IntKind.i64 30)) t14_3 (Go.Value.int Go.IntKind.i64 30)).bind fun t15_4 =>
(gd (wt t15_4 false) (lenV Try.prog 22 (gdV (wt t15_4 false) x1) h1)).bind fun t18_5 =>
(gd (wt t15_4 false) (binV Try.prog .gtr 3 (.tmp 18) (.const (Go.Value.int Go.IntKind.i64 30)) t18_5 (Go.Value.int Go.IntKind.i64 30))).bind fun t19_6 =>
(pickV t15_4 (Go.Value.bool Bool.true) t19_6).bind fun t20_7 =>
(gd (wt t20_7 false) (lenV Try.prog 22 (gdV (wt t20_7 false) x2) h1)).bind fun t23_8 =>
(gd (wt t20_7 false) (binV Try.prog .gtr 3 (.tmp 23) (.const (Go.Value.int Go.IntKind.i64 30)) t23_8 (Go.Value.int Go.IntKind.i64 30))).bind fun t24_9 =>
(pickV t20_7 (Go.Value.bool Bool.true) t24_9).bind fun t25_10 =>
cnd t25_10 (
k .ret ⟨#[x0, x1, x2, x3, x4, x5, (Go.Value.bool Bool.true), x7, x8, x9, x10, t11_0, t12_2, x0, t14_3, t15_4, t15_4, (gdV (wt t15_4 false) x1), t18_5, t19_6, t20_7, t20_7, (gdV (wt t20_7 false) x2), t23_8, t24_9, t25_10, x26, x27, x28, x29, x30, x31, x32, x33, x34, x35, x36, x37, x38, x39, x40, x41, x42, x43, x44, x45, x46, x47, x48, x49, x50, x51, x52, x53, x54, x55, x56, x57, x58, x59, x60, x61, x62, x63, x64, x65, x66, x67, x68, x69, x70, x71], h1⟩) (
obH (evC Try.prog 13 #[x0, x1] h1) fun t28_11 h12 =>
obH (evC Try.prog 13 #[x1, x2] h12) fun t31_13 h14 =>
obH (evC Try.prog 13 #[x0, x2] h14) fun t34_15 h16 =>
(binV Try.prog .leq 3 (.tmp 35) (.const (Go.Value.int Go.IntKind.i64 0)) t28_11 (Go.Value.int Go.IntKind.i64 0)).bind fun t36_17 =>
(gd (wt t36_17 true) (binV Try.prog .leq 3 (.tmp 38) (.const (Go.Value.int Go.IntKind.i64 0)) (gdV (wt t36_17 true) t31_13) (Go.Value.int Go.IntKind.i64 0))).bind fun t39_18 =>
(pickV t36_17 t39_18 (Go.Value.bool Bool.false)).bind fun t40_19 =>
(gd (wt t40_19 true) (binV Try.prog .gtr 3 (.tmp 42) (.const (Go.Value.int Go.IntKind.i64 0)) (gdV (wt t40_19 true) t34_15) (Go.Value.int Go.IntKind.i64 0))).bind fun t43_20 =>
(pickV t40_19 t43_20 (Go.Value.bool Bool.false)).bind fun t44_21 =>
cnd t44_21 (
k .ret ⟨#[x0, x1, x2, x3, x4, x5, (Go.Value.bool Bool.false), t28_11, t31_13, t34_15, x10, t11_0, t12_2, x0, t14_3, t15_4, t15_4, (gdV (wt t15_4 false) x1), t18_5, t19_6, t20_7, t20_7, (gdV (wt t20_7 false) x2), t23_8, t24_9, t25_10, x0, x1, t28_11, x1, x2, t31_13, x0, x2, t34_15, t28_11, t36_17, t36_17, (gdV (wt t36_17 true) t31_13), t39_18, t40_19, t40_19, (gdV (wt t40_19 true) t34_15), t43_20, t44_21, x45, x46, x47, x48, x49, x50, x51, x52, x53, x54, x55, x56, x57, x58, x59, x60, x61, x62, x63, x64, x65, x66, x67, x68, x69, x70, x71], h16⟩) (
obH (evC Try.prog 13 #[x1, x0] h16) fun t47_22 h23 =>
(binV Try.prog .eql 3 (.tmp 48) (.const (Go.Value.int Go.IntKind.i64 2)) t28_11 (Go.Value.int Go.IntKind.i64 2)).bind fun t49_24 =>
(gd (wt t49_24 true) (binV Try.prog .eql 3 (.tmp 51) (.const (Go.Value.int Go.IntKind.i64 2)) (gdV (wt t49_24 true) t47_22) (Go.Value.int Go.IntKind.i64 2))).bind fun t52_25 =>
(pickV t49_24 t52_25 (Go.Value.bool Bool.false)).bind fun t53_26 =>
(gd (wt t53_26 false) (binV Try.prog .eql 3 (.tmp 55) (.const (Go.Value.int Go.IntKind.i64 0)) (gdV (wt t53_26 false) t28_11) (Go.Value.int Go.IntKind.i64 0))).bind fun t56_27 =>
(gd (wt (gdV (wt t53_26 false) t56_27) true) (binV Try.prog .eql 3 (.tmp 58) (.const (Go.Value.int Go.IntKind.i64 0)) (gdV (wt (gdV (wt t53_26 false) t56_27) true) t47_22) (Go.Value.int Go.IntKind.i64 0))).bind fun t59_28 =>
(gd (wt t53_26 false) (pickV (gdV (wt t53_26 false) t56_27) t59_28 (Go.Value.bool Bool.false))).bind fun t60_29 =>
(pickV t53_26 (Go.Value.bool Bool.true) t60_29).bind fun t61_30 =>
(gd (wt t61_30 false) (binV Try.prog .neq 3 (.tmp 63) (.const (Go.Value.int Go.IntKind.i64 2)) (gdV (wt t61_30 false) t28_11) (Go.Value.int Go.IntKind.i64 2))).bind fun t64_31 =>
(gd (wt (gdV (wt t61_30 false) t64_31) true) (unV Try.prog .neg (gdV (wt (gdV (wt t61_30 false) t64_31) true) t47_22))).bind fun t68_32 =>
(gd (wt (gdV (wt t61_30 false) t64_31) true) (binV Try.prog .eql 3 (.tmp 66) (.tmp 68) (gdV (wt (gdV (wt t61_30 false) t64_31) true) t28_11) t68_32)).bind fun t69_33 =>
(gd (wt t61_30 false) (pickV (gdV (wt t61_30 false) t64_31) t69_33 (Go.Value.bool Bool.false))).bind fun t70_34 =>
(pickV t61_30 (Go.Value.bool Bool.true) t70_34).bind fun t71_35 =>
k .ret ⟨#[x0, x1, x2, x3, x4, x5, t71_35, t28_11, t31_13, t34_15, t47_22, t11_0, t12_2, x0, t14_3, t15_4, t15_4, (gdV (wt t15_4 false) x1), t18_5, t19_6, t20_7, t20_7, (gdV (wt t20_7 false) x2), t23_8, t24_9, t25_10, x0, x1, t28_11, x1, x2, t31_13, x0, x2, t34_15, t28_11, t36_17, t36_17, (gdV (wt t36_17 true) t31_13), t39_18, t40_19, t40_19, (gdV (wt t40_19 true) t34_15), t43_20, t44_21, x1, x0, t47_22, t28_11, t49_24, t49_24, (gdV (wt t49_24 true) t47_22), t52_25, t53_26, t53_26, (gdV (wt t53_26 false) t28_11), t56_27, (gdV (wt t53_26 false) t56_27), (gdV (wt (gdV (wt t53_26 false) t56_27) true) t47_22), t59_28, t60_29, t61_30, t61_30, (gdV (wt t61_30 false) t28_11), t64_31, (gdV (wt t61_30 false) t64_31), (gdV (wt (gdV (wt t61_30 false) t64_31) true) t28_11), (gdV (wt (gdV (wt t61_30 false) t64_31) true) t47_22), t68_32, t69_33, t70_34, t71_35], h23⟩))) := by kernel_rfl
theorem call3 (x0 x1 x2 : Value) (h : Heap) : evC Try.prog 3 #[x0, x1, x2] h = codeK Try.prog (evC Try.prog) loopL c3_0 ⟨#[x0, x1, x2, undef, undef, undef, undef, undef, undef, undef, undef, undef, undef, undef, undef, undef, undef, undef, undef, undef, undef, undef, undef, undef, undef, undef, undef, undef, undef, undef, undef, undef, undef, undef, undef, undef, undef, undef, undef, undef, undef, undef, undef, undef, undef, undef, undef, undef, undef, undef, undef, undef, undef, undef, undef, undef, undef, undef, undef, undef, undef, undef, undef, undef, undef, undef, undef, undef, undef, undef, undef, undef], nm h⟩ (retK Try.f3 Try.prog h) :=
  (evC_call 3 Try.f3 c3_0 Try.func3 (by kernel_rfl) #[x0, x1, x2] h).trans (by kernel_rfl)
theorem ret3 (x0 x1 x2 x3 x4 x5 x6 x7 x8 x9 x10 x11 x12 x13 x14 x15 x16 x17 x18 x19 x20 x21 x22 x23 x24 x25 x26 x27 x28 x29 x30 x31 x32 x33 x34 x35 x36 x37 x38 x39 x40 x41 x42 x43 x44 x45 x46 x47 x48 x49 x50 x51 x52 x53 x54 x55 x56 x57 x58 x59 x60 x61 x62 x63 x64 x65 x66 x67 x68 x69 x70 x71 : Value) (h0 h : Heap) : retK Try.f3 Try.prog h0 .ret ⟨#[x0, x1, x2, x3, x4, x5, x6, x7, x8, x9, x10, x11, x12, x13, x14, x15, x16, x17, x18, x19, x20, x21, x22, x23, x24, x25, x26, x27, x28, x29, x30, x31, x32, x33, x34, x35, x36, x37, x38, x39, x40, x41, x42, x43, x44, x45, x46, x47, x48, x49, x50, x51, x52, x53, x54, x55, x56, x57, x58, x59, x60, x61, x62, x63, x64, x65, x66, x67, x68, x69, x70, x71], h⟩ = fin h0 (some x6) h := by kernel_rfl
theorem retn3 (x0 x1 x2 x3 x4 x5 x6 x7 x8 x9 x10 x11 x12 x13 x14 x15 x16 x17 x18 x19 x20 x21 x22 x23 x24 x25 x26 x27 x28 x29 x30 x31 x32 x33 x34 x35 x36 x37 x38 x39 x40 x41 x42 x43 x44 x45 x46 x47 x48 x49 x50 x51 x52 x53 x54 x55 x56 x57 x58 x59 x60 x61 x62 x63 x64 x65 x66 x67 x68 x69 x70 x71 : Value) (h0 h : Heap) : retK Try.f3 Try.prog h0 .normal ⟨#[x0, x1, x2, x3, x4, x5, x6, x7, x8, x9, x10, x11, x12, x13, x14, x15, x16, x17, x18, x19, x20, x21, x22, x23, x24, x25, x26, x27, x28, x29, x30, x31, x32, x33, x34, x35, x36, x37, x38, x39, x40, x41, x42, x43, x44, x45, x46, x47, x48, x49, x50, x51, x52, x53, x54, x55, x56, x57, x58, x59, x60, x61, x62, x63, x64, x65, x66, x67, x68, x69, x70, x71], h⟩ = fin h0 (some x6) h := by kernel_rfl
end Go.Am
namespace Go.Am
open Go.Proofs
set_option maxRecDepth 100000
noncomputable def c4_0 : Code := bodyC Try.f4 []
noncomputable def c4_1 : Code := bodyC Try.f4 [true, true, true, true, true, false, true, false, false]
noncomputable def c4_2 : Code := bodyC Try.f4 [true, true, true, true, true, true]
noncomputable def c4_3 : Code := bodyC Try.f4 [true, true, true, true, true, false, true, false, false, true, false, false, true, true, true]
noncomputable def c4_4 : Code := bodyC Try.f4 [true, true, true, true, true, false, true, false, false, true, true]
noncomputable def c4_5 : Code := bodyC Try.f4 [true, true, true, true, true, true, false, true, false, false]
noncomputable def c4_6 : Code := bodyC Try.f4 [true, true, true, true, true, true, true]
theorem c4_0_eq {β : Type} (x0 x1 x2 x3 x4 x5 x6 x7 x8 x9 x10 x11 x12 x13 x14 x15 x16 x17 x18 x19 x20 x21 x22 x23 x24 x25 x26 x27 x28 x29 x30 x31 x32 x33 x34 x35 x36 x37 x38 x39 x40 x41 x42 x43 x44 x45 x46 x47 x48 x49 x50 x51 x52 x53 x54 x55 x56 x57 x58 x59 x60 x61 x62 x63 x64 x65 x66 x67 x68 x69 x70 x71 x72 x73 x74 x75 x76 x77 x78 x79 x80 x81 x82 x83 : Value) (h : Heap) (k : Ex → St → Option β) : codeK Try.prog (evC Try.prog) loopL c4_0 ⟨#[x0, x1, x2, x3, x4, x5, x6, x7, x8, x9, x10, x11, x12, x13, x14, x15, x16, x17, x18, x19, x20, x21, x22, x23, x24, x25, x26, x27, x28, x29, x30, x31, x32, x33, x34, x35, x36, x37, x38, x39, x40, x41, x42, x43, x44, x45, x46, x47, x48, x49, x50, x51, x52, x53, x54, x55, x56, x57, x58, x59, x60, x61, x62, x63, x64, x65, x66, x67, x68, x69, x70, x71, x72, x73, x74, x75, x76, x77, x78, x79, x80, x81, x82, x83], h⟩ k =
obH (evC Try.prog 12 #[] h) fun t10_0 h1 =>
(unV Try.prog .not t10_0).bind fun t11_2 =>
cnd t11_2 (
k .ret ⟨#[x0, x1, (Go.Value.bool Bool.false), x3, x4, x5, x6, x7, x8, x9, t10_0, t11_2, x12, x13, x14, x15, x16, x17, x18, x19, x20, x21, x22, x23, x24, x25, x26, x27, x28, x29, x30, x31, x32, x33, x34, x35, x36, x37, x38, x39, x40, x41, x42, x43, x44, x45, x46, x47, x48, x49, x50, x51, x52, x53, x54, x55, x56, x57, x58, x59, x60, x61, x62, x63, x64, x65, x66, x67, x68, x69, x70, x71, x72, x73, x74, x75, x76, x77, x78, x79, x80, x81, x82, x83], h1⟩) (
(lenV Try.prog 26 x0 h1).bind fun t13_3 =>
(binV Try.prog .gtr 3 (.tmp 13) (.const (Go.Value.int Go.IntKind.i64 60)) t13_3 (Go.Value.int Go.IntKind.i64 60)).bind fun t14_4 =>
cnd t14_4 (
k .ret ⟨#[x0, x1, (Go.Value.bool Bool.true), x3, x4, x5, x6, x7, x8, x9, t10_0, t11_2, x0, t13_3, t14_4, x15, x16, x17, x18, x19, x20, x21, x22, x23, x24, x25, x26, x27, x28, x29, x30, x31, x32, x33, x34, x35, x36, x37, x38, x39, x40, x41, x42, x43, x44, x45, x46, x47, x48, x49, x50, x51, x52, x53, x54, x55, x56, x57, x58, x59, x60, x61, x62, x63, x64, x65, x66, x67, x68, x69, x70, x71, x72, x73, x74, x75, x76, x77, x78, x79, x80, x81, x82, x83], h1⟩) (
obH (evC Try.prog 14 #[(Go.Value.int Go.IntKind.i64 0)] h1) fun t15_5 h6 =>
obH (evC Try.prog 14 #[(Go.Value.int Go.IntKind.i64 0)] h6) fun t16_7 h8 =>
obH (allocV Try.prog 30 h8) fun t5_9 h10 =>
loopK Try.prog (evC Try.prog) c4_1 ⟨#[x0, x1, (Go.Value.bool Bool.false), t15_5, t16_7, t5_9, (Go.Value.int Go.IntKind.i64 0), x7, x8, x9, t10_0, t11_2, x0, t13_3, t14_4, t15_5, t16_7, x17, x18, x19, x20, x21, x22, x23, x24, x25, x26, x27, x28, x29, x30, x31, x32, x33, x34, x35, x36, x37, x38, x39, x40, x41, x42, x43, x44, x45, x46, x47, x48, x49, x50, x51, x52, x53, x54, x55, x56, x57, x58, x59, x60, x61, x62, x63, x64, x65, x66, x67, x68, x69, x70, x71, x72, x73, x74, x75, x76, x77, x78, x79, x80, x81, x82, x83], h10⟩ (blockK 0 (seqK Try.prog (evC Try.prog) c4_2 k)))) := by kernel_rfl
theorem c4_1_eq {β : Type} (x0 x1 x2 x3 x4 x5 x6 x7 x8 x9 x10 x11 x12 x13 x14 x15 x16 x17 x18 x19 x20 x21 x22 x23 x24 x25 x26 x27 x28 x29 x30 x31 x32 x33 x34 x35 x36 x37 x38 x39 x40 x41 x42 x43 x44 x45 x46 x47 x48 x49 x50 x51 x52 x53 x54 x55 x56 x57 x58 x59 x60 x61 x62 x63 x64 x65 x66 x67 x68 x69 x70 x71 x72 x73 x74 x75 x76 x77 x78 x79 x80 x81 x82 x83 : Value) (h : Heap) (k : Ex → St → Option β) : codeK Try.prog (evC Try.prog) loopL c4_1 ⟨#[x0, x1, x2, x3, x4, x5, x6, x7, x8, x9, x10, x11, x12, x13, x14, x15, x16, x17, x18, x19, x20, x21, x22, x23, x24, x25, x26, x27, x28, x29, x30, x31, x32, x33, x34, x35, x36, x37, x38, x39, x40, x41, x42, x43, x44, x45, x46, x47, x48, x49, x50, x51, x52, x53, x54, x55, x56, x57, x58, x59, x60, x61, x62, x63, x64, x65, x66, x67, x68, x69, x70, x71, x72, x73, x74, x75, x76, x77, x78, x79, x80, x81, x82, x83], h⟩ k =
(lenV Try.prog 26 x0 h).bind fun t19_11 =>
(binV Try.prog .lss 3 (.tmp 17) (.tmp 19) x6 t19_11).bind fun t20_12 =>
cnd t20_12 (
(indexAddrV Try.prog 26 x0 x6).bind fun t27_13 =>
(loadV Try.prog 3 t27_13 h).bind fun t28_14 =>
obH (evC Try.prog 15 #[x3, t28_14] h) fun t29_15 h16 =>
(extractV t29_15 0).bind fun t30_17 =>
(extractV t29_15 1).bind fun t31_18 =>
(indexAddrV Try.prog 26 x0 x6).bind fun t35_19 =>
(loadV Try.prog 3 t35_19 h16).bind fun t36_20 =>
(binV Try.prog .geq 3 (.tmp 36) (.const (Go.Value.int Go.IntKind.i64 0)) t36_20 (Go.Value.int Go.IntKind.i64 0)).bind fun t37_21 =>
(gd (wt t37_21 true) (indexAddrV Try.prog 26 (gdV (wt t37_21 true) x0) (gdV (wt t37_21 true) x6))).bind fun t41_22 =>
(gd (wt t37_21 true) (loadV Try.prog 3 t41_22 h16)).bind fun t42_23 =>
(gd (wt t37_21 true) (binV Try.prog .lss 3 (.tmp 42) (.const (Go.Value.int Go.IntKind.i64 64)) t42_23 (Go.Value.int Go.IntKind.i64 64))).bind fun t43_24 =>
(pickV t37_21 t43_24 (Go.Value.bool Bool.false)).bind fun t44_25 =>
(binV Try.prog .neq 4 (.tmp 32) (.tmp 44) t31_18 t44_25).bind fun t45_26 =>
cnd t45_26 (
k .ret ⟨#[x0, x1, (Go.Value.bool Bool.false), x3, x4, x5, x6, t30_17, t31_18, x9, x10, x11, x12, x13, x14, x15, x16, x6, x0, t19_11, t20_12, x21, x22, t29_15, x3, x0, x6, t27_13, t28_14, t29_15, t30_17, t31_18, t31_18, x0, x6, t35_19, t36_20, t37_21, t37_21, (gdV (wt t37_21 true) x0), (gdV (wt t37_21 true) x6), t41_22, t42_23, t43_24, t44_25, t45_26, x46, x47, x48, x49, x50, x51, x52, x53, x54, x55, x56, x57, x58, x59, x60, x61, x62, x63, x64, x65, x66, x67, x68, x69, x70, x71, x72, x73, x74, x75, x76, x77, x78, x79, x80, x81, x82, x83], h16⟩) (
cnd t31_18 (
(indexAddrV Try.prog 26 x0 x6).bind fun t49_27 =>
(loadV Try.prog 3 t49_27 h16).bind fun t50_28 =>
(indexAddrV Try.prog 30 x5 t50_28).bind fun t51_29 =>
(loadV Try.prog 29 t51_29 h16).bind fun t52_30 =>
(binV Try.prog .add 29 (.tmp 52) (.const (Go.Value.int Go.IntKind.u64 1)) t52_30 (Go.Value.int Go.IntKind.u64 1)).bind fun t53_31 =>
(indexAddrV Try.prog 30 x5 t50_28).bind fun t54_32 =>
(storeV Try.prog 29 t54_32 t53_31 h16).bind fun h33 =>
codeK Try.prog (evC Try.prog) loopL c4_3 ⟨#[x0, x1, x2, x3, x4, x5, x6, t30_17, t31_18, x9, x10, x11, x12, x13, x14, x15, x16, x6, x0, t19_11, t20_12, x21, x22, t29_15, x3, x0, x6, t27_13, t28_14, t29_15, t30_17, t31_18, t31_18, x0, x6, t35_19, t36_20, t37_21, t37_21, (gdV (wt t37_21 true) x0), (gdV (wt t37_21 true) x6), t41_22, t42_23, t43_24, t44_25, t45_26, t31_18, x0, x6, t49_27, t50_28, t51_29, t52_30, t53_31, t54_32, x55, x56, x57, x58, x59, x60, x61, x62, x63, x64, x65, x66, x67, x68, x69, x70, x71, x72, x73, x74, x75, x76, x77, x78, x79, x80, x81, x82, x83], h33⟩ (blockK 1 (seqK Try.prog (evC Try.prog) c4_4 k))) (
codeK Try.prog (evC Try.prog) loopL c4_3 ⟨#[x0, x1, x2, x3, x4, x5, x6, t30_17, t31_18, x9, x10, x11, x12, x13, x14, x15, x16, x6, x0, t19_11, t20_12, x21, x22, t29_15, x3, x0, x6, t27_13, t28_14, t29_15, t30_17, t31_18, t31_18, x0, x6, t35_19, t36_20, t37_21, t37_21, (gdV (wt t37_21 true) x0), (gdV (wt t37_21 true) x6), t41_22, t42_23, t43_24, t44_25, t45_26, t31_18, x47, x48, x49, x50, x51, x52, x53, x54, x55, x56, x57, x58, x59, x60, x61, x62, x63, x64, x65, x66, x67, x68, x69, x70, x71, x72, x73, x74, x75, x76, x77, x78, x79, x80, x81, x82, x83], h16⟩ (blockK 1 (seqK Try.prog (evC Try.prog) c4_4 k))))) (
k (.exit 0) ⟨#[x0, x1, x2, x3, x4, x5, x6, x7, x8, x9, x10, x11, x12, x13, x14, x15, x16, x6, x0, t19_11, t20_12, x21, x22, x23, x24, x25, x26, x27, x28, x29, x30, x31, x32, x33, x34, x35, x36, x37, x38, x39, x40, x41, x42, x43, x44, x45, x46, x47, x48, x49, x50, x51, x52, x53, x54, x55, x56, x57, x58, x59, x60, x61, x62, x63, x64, x65, x66, x67, x68, x69, x70, x71, x72, x73, x74, x75, x76, x77, x78, x79, x80, x81, x82, x83], h⟩) := by kernel_rfl
theorem c4_2_eq {β : Type} (x0 x1 x2 x3 x4 x5 x6 x7 x8 x9 x10 x11 x12 x13 x14 x15 x16 x17 x18 x19 x20 x21 x22 x23 x24 x25 x26 x27 x28 x29 x30 x31 x32 x33 x34 x35 x36 x37 x38 x39 x40 x41 x42 x43 x44 x45 x46 x47 x48 x49 x50 x51 x52 x53 x54 x55 x56 x57 x58 x59 x60 x61 x62 x63 x64 x65 x66 x67 x68 x69 x70 x71 x72 x73 x74 x75 x76 x77 x78 x79 x80 x81 x82 x83 : Value) (h : Heap) (k : Ex → St → Option β) : codeK Try.prog (evC Try.prog) loopL c4_2 ⟨#[x0, x1, x2, x3, x4, x5, x6, x7, x8, x9, x10, x11, x12, x13, x14, x15, x16, x17, x18, x19, x20, x21, x22, x23, x24, x25, x26, x27, x28, x29, x30, x31, x32, x33, x34, x35, x36, x37, x38, x39, x40, x41, x42, x43, x44, x45, x46, x47, x48, x49, x50, x51, x52, x53, x54, x55, x56, x57, x58, x59, x60, x61, x62, x63, x64, x65, x66, x67, x68, x69, x70, x71, x72, x73, x74, x75, x76, x77, x78, x79, x80, x81, x82, x83], h⟩ k =
loopK Try.prog (evC Try.prog) c4_5 ⟨#[x0, x1, x2, x3, x4, x5, x6, x7, x8, (Go.Value.int Go.IntKind.i64 0), x10, x11, x12, x13, x14, x15, x16, x17, x18, x19, x20, x21, x22, x23, x24, x25, x26, x27, x28, x29, x30, x31, x32, x33, x34, x35, x36, x37, x38, x39, x40, x41, x42, x43, x44, x45, x46, x47, x48, x49, x50, x51, x52, x53, x54, x55, x56, x57, x58, x59, x60, x61, x62, x63, x64, x65, x66, x67, x68, x69, x70, x71, x72, x73, x74, x75, x76, x77, x78, x79, x80, x81, x82, x83], h⟩ (blockK 2 (seqK Try.prog (evC Try.prog) c4_6 k)) := by kernel_rfl
theorem c4_3_eq {β : Type} (x0 x1 x2 x3 x4 x5 x6 x7 x8 x9 x10 x11 x12 x13 x14 x15 x16 x17 x18 x19 x20 x21 x22 x23 x24 x25 x26 x27 x28 x29 x30 x31 x32 x33 x34 x35 x36 x37 x38 x39 x40 x41 x42 x43 x44 x45 x46 x47 x48 x49 x50 x51 x52 x53 x54 x55 x56 x57 x58 x59 x60 x61 x62 x63 x64 x65 x66 x67 x68 x69 x70 x71 x72 x73 x74 x75 x76 x77 x78 x79 x80 x81 x82 x83 : Value) (h : Heap) (k : Ex → St → Option β) : codeK Try.prog (evC Try.prog) loopL c4_3 ⟨#[x0, x1, x2, x3, x4, x5, x6, x7, x8, x9, x10, x11, x12, x13, x14, x15, x16, x17, x18, x19, x20, x21, x22, x23, x24, x25, x26, x27, x28, x29, x30, x31, x32, x33, x34, x35, x36, x37, x38, x39, x40, x41, x42, x43, x44, x45, x46, x47, x48, x49, x50, x51, x52, x53, x54, x55, x56, x57, x58, x59, x60, x61, x62, x63, x64, x65, x66, x67, x68, x69, x70, x71, x72, x73, x74, x75, x76, x77, x78, x79, x80, x81, x82, x83], h⟩ k =
(lenV Try.prog 26 x0 h).bind fun t60_34 =>
(binV Try.prog .sub 3 (.tmp 60) (.const (Go.Value.int Go.IntKind.i64 1)) t60_34 (Go.Value.int Go.IntKind.i64 1)).bind fun t61_35 =>
(binV Try.prog .sub 3 (.tmp 61) (.tmp 62) t61_35 x6).bind fun t63_36 =>
(indexAddrV Try.prog 26 x0 t63_36).bind fun t64_37 =>
(loadV Try.prog 3 t64_37 h).bind fun t65_38 =>
obH (evC Try.prog 15 #[x4, t65_38] h) fun t66_39 h40 =>
(extractV t66_39 0).bind fun t67_41 =>
(extractV t66_39 1).bind fun t68_42 =>
k .normal ⟨#[x0, x1, x2, x7, t67_41, x5, x6, x7, x8, x9, x10, x11, x12, x13, x14, x15, x16, x17, x18, x19, x20, x21, x22, x23, x24, x25, x26, x27, x28, x29, x30, x31, x32, x33, x34, x35, x36, x37, x38, x39, x40, x41, x42, x43, x44, x45, x46, x47, x48, x49, x50, x51, x52, x53, x54, x7, t66_39, x4, x0, x0, t60_34, t61_35, x6, t63_36, t64_37, t65_38, t66_39, t67_41, t68_42, x69, x70, x71, x72, x73, x74, x75, x76, x77, x78, x79, x80, x81, x82, x83], h40⟩ := by kernel_rfl
theorem c4_4_eq {β : Type} (x0 x1 x2 x3 x4 x5 x6 x7 x8 x9 x10 x11 x12 x13 x14 x15 x16 x17 x18 x19 x20 x21 x22 x23 x24 x25 x26 x27 x28 x29 x30 x31 x32 x33 x34 x35 x36 x37 x38 x39 x40 x41 x42 x43 x44 x45 x46 x47 x48 x49 x50 x51 x52 x53 x54 x55 x56 x57 x58 x59 x60 x61 x62 x63 x64 x65 x66 x67 x68 x69 x70 x71 x72 x73 x74 x75 x76 x77 x78 x79 x80 x81 x82 x83 : Value) (h : Heap) (k : Ex → St → Option β) : codeK Try.prog (evC Try.prog) loopL c4_4 ⟨#[x0, x1, x2, x3, x4, x5, x6, x7, x8, x9, x10, x11, x12, x13, x14, x15, x16, x17, x18, x19, x20, x21, x22, x23, x24, x25, x26, x27, x28, x29, x30, x31, x32, x33, x34, x35, x36, x37, x38, x39, x40, x41, x42, x43, x44, x45, x46, x47, x48, x49, x50, x51, x52, x53, x54, x55, x56, x57, x58, x59, x60, x61, x62, x63, x64, x65, x66, x67, x68, x69, x70, x71, x72, x73, x74, x75, x76, x77, x78, x79, x80, x81, x82, x83], h⟩ k =
(binV Try.prog .add 3 (.tmp 21) (.const (Go.Value.int Go.IntKind.i64 1)) x6 (Go.Value.int Go.IntKind.i64 1)).bind fun t22_43 =>
k .normal ⟨#[x0, x1, x2, x3, x4, x5, t22_43, x7, x8, x9, x10, x11, x12, x13, x14, x15, x16, x17, x18, x19, x20, x6, t22_43, x23, x24, x25, x26, x27, x28, x29, x30, x31, x32, x33, x34, x35, x36, x37, x38, x39, x40, x41, x42, x43, x44, x45, x46, x47, x48, x49, x50, x51, x52, x53, x54, x55, x56, x57, x58, x59, x60, x61, x62, x63, x64, x65, x66, x67, x68, x69, x70, x71, x72, x73, x74, x75, x76, x77, x78, x79, x80, x81, x82, x83], h⟩ := by kernel_rfl
theorem c4_5_eq {β : Type} (x0 x1 x2 x3 x4 x5 x6 x7 x8 x9 x10 x11 x12 x13 x14 x15 x16 x17 x18 x19 x20 x21 x22 x23 x24 x25 x26 x27 x28 x29 x30 x31 x32 x33 x34 x35 x36 x37 x38 x39 x40 x41 x42 x43 x44 x45 x46 x47 x48 x49 x50 x51 x52 x53 x54 x55 x56 x57 x58 x59 x60 x61 x62 x63 x64 x65 x66 x67 x68 x69 x70 x71 x72 x73 x74 x75 x76 x77 x78 x79 x80 x81 x82 x83 : Value) (h : Heap) (k : Ex → St → Option β) : codeK Try.prog (evC Try.prog) loopL c4_5 ⟨#[x0, x1, x2, x3, x4, x5, x6, x7, x8, x9, x10, x11, x12, x13, x14, x15, x16, x17, x18, x19, x20, x21, x22, x23, x24, x25, x26, x27, x28, x29, x30, x31, x32, x33, x34, x35, x36, x37, x38, x39, x40, x41, x42, x43, x44, x45, x46, x47, x48, x49, x50, x51, x52, x53, x54, x55, x56, x57, x58, x59, x60, x61, x62, x63, x64, x65, x66, x67, x68, x69, x70, x71, x72, x73, x74, x75, x76, x77, x78, x79, x80, x81, x82, x83], h⟩ k =
(binV Try.prog .lss 3 (.tmp 69) (.const (Go.Value.int Go.IntKind.i64 64)) x9 (Go.Value.int Go.IntKind.i64 64)).bind fun t70_44 =>
cnd t70_44 (
obH (evC Try.prog 16 #[x3, x9] (nm h)) fun t75_45 h46 =>
(indexAddrV Try.prog 30 x5 x9).bind fun t77_47 =>
(loadV Try.prog 29 t77_47 (am h46 h)).bind fun t78_48 =>
(binV Try.prog .neq 29 (.tmp 75) (.tmp 78) t75_45 t78_48).bind fun t79_49 =>
chk ((rb t77_47) ++ []) (h46.mods ++ []) (
cnd t79_49 (
k .ret ⟨#[x0, x1, (Go.Value.bool Bool.false), x3, x4, x5, x6, x7, x8, x9, x10, x11, x12, x13, x14, x15, x16, x17, x18, x19, x20, x21, x22, x23, x24, x25, x26, x27, x28, x29, x30, x31, x32, x33, x34, x35, x36, x37, x38, x39, x40, x41, x42, x43, x44, x45, x46, x47, x48, x49, x50, x51, x52, x53, x54, x55, x56, x57, x58, x59, x60, x61, x62, x63, x64, x65, x66, x67, x68, x9, t70_44, x71, x72, x3, x9, t75_45, x9, t77_47, t78_48, t79_49, x80, x81, x82, x83], (am h46 h)⟩) (
(binV Try.prog .add 3 (.tmp 71) (.const (Go.Value.int Go.IntKind.i64 1)) x9 (Go.Value.int Go.IntKind.i64 1)).bind fun t72_50 =>
k .normal ⟨#[x0, x1, x2, x3, x4, x5, x6, x7, x8, t72_50, x10, x11, x12, x13, x14, x15, x16, x17, x18, x19, x20, x21, x22, x23, x24, x25, x26, x27, x28, x29, x30, x31, x32, x33, x34, x35, x36, x37, x38, x39, x40, x41, x42, x43, x44, x45, x46, x47, x48, x49, x50, x51, x52, x53, x54, x55, x56, x57, x58, x59, x60, x61, x62, x63, x64, x65, x66, x67, x68, x9, t70_44, x9, t72_50, x3, x9, t75_45, x9, t77_47, t78_48, t79_49, x80, x81, x82, x83], (am h46 h)⟩))) (
k (.exit 2) ⟨#[x0, x1, x2, x3, x4, x5, x6, x7, x8, x9, x10, x11, x12, x13, x14, x15, x16, x17, x18, x19, x20, x21, x22, x23, x24, x25, x26, x27, x28, x29, x30, x31, x32, x33, x34, x35, x36, x37, x38, x39, x40, x41, x42, x43, x44, x45, x46, x47, x48, x49, x50, x51, x52, x53, x54, x55, x56, x57, x58, x59, x60, x61, x62, x63, x64, x65, x66, x67, x68, x9, t70_44, x71, x72, x73, x74, x75, x76, x77, x78, x79, x80, x81, x82, x83], h⟩) := by kernel_rfl
theorem c4_6_eq {β : Type} (x0 x1 x2 x3 x4 x5 x6 x7 x8 x9 x10 x11 x12 x13 x14 x15 x16 x17 x18 x19 x20 x21 x22 x23 x24 x25 x26 x27 x28 x29 x30 x31 x32 x33 x34 x35 x36 x37 x38 x39 x40 x41 x42 x43 x44 x45 x46 x47 x48 x49 x50 x51 x52 x53 x54 x55 x56 x57 x58 x59 x60 x61 x62 x63 x64 x65 x66 x67 x68 x69 x70 x71 x72 x73 x74 x75 x76 x77 x78 x79 x80 x81 x82 x83 : Value) (h : Heap) (k : Ex → St → Option β) : codeK Try.prog (evC Try.prog) loopL c4_6 ⟨#[x0, x1, x2, x3, x4, x5, x6, x7, x8, x9, x10, x11, x12, x13, x14, x15, x16, x17, x18, x19, x20, x21, x22, x23, x24, x25, x26, x27, x28, x29, x30, x31, x32, x33, x34, x35, x36, x37, x38, x39, x40, x41, x42, x43, x44, x45, x46, x47, x48, x49, x50, x51, x52, x53, x54, x55, x56, x57, x58, x59, x60, x61, x62, x63, x64, x65, x66, x67, x68, x69, x70, x71, x72, x73, x74, x75, x76, x77, x78, x79, x80, x81, x82, x83], h⟩ k =
obH (evC Try.prog 13 #[x3, x4] h) fun t82_51 h52 =>
(binV Try.prog .eql 3 (.tmp 82) (.const (Go.Value.int Go.IntKind.i64 0)) t82_51 (Go.Value.int Go.IntKind.i64 0)).bind fun t83_53 =>
k .ret ⟨#[x0, x1, t83_53, x3, x4, x5, x6, x7, x8, x9, x10, x11, x12, x13, x14, x15, x16, x17, x18, x19, x20, x21, x22, x23, x24, x25, x26, x27, x28, x29, x30, x31, x32, x33, x34, x35, x36, x37, x38, x39, x40, x41, x42, x43, x44, x45, x46, x47, x48, x49, x50, x51, x52, x53, x54, x55, x56, x57, x58, x59, x60, x61, x62, x63, x64, x65, x66, x67, x68, x69, x70, x71, x72, x73, x74, x75, x76, x77, x78, x79, x3, x4, t82_51, t83_53], h52⟩ := by kernel_rfl
theorem call4 (x0 : Value) (h : Heap) : evC Try.prog 4 #[x0] h = codeK Try.prog (evC Try.prog) loopL c4_0 ⟨#[x0, undef, undef, undef, undef, undef, undef, undef, undef, undef, undef, undef, undef, undef, undef, undef, undef, undef, undef, undef, undef, undef, undef, undef, undef, undef, undef, undef, undef, undef, undef, undef, undef, undef, undef, undef, undef, undef, undef, undef, undef, undef, undef, undef, undef, undef, undef, undef, undef, undef, undef, undef, undef, undef, undef, undef, undef, undef, undef, undef, undef, undef, undef, undef, undef, undef, undef, undef, undef, undef, undef, undef, undef, undef, undef, undef, undef, undef, undef, undef, undef, undef, undef, undef], nm h⟩ (retK Try.f4 Try.prog h) :=
  (evC_call 4 Try.f4 c4_0 Try.func4 (by kernel_rfl) #[x0] h).trans (by kernel_rfl)
theorem ret4 (x0 x1 x2 x3 x4 x5 x6 x7 x8 x9 x10 x11 x12 x13 x14 x15 x16 x17 x18 x19 x20 x21 x22 x23 x24 x25 x26 x27 x28 x29 x30 x31 x32 x33 x34 x35 x36 x37 x38 x39 x40 x41 x42 x43 x44 x45 x46 x47 x48 x49 x50 x51 x52 x53 x54 x55 x56 x57 x58 x59 x60 x61 x62 x63 x64 x65 x66 x67 x68 x69 x70 x71 x72 x73 x74 x75 x76 x77 x78 x79 x80 x81 x82 x83 : Value) (h0 h : Heap) : retK Try.f4 Try.prog h0 .ret ⟨#[x0, x1, x2, x3, x4, x5, x6, x7, x8, x9, x10, x11, x12, x13, x14, x15, x16, x17, x18, x19, x20, x21, x22, x23, x24, x25, x26, x27, x28, x29, x30, x31, x32, x33, x34, x35, x36, x37, x38, x39, x40, x41, x42, x43, x44, x45, x46, x47, x48, x49, x50, x51, x52, x53, x54, x55, x56, x57, x58, x59, x60, x61, x62, x63, x64, x65, x66, x67, x68, x69, x70, x71, x72, x73, x74, x75, x76, x77, x78, x79, x80, x81, x82, x83], h⟩ = fin h0 (some x2) h := by kernel_rfl
theorem retn4 (x0 x1 x2 x3 x4 x5 x6 x7 x8 x9 x10 x11 x12 x13 x14 x15 x16 x17 x18 x19 x20 x21 x22 x23 x24 x25 x26 x27 x28 x29 x30 x31 x32 x33 x34 x35 x36 x37 x38 x39 x40 x41 x42 x43 x44 x45 x46 x47 x48 x49 x50 x51 x52 x53 x54 x55 x56 x57 x58 x59 x60 x61 x62 x63 x64 x65 x66 x67 x68 x69 x70 x71 x72 x73 x74 x75 x76 x77 x78 x79 x80 x81 x82 x83 : Value) (h0 h : Heap) : retK Try.f4 Try.prog h0 .normal ⟨#[x0, x1, x2, x3, x4, x5, x6, x7, x8, x9, x10, x11, x12, x13, x14, x15, x16, x17, x18, x19, x20, x21, x22, x23, x24, x25, x26, x27, x28, x29, x30, x31, x32, x33, x34, x35, x36, x37, x38, x39, x40, x41, x42, x43, x44, x45, x46, x47, x48, x49, x50, x51, x52, x53, x54, x55, x56, x57, x58, x59, x60, x61, x62, x63, x64, x65, x66, x67, x68, x69, x70, x71, x72, x73, x74, x75, x76, x77, x78, x79, x80, x81, x82, x83], h⟩ = fin h0 (some x2) h := by kernel_rfl
end Go.Am
