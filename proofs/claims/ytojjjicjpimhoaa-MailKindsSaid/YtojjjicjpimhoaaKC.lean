/- What the texts of functions come to in the machine (printed by a program of this seat; Lean checks it). -/
import Derived.Test.YtojjjicjpimhoaaKB
import Derived.Test.YtojjjicjpimhoaaChecked
import Derived.KernelRfl
set_option linter.all false
namespace Go.Am
open Go.Proofs
set_option maxRecDepth 100000
noncomputable def c87_0 : Code := bodyC Try.f87 []
theorem c87_0_eq {β : Type} (x0 x1 x2 x3 x4 x5 x6 x7 x8 x9 x10 x11 x12 x13 x14 x15 x16 : Value) (h : Heap) (k : Ex → St → Option β) : codeK Try.prog (evC Try.prog) loopL c87_0 ⟨#[x0, x1, x2, x3, x4, x5, x6, x7, x8, x9, x10, x11, x12, x13, x14, x15, x16], h⟩ k =
(binV Try.prog .lss 3 (.tmp 5) (.const (Go.Value.int Go.IntKind.i64 0)) x1 (Go.Value.int Go.IntKind.i64 0)).bind fun t6_0 =>
(gd (wt t6_0 false) (lenV Try.prog 53 (gdV (wt t6_0 false) x0) h)).bind fun t10_1 =>
(gd (wt t6_0 false) (binV Try.prog .geq 3 (.tmp 8) (.tmp 10) (gdV (wt t6_0 false) x1) t10_1)).bind fun t11_2 =>
(pickV t6_0 (Go.Value.bool Bool.true) t11_2).bind fun t12_3 =>
cnd t12_3 (
k .ret ⟨#[x0, x1, x2, x3, (Go.Value.int Go.IntKind.u64 0), x1, t6_0, t6_0, (gdV (wt t6_0 false) x1), (gdV (wt t6_0 false) x0), t10_1, t11_2, t12_3, x13, x14, x15, x16], h⟩) (
(indexAddrV Try.prog 53 x0 x1).bind fun t15_4 =>
(loadV Try.prog 46 t15_4 h).bind fun t16_5 =>
k .ret ⟨#[x0, x1, x2, x3, t16_5, x1, t6_0, t6_0, (gdV (wt t6_0 false) x1), (gdV (wt t6_0 false) x0), t10_1, t11_2, t12_3, x0, x1, t15_4, t16_5], h⟩) := by kernel_rfl
theorem call87 (x0 x1 : Value) (h : Heap) : evC Try.prog 87 #[x0, x1] h = codeK Try.prog (evC Try.prog) loopL c87_0 ⟨#[x0, x1, undef, undef, undef, undef, undef, undef, undef, undef, undef, undef, undef, undef, undef, undef, undef], nm h⟩ (retK Try.f87 Try.prog h) :=
  (evC_call 87 Try.f87 c87_0 Try.func87 (by kernel_rfl) #[x0, x1] h).trans (by kernel_rfl)
theorem ret87 (x0 x1 x2 x3 x4 x5 x6 x7 x8 x9 x10 x11 x12 x13 x14 x15 x16 : Value) (h0 h : Heap) : retK Try.f87 Try.prog h0 .ret ⟨#[x0, x1, x2, x3, x4, x5, x6, x7, x8, x9, x10, x11, x12, x13, x14, x15, x16], h⟩ = fin h0 (some x4) h := by kernel_rfl
theorem retn87 (x0 x1 x2 x3 x4 x5 x6 x7 x8 x9 x10 x11 x12 x13 x14 x15 x16 : Value) (h0 h : Heap) : retK Try.f87 Try.prog h0 .normal ⟨#[x0, x1, x2, x3, x4, x5, x6, x7, x8, x9, x10, x11, x12, x13, x14, x15, x16], h⟩ = fin h0 (some x4) h := by kernel_rfl
end Go.Am
namespace Go.Am
open Go.Proofs
set_option maxRecDepth 100000
noncomputable def c79_0 : Code := bodyC Try.f79 []
theorem c79_0_eq {β : Type} (x0 x1 x2 x3 x4 x5 x6 : Value) (h : Heap) (k : Ex → St → Option β) : codeK Try.prog (evC Try.prog) loopL c79_0 ⟨#[x0, x1, x2, x3, x4, x5, x6], h⟩ k =
obH (builtinV Try.prog .max #[3, 3] #[x0, (Go.Value.int Go.IntKind.i64 0)] h) fun t4_0 h1 =>
obH (builtinV Try.prog .min #[3, 3] #[t4_0, (Go.Value.int Go.IntKind.i64 64)] h1) fun t5_2 h3 =>
obH (makeSliceV Try.prog 53 t5_2 t5_2 h3) fun t6_4 h5 =>
k .ret ⟨#[x0, x1, t6_4, x0, t4_0, t5_2, t6_4], h5⟩ := by kernel_rfl
theorem call79 (x0 : Value) (h : Heap) : evC Try.prog 79 #[x0] h = codeK Try.prog (evC Try.prog) loopL c79_0 ⟨#[x0, undef, undef, undef, undef, undef, undef], nm h⟩ (retK Try.f79 Try.prog h) :=
  (evC_call 79 Try.f79 c79_0 Try.func79 (by kernel_rfl) #[x0] h).trans (by kernel_rfl)
theorem ret79 (x0 x1 x2 x3 x4 x5 x6 : Value) (h0 h : Heap) : retK Try.f79 Try.prog h0 .ret ⟨#[x0, x1, x2, x3, x4, x5, x6], h⟩ = fin h0 (some x2) h := by kernel_rfl
theorem retn79 (x0 x1 x2 x3 x4 x5 x6 : Value) (h0 h : Heap) : retK Try.f79 Try.prog h0 .normal ⟨#[x0, x1, x2, x3, x4, x5, x6], h⟩ = fin h0 (some x2) h := by kernel_rfl
end Go.Am
namespace Go.Am
open Go.Proofs
set_option maxRecDepth 100000
noncomputable def c93_0 : Code := bodyC Try.f93 []
noncomputable def c93_1 : Code := bodyC Try.f93 [true, true, false, true, false, false]
noncomputable def c93_2 : Code := bodyC Try.f93 [true, true, true]
theorem c93_0_eq {β : Type} (x0 x1 x2 x3 x4 x5 x6 x7 x8 x9 x10 x11 x12 x13 x14 x15 x16 x17 x18 x19 x20 x21 x22 x23 x24 x25 x26 x27 x28 x29 x30 x31 x32 x33 x34 x35 x36 x37 x38 x39 x40 x41 x42 x43 x44 x45 : Value) (h : Heap) (k : Ex → St → Option β) : codeK Try.prog (evC Try.prog) loopL c93_0 ⟨#[x0, x1, x2, x3, x4, x5, x6, x7, x8, x9, x10, x11, x12, x13, x14, x15, x16, x17, x18, x19, x20, x21, x22, x23, x24, x25, x26, x27, x28, x29, x30, x31, x32, x33, x34, x35, x36, x37, x38, x39, x40, x41, x42, x43, x44, x45], h⟩ k =
(lenV Try.prog 53 x0 h).bind fun t11_0 =>
(lenV Try.prog 53 x1 h).bind fun t13_1 =>
obH (builtinV Try.prog .max #[3, 3] #[t11_0, t13_1] h) fun t14_2 h3 =>
loopK Try.prog (evC Try.prog) c93_1 ⟨#[x0, x1, x2, x3, (Go.Value.int Go.IntKind.i64 0), (Go.Value.bool Bool.false), (Go.Value.bool Bool.false), x7, x8, x9, x0, t11_0, x1, t13_1, t14_2, (Go.Value.int Go.IntKind.i64 0), x16, x17, x18, x19, x20, x21, x22, x23, x24, x25, x26, x27, x28, x29, x30, x31, x32, x33, x34, x35, x36, x37, x38, x39, x40, x41, x42, x43, x44, x45], h3⟩ (blockK 0 (seqK Try.prog (evC Try.prog) c93_2 k)) := by kernel_rfl
theorem c93_1_eq {β : Type} (x0 x1 x2 x3 x4 x5 x6 x7 x8 x9 x10 x11 x12 x13 x14 x15 x16 x17 x18 x19 x20 x21 x22 x23 x24 x25 x26 x27 x28 x29 x30 x31 x32 x33 x34 x35 x36 x37 x38 x39 x40 x41 x42 x43 x44 x45 : Value) (h : Heap) (k : Ex → St → Option β) : codeK Try.prog (evC Try.prog) loopL c93_1 ⟨#[x0, x1, x2, x3, x4, x5, x6, x7, x8, x9, x10, x11, x12, x13, x14, x15, x16, x17, x18, x19, x20, x21, x22, x23, x24, x25, x26, x27, x28, x29, x30, x31, x32, x33, x34, x35, x36, x37, x38, x39, x40, x41, x42, x43, x44, x45], h⟩ k =
(binV Try.prog .lss 3 (.tmp 15) (.tmp 14) x15 x14).bind fun t16_4 =>
cnd t16_4 (
obH (evC Try.prog 87 #[x0, x15] h) fun t20_5 h6 =>
obH (evC Try.prog 87 #[x1, x15] h6) fun t23_7 h8 =>
(gd (wt x5 false) (binV Try.prog .lss 46 (.tmp 26) (.tmp 27) (gdV (wt x5 false) t20_5) (gdV (wt x5 false) t23_7))).bind fun t28_9 =>
(pickV x5 (Go.Value.bool Bool.true) t28_9).bind fun t29_10 =>
(gd (wt x6 false) (binV Try.prog .gtr 46 (.tmp 32) (.tmp 33) (gdV (wt x6 false) t20_5) (gdV (wt x6 false) t23_7))).bind fun t34_11 =>
(pickV x6 (Go.Value.bool Bool.true) t34_11).bind fun t35_12 =>
(binV Try.prog .add 3 (.tmp 15) (.const (Go.Value.int Go.IntKind.i64 1)) x15 (Go.Value.int Go.IntKind.i64 1)).bind fun t36_13 =>
k .normal ⟨#[x0, x1, x2, x3, x4, t29_10, t35_12, x15, t20_5, t23_7, x10, x11, x12, x13, x14, t36_13, t16_4, x15, x0, x15, t20_5, x1, x15, t23_7, x5, x5, (gdV (wt x5 false) t20_5), (gdV (wt x5 false) t23_7), t28_9, t29_10, x6, x6, (gdV (wt x6 false) t20_5), (gdV (wt x6 false) t23_7), t34_11, t35_12, t36_13, x37, x38, x39, x40, x41, x42, x43, x44, x45], h8⟩) (
k (.exit 0) ⟨#[x0, x1, x2, x3, x4, x5, x6, x7, x8, x9, x10, x11, x12, x13, x14, x15, t16_4, x17, x18, x19, x20, x21, x22, x23, x24, x25, x26, x27, x28, x29, x30, x31, x32, x33, x34, x35, x36, x37, x38, x39, x40, x41, x42, x43, x44, x45], h⟩) := by kernel_rfl
theorem c93_2_eq {β : Type} (x0 x1 x2 x3 x4 x5 x6 x7 x8 x9 x10 x11 x12 x13 x14 x15 x16 x17 x18 x19 x20 x21 x22 x23 x24 x25 x26 x27 x28 x29 x30 x31 x32 x33 x34 x35 x36 x37 x38 x39 x40 x41 x42 x43 x44 x45 : Value) (h : Heap) (k : Ex → St → Option β) : codeK Try.prog (evC Try.prog) loopL c93_2 ⟨#[x0, x1, x2, x3, x4, x5, x6, x7, x8, x9, x10, x11, x12, x13, x14, x15, x16, x17, x18, x19, x20, x21, x22, x23, x24, x25, x26, x27, x28, x29, x30, x31, x32, x33, x34, x35, x36, x37, x38, x39, x40, x41, x42, x43, x44, x45], h⟩ k =
(pickV x5 (gdV (wt x5 true) x6) (Go.Value.bool Bool.false)).bind fun t41_14 =>
cnd t41_14 (
k .ret ⟨#[x0, x1, x2, x3, (Go.Value.int Go.IntKind.i64 2), x5, x6, x7, x8, x9, x10, x11, x12, x13, x14, x15, x16, x17, x18, x19, x20, x21, x22, x23, x24, x25, x26, x27, x28, x29, x30, x31, x32, x33, x34, x35, x36, t41_14, x5, x5, (gdV (wt x5 true) x6), t41_14, x42, x43, x44, x45], h⟩) (
cnd x5 (
k .ret ⟨#[x0, x1, x2, x3, (Go.Value.int Go.IntKind.i64 (-1)), x5, x6, x7, x8, x9, x10, x11, x12, x13, x14, x15, x16, x17, x18, x19, x20, x21, x22, x23, x24, x25, x26, x27, x28, x29, x30, x31, x32, x33, x34, x35, x36, t41_14, x5, x5, (gdV (wt x5 true) x6), t41_14, x5, x5, x44, x45], h⟩) (
cnd x6 (
k .ret ⟨#[x0, x1, x2, x3, (Go.Value.int Go.IntKind.i64 1), x5, x6, x7, x8, x9, x10, x11, x12, x13, x14, x15, x16, x17, x18, x19, x20, x21, x22, x23, x24, x25, x26, x27, x28, x29, x30, x31, x32, x33, x34, x35, x36, t41_14, x5, x5, (gdV (wt x5 true) x6), t41_14, x5, x5, x6, x6], h⟩) (
k .ret ⟨#[x0, x1, x2, x3, (Go.Value.int Go.IntKind.i64 0), x5, x6, x7, x8, x9, x10, x11, x12, x13, x14, x15, x16, x17, x18, x19, x20, x21, x22, x23, x24, x25, x26, x27, x28, x29, x30, x31, x32, x33, x34, x35, x36, t41_14, x5, x5, (gdV (wt x5 true) x6), t41_14, x5, x5, x6, x6], h⟩))) := by kernel_rfl
theorem call93 (x0 x1 : Value) (h : Heap) : evC Try.prog 93 #[x0, x1] h = codeK Try.prog (evC Try.prog) loopL c93_0 ⟨#[x0, x1, undef, undef, undef, undef, undef, undef, undef, undef, undef, undef, undef, undef, undef, undef, undef, undef, undef, undef, undef, undef, undef, undef, undef, undef, undef, undef, undef, undef, undef, undef, undef, undef, undef, undef, undef, undef, undef, undef, undef, undef, undef, undef, undef, undef], nm h⟩ (retK Try.f93 Try.prog h) :=
  (evC_call 93 Try.f93 c93_0 Try.func93 (by kernel_rfl) #[x0, x1] h).trans (by kernel_rfl)
theorem ret93 (x0 x1 x2 x3 x4 x5 x6 x7 x8 x9 x10 x11 x12 x13 x14 x15 x16 x17 x18 x19 x20 x21 x22 x23 x24 x25 x26 x27 x28 x29 x30 x31 x32 x33 x34 x35 x36 x37 x38 x39 x40 x41 x42 x43 x44 x45 : Value) (h0 h : Heap) : retK Try.f93 Try.prog h0 .ret ⟨#[x0, x1, x2, x3, x4, x5, x6, x7, x8, x9, x10, x11, x12, x13, x14, x15, x16, x17, x18, x19, x20, x21, x22, x23, x24, x25, x26, x27, x28, x29, x30, x31, x32, x33, x34, x35, x36, x37, x38, x39, x40, x41, x42, x43, x44, x45], h⟩ = fin h0 (some x4) h := by kernel_rfl
theorem retn93 (x0 x1 x2 x3 x4 x5 x6 x7 x8 x9 x10 x11 x12 x13 x14 x15 x16 x17 x18 x19 x20 x21 x22 x23 x24 x25 x26 x27 x28 x29 x30 x31 x32 x33 x34 x35 x36 x37 x38 x39 x40 x41 x42 x43 x44 x45 : Value) (h0 h : Heap) : retK Try.f93 Try.prog h0 .normal ⟨#[x0, x1, x2, x3, x4, x5, x6, x7, x8, x9, x10, x11, x12, x13, x14, x15, x16, x17, x18, x19, x20, x21, x22, x23, x24, x25, x26, x27, x28, x29, x30, x31, x32, x33, x34, x35, x36, x37, x38, x39, x40, x41, x42, x43, x44, x45], h⟩ = fin h0 (some x4) h := by kernel_rfl
end Go.Am
namespace Go.Am
open Go.Proofs
set_option maxRecDepth 100000
noncomputable def c119_0 : Code := bodyC Try.f119 []
theorem c119_0_eq {β : Type} (x0 x1 x2 x3 x4 x5 x6 x7 x8 x9 x10 x11 x12 x13 x14 x15 x16 x17 x18 : Value) (h : Heap) (k : Ex → St → Option β) : codeK Try.prog (evC Try.prog) loopL c119_0 ⟨#[x0, x1, x2, x3, x4, x5, x6, x7, x8, x9, x10, x11, x12, x13, x14, x15, x16, x17, x18], h⟩ k =
obH (evC Try.prog 86 #[x0] h) fun t7_0 h1 =>
(lenV Try.prog 53 t7_0 h1).bind fun t10_2 =>
(binV Try.prog .gtr 3 (.tmp 8) (.tmp 10) x1 t10_2).bind fun t11_3 =>
cnd t11_3 (
(lenV Try.prog 53 t7_0 h1).bind fun t15_4 =>
(binV Try.prog .sub 3 (.tmp 13) (.tmp 15) x1 t15_4).bind fun t16_5 =>
obH (appendV Try.prog 53 (some 3) t7_0 t16_5 h1) fun t17_6 h7 =>
k .ret ⟨#[x0, x1, x2, x3, t17_6, t17_6, x0, t7_0, x1, t7_0, t10_2, t11_3, t7_0, x1, t7_0, t15_4, t16_5, t17_6, t17_6], h7⟩) (
k .ret ⟨#[x0, x1, x2, x3, t7_0, t7_0, x0, t7_0, x1, t7_0, t10_2, t11_3, x12, x13, x14, x15, x16, x17, t7_0], h1⟩) := by kernel_rfl
theorem call119 (x0 x1 : Value) (h : Heap) : evC Try.prog 119 #[x0, x1] h = codeK Try.prog (evC Try.prog) loopL c119_0 ⟨#[x0, x1, undef, undef, undef, undef, undef, undef, undef, undef, undef, undef, undef, undef, undef, undef, undef, undef, undef], nm h⟩ (retK Try.f119 Try.prog h) :=
  (evC_call 119 Try.f119 c119_0 Try.func119 (by kernel_rfl) #[x0, x1] h).trans (by kernel_rfl)
theorem ret119 (x0 x1 x2 x3 x4 x5 x6 x7 x8 x9 x10 x11 x12 x13 x14 x15 x16 x17 x18 : Value) (h0 h : Heap) : retK Try.f119 Try.prog h0 .ret ⟨#[x0, x1, x2, x3, x4, x5, x6, x7, x8, x9, x10, x11, x12, x13, x14, x15, x16, x17, x18], h⟩ = fin h0 (some x4) h := by kernel_rfl
theorem retn119 (x0 x1 x2 x3 x4 x5 x6 x7 x8 x9 x10 x11 x12 x13 x14 x15 x16 x17 x18 : Value) (h0 h : Heap) : retK Try.f119 Try.prog h0 .normal ⟨#[x0, x1, x2, x3, x4, x5, x6, x7, x8, x9, x10, x11, x12, x13, x14, x15, x16, x17, x18], h⟩ = fin h0 (some x4) h := by kernel_rfl
end Go.Am
namespace Go.Am
open Go.Proofs
set_option maxRecDepth 100000
noncomputable def c83_0 : Code := bodyC Try.f83 []
theorem c83_0_eq {β : Type} (x0 x1 x2 x3 x4 x5 x6 x7 x8 x9 x10 x11 x12 x13 x14 x15 x16 x17 x18 x19 x20 x21 x22 x23 x24 x25 x26 x27 x28 x29 x30 x31 : Value) (h : Heap) (k : Ex → St → Option β) : codeK Try.prog (evC Try.prog) loopL c83_0 ⟨#[x0, x1, x2, x3, x4, x5, x6, x7, x8, x9, x10, x11, x12, x13, x14, x15, x16, x17, x18, x19, x20, x21, x22, x23, x24, x25, x26, x27, x28, x29, x30, x31], h⟩ k =
(binV Try.prog .lss 3 (.tmp 7) (.const (Go.Value.int Go.IntKind.i64 0)) x1 (Go.Value.int Go.IntKind.i64 0)).bind fun t8_0 =>
(gd (wt t8_0 false) (binV Try.prog .geq 3 (.tmp 10) (.const (Go.Value.int Go.IntKind.i64 64)) (gdV (wt t8_0 false) x1) (Go.Value.int Go.IntKind.i64 64))).bind fun t11_1 =>
(pickV t8_0 (Go.Value.bool Bool.true) t11_1).bind fun t12_2 =>
obH (gdH (wt t12_2 false) h (evC Try.prog 87 #[(gdV (wt t12_2 false) x0), (gdV (wt t12_2 false) x1)] h)) fun t16_3 h4 =>
(gd (wt t12_2 false) (binV Try.prog .eql 46 (.tmp 16) (.const (Go.Value.int Go.IntKind.u64 18446744073709551615)) t16_3 (Go.Value.int Go.IntKind.u64 18446744073709551615))).bind fun t17_5 =>
(pickV t12_2 (Go.Value.bool Bool.true) t17_5).bind fun t18_6 =>
cnd t18_6 (
obH (evC Try.prog 86 #[x0] h4) fun t20_7 h8 =>
k .ret ⟨#[x0, x1, x2, x3, t20_7, (Go.Value.bool Bool.false), x6, x1, t8_0, t8_0, (gdV (wt t8_0 false) x1), t11_1, t12_2, t12_2, (gdV (wt t12_2 false) x0), (gdV (wt t12_2 false) x1), t16_3, t17_5, t18_6, x0, t20_7, x21, x22, x23, x24, x25, x26, x27, x28, x29, x30, x31], h8⟩) (
(binV Try.prog .add 3 (.tmp 22) (.const (Go.Value.int Go.IntKind.i64 1)) x1 (Go.Value.int Go.IntKind.i64 1)).bind fun t23_9 =>
obH (evC Try.prog 119 #[x0, t23_9] h4) fun t24_10 h11 =>
(indexAddrV Try.prog 53 t24_10 x1).bind fun t27_12 =>
(loadV Try.prog 46 t27_12 h11).bind fun t28_13 =>
(binV Try.prog .add 46 (.tmp 28) (.const (Go.Value.int Go.IntKind.u64 1)) t28_13 (Go.Value.int Go.IntKind.u64 1)).bind fun t29_14 =>
(indexAddrV Try.prog 53 t24_10 x1).bind fun t30_15 =>
(storeV Try.prog 46 t30_15 t29_14 h11).bind fun h16 =>
k .ret ⟨#[x0, x1, x2, x3, t24_10, (Go.Value.bool Bool.true), t24_10, x1, t8_0, t8_0, (gdV (wt t8_0 false) x1), t11_1, t12_2, t12_2, (gdV (wt t12_2 false) x0), (gdV (wt t12_2 false) x1), t16_3, t17_5, t18_6, x19, x20, x0, x1, t23_9, t24_10, t24_10, x1, t27_12, t28_13, t29_14, t30_15, t24_10], h16⟩) := by kernel_rfl
theorem call83 (x0 x1 : Value) (h : Heap) : evC Try.prog 83 #[x0, x1] h = codeK Try.prog (evC Try.prog) loopL c83_0 ⟨#[x0, x1, undef, undef, undef, undef, undef, undef, undef, undef, undef, undef, undef, undef, undef, undef, undef, undef, undef, undef, undef, undef, undef, undef, undef, undef, undef, undef, undef, undef, undef, undef], nm h⟩ (retK Try.f83 Try.prog h) :=
  (evC_call 83 Try.f83 c83_0 Try.func83 (by kernel_rfl) #[x0, x1] h).trans (by kernel_rfl)
theorem ret83 (x0 x1 x2 x3 x4 x5 x6 x7 x8 x9 x10 x11 x12 x13 x14 x15 x16 x17 x18 x19 x20 x21 x22 x23 x24 x25 x26 x27 x28 x29 x30 x31 : Value) (h0 h : Heap) : retK Try.f83 Try.prog h0 .ret ⟨#[x0, x1, x2, x3, x4, x5, x6, x7, x8, x9, x10, x11, x12, x13, x14, x15, x16, x17, x18, x19, x20, x21, x22, x23, x24, x25, x26, x27, x28, x29, x30, x31], h⟩ = fin h0 (some (.tuple #[x4, x5])) h := by kernel_rfl
theorem retn83 (x0 x1 x2 x3 x4 x5 x6 x7 x8 x9 x10 x11 x12 x13 x14 x15 x16 x17 x18 x19 x20 x21 x22 x23 x24 x25 x26 x27 x28 x29 x30 x31 : Value) (h0 h : Heap) : retK Try.f83 Try.prog h0 .normal ⟨#[x0, x1, x2, x3, x4, x5, x6, x7, x8, x9, x10, x11, x12, x13, x14, x15, x16, x17, x18, x19, x20, x21, x22, x23, x24, x25, x26, x27, x28, x29, x30, x31], h⟩ = fin h0 (some (.tuple #[x4, x5])) h := by kernel_rfl
end Go.Am
namespace Go.Am
open Go.Proofs
set_option maxRecDepth 100000
noncomputable def c120_0 : Code := bodyC Try.f120 []
noncomputable def c120_1 : Code := bodyC Try.f120 [true, true, false, true, false, false]
noncomputable def c120_2 : Code := bodyC Try.f120 [true, true, true]
theorem c120_0_eq {β : Type} (x0 x1 x2 x3 x4 x5 x6 x7 x8 x9 x10 x11 x12 x13 x14 x15 x16 x17 x18 x19 x20 x21 x22 x23 x24 x25 x26 x27 x28 x29 : Value) (h : Heap) (k : Ex → St → Option β) : codeK Try.prog (evC Try.prog) loopL c120_0 ⟨#[x0, x1, x2, x3, x4, x5, x6, x7, x8, x9, x10, x11, x12, x13, x14, x15, x16, x17, x18, x19, x20, x21, x22, x23, x24, x25, x26, x27, x28, x29], h⟩ k =
(lenV Try.prog 53 x1 h).bind fun t10_0 =>
obH (evC Try.prog 119 #[x0, t10_0] h) fun t11_1 h2 =>
(lenV Try.prog 53 x1 h2).bind fun t13_3 =>
loopK Try.prog (evC Try.prog) c120_1 ⟨#[x0, x1, x2, x3, (Go.Value.slice Option.none 0 0), t11_1, x6, x7, x0, x1, t10_0, t11_1, x1, t13_3, (Go.Value.int Go.IntKind.i64 0), x15, x16, x17, x18, x19, x20, x21, x22, x23, x24, x25, x26, x27, x28, x29], h2⟩ (blockK 0 (seqK Try.prog (evC Try.prog) c120_2 k)) := by kernel_rfl
theorem c120_1_eq {β : Type} (x0 x1 x2 x3 x4 x5 x6 x7 x8 x9 x10 x11 x12 x13 x14 x15 x16 x17 x18 x19 x20 x21 x22 x23 x24 x25 x26 x27 x28 x29 : Value) (h : Heap) (k : Ex → St → Option β) : codeK Try.prog (evC Try.prog) loopL c120_1 ⟨#[x0, x1, x2, x3, x4, x5, x6, x7, x8, x9, x10, x11, x12, x13, x14, x15, x16, x17, x18, x19, x20, x21, x22, x23, x24, x25, x26, x27, x28, x29], h⟩ k =
(binV Try.prog .lss 3 (.tmp 14) (.tmp 13) x14 x13).bind fun t15_4 =>
cnd t15_4 (
(indexAddrV Try.prog 53 x12 x14).bind fun t17_5 =>
(loadV Try.prog 46 t17_5 h).bind fun t18_6 =>
(indexAddrV Try.prog 53 x5 x14).bind fun t23_7 =>
(loadV Try.prog 46 t23_7 h).bind fun t24_8 =>
obH (builtinV Try.prog .max #[46, 46] #[t24_8, t18_6] h) fun t26_9 h10 =>
(indexAddrV Try.prog 53 x5 x14).bind fun t27_11 =>
(storeV Try.prog 46 t27_11 t26_9 h10).bind fun h12 =>
(binV Try.prog .add 3 (.tmp 14) (.const (Go.Value.int Go.IntKind.i64 1)) x14 (Go.Value.int Go.IntKind.i64 1)).bind fun t28_13 =>
k .normal ⟨#[x0, x1, x2, x3, x4, x5, x14, t18_6, x8, x9, x10, x11, x12, x13, t28_13, t15_4, x14, t17_5, t18_6, x5, x14, x5, x14, t23_7, t24_8, t18_6, t26_9, t27_11, t28_13, x29], h12⟩) (
k (.exit 0) ⟨#[x0, x1, x2, x3, x4, x5, x6, x7, x8, x9, x10, x11, x12, x13, x14, t15_4, x16, x17, x18, x19, x20, x21, x22, x23, x24, x25, x26, x27, x28, x29], h⟩) := by kernel_rfl
theorem c120_2_eq {β : Type} (x0 x1 x2 x3 x4 x5 x6 x7 x8 x9 x10 x11 x12 x13 x14 x15 x16 x17 x18 x19 x20 x21 x22 x23 x24 x25 x26 x27 x28 x29 : Value) (h : Heap) (k : Ex → St → Option β) : codeK Try.prog (evC Try.prog) loopL c120_2 ⟨#[x0, x1, x2, x3, x4, x5, x6, x7, x8, x9, x10, x11, x12, x13, x14, x15, x16, x17, x18, x19, x20, x21, x22, x23, x24, x25, x26, x27, x28, x29], h⟩ k =
k .ret ⟨#[x0, x1, x2, x3, x5, x5, x6, x7, x8, x9, x10, x11, x12, x13, x14, x15, x16, x17, x18, x19, x20, x21, x22, x23, x24, x25, x26, x27, x28, x5], h⟩ := by kernel_rfl
theorem call120 (x0 x1 : Value) (h : Heap) : evC Try.prog 120 #[x0, x1] h = codeK Try.prog (evC Try.prog) loopL c120_0 ⟨#[x0, x1, undef, undef, undef, undef, undef, undef, undef, undef, undef, undef, undef, undef, undef, undef, undef, undef, undef, undef, undef, undef, undef, undef, undef, undef, undef, undef, undef, undef], nm h⟩ (retK Try.f120 Try.prog h) :=
  (evC_call 120 Try.f120 c120_0 Try.func120 (by kernel_rfl) #[x0, x1] h).trans (by kernel_rfl)
theorem ret120 (x0 x1 x2 x3 x4 x5 x6 x7 x8 x9 x10 x11 x12 x13 x14 x15 x16 x17 x18 x19 x20 x21 x22 x23 x24 x25 x26 x27 x28 x29 : Value) (h0 h : Heap) : retK Try.f120 Try.prog h0 .ret ⟨#[x0, x1, x2, x3, x4, x5, x6, x7, x8, x9, x10, x11, x12, x13, x14, x15, x16, x17, x18, x19, x20, x21, x22, x23, x24, x25, x26, x27, x28, x29], h⟩ = fin h0 (some x4) h := by kernel_rfl
theorem retn120 (x0 x1 x2 x3 x4 x5 x6 x7 x8 x9 x10 x11 x12 x13 x14 x15 x16 x17 x18 x19 x20 x21 x22 x23 x24 x25 x26 x27 x28 x29 : Value) (h0 h : Heap) : retK Try.f120 Try.prog h0 .normal ⟨#[x0, x1, x2, x3, x4, x5, x6, x7, x8, x9, x10, x11, x12, x13, x14, x15, x16, x17, x18, x19, x20, x21, x22, x23, x24, x25, x26, x27, x28, x29], h⟩ = fin h0 (some x4) h := by kernel_rfl
end Go.Am
namespace Go.Am
open Go.Proofs
set_option maxRecDepth 100000
noncomputable def c86_0 : Code := bodyC Try.f86 []
theorem c86_0_eq {β : Type} (x0 x1 x2 x3 x4 x5 x6 x7 : Value) (h : Heap) (k : Ex → St → Option β) : codeK Try.prog (evC Try.prog) loopL c86_0 ⟨#[x0, x1, x2, x3, x4, x5, x6, x7], h⟩ k =
(binV Try.prog .eql 53 (.tmp 3) (.const (Go.Value.slice Option.none 0 0)) x0 (Go.Value.slice Option.none 0 0)).bind fun t4_0 =>
cnd t4_0 (
k .ret ⟨#[x0, x1, (Go.Value.slice Option.none 0 0), x0, t4_0, x5, x6, x7], h⟩) (
obH (buildSliceV Try.prog 53 0 #[] h) fun t5_1 h2 =>
obH (appendV Try.prog 53 (some 53) t5_1 x0 h2) fun t7_3 h4 =>
k .ret ⟨#[x0, x1, t7_3, x0, t4_0, t5_1, x0, t7_3], h4⟩) := by kernel_rfl
theorem call86 (x0 : Value) (h : Heap) : evC Try.prog 86 #[x0] h = codeK Try.prog (evC Try.prog) loopL c86_0 ⟨#[x0, undef, undef, undef, undef, undef, undef, undef], nm h⟩ (retK Try.f86 Try.prog h) :=
  (evC_call 86 Try.f86 c86_0 Try.func86 (by kernel_rfl) #[x0] h).trans (by kernel_rfl)
theorem ret86 (x0 x1 x2 x3 x4 x5 x6 x7 : Value) (h0 h : Heap) : retK Try.f86 Try.prog h0 .ret ⟨#[x0, x1, x2, x3, x4, x5, x6, x7], h⟩ = fin h0 (some x2) h := by kernel_rfl
theorem retn86 (x0 x1 x2 x3 x4 x5 x6 x7 : Value) (h0 h : Heap) : retK Try.f86 Try.prog h0 .normal ⟨#[x0, x1, x2, x3, x4, x5, x6, x7], h⟩ = fin h0 (some x2) h := by kernel_rfl
end Go.Am
namespace Go.Am
open Go.Proofs
set_option maxRecDepth 100000
noncomputable def c122_0 : Code := bodyC Try.f122 []
theorem c122_0_eq {β : Type} (x0 x1 x2 x3 x4 x5 x6 x7 x8 x9 x10 x11 x12 x13 x14 x15 x16 : Value) (h : Heap) (k : Ex → St → Option β) : codeK Try.prog (evC Try.prog) loopL c122_0 ⟨#[x0, x1, x2, x3, x4, x5, x6, x7, x8, x9, x10, x11, x12, x13, x14, x15, x16], h⟩ k =
(binV Try.prog .lss 3 (.tmp 5) (.const (Go.Value.int Go.IntKind.i64 0)) x1 (Go.Value.int Go.IntKind.i64 0)).bind fun t6_0 =>
(gd (wt t6_0 false) (lenV Try.prog 52 (gdV (wt t6_0 false) x0) h)).bind fun t10_1 =>
(gd (wt t6_0 false) (binV Try.prog .geq 3 (.tmp 8) (.tmp 10) (gdV (wt t6_0 false) x1) t10_1)).bind fun t11_2 =>
(pickV t6_0 (Go.Value.bool Bool.true) t11_2).bind fun t12_3 =>
cnd t12_3 (
k .ret ⟨#[x0, x1, x2, x3, (Go.Value.int Go.IntKind.u64 0), x1, t6_0, t6_0, (gdV (wt t6_0 false) x1), (gdV (wt t6_0 false) x0), t10_1, t11_2, t12_3, x13, x14, x15, x16], h⟩) (
(indexAddrV Try.prog 52 x0 x1).bind fun t15_4 =>
(loadV Try.prog 46 t15_4 h).bind fun t16_5 =>
k .ret ⟨#[x0, x1, x2, x3, t16_5, x1, t6_0, t6_0, (gdV (wt t6_0 false) x1), (gdV (wt t6_0 false) x0), t10_1, t11_2, t12_3, x0, x1, t15_4, t16_5], h⟩) := by kernel_rfl
theorem call122 (x0 x1 : Value) (h : Heap) : evC Try.prog 122 #[x0, x1] h = codeK Try.prog (evC Try.prog) loopL c122_0 ⟨#[x0, x1, undef, undef, undef, undef, undef, undef, undef, undef, undef, undef, undef, undef, undef, undef, undef], nm h⟩ (retK Try.f122 Try.prog h) :=
  (evC_call 122 Try.f122 c122_0 Try.func122 (by kernel_rfl) #[x0, x1] h).trans (by kernel_rfl)
theorem ret122 (x0 x1 x2 x3 x4 x5 x6 x7 x8 x9 x10 x11 x12 x13 x14 x15 x16 : Value) (h0 h : Heap) : retK Try.f122 Try.prog h0 .ret ⟨#[x0, x1, x2, x3, x4, x5, x6, x7, x8, x9, x10, x11, x12, x13, x14, x15, x16], h⟩ = fin h0 (some x4) h := by kernel_rfl
theorem retn122 (x0 x1 x2 x3 x4 x5 x6 x7 x8 x9 x10 x11 x12 x13 x14 x15 x16 : Value) (h0 h : Heap) : retK Try.f122 Try.prog h0 .normal ⟨#[x0, x1, x2, x3, x4, x5, x6, x7, x8, x9, x10, x11, x12, x13, x14, x15, x16], h⟩ = fin h0 (some x4) h := by kernel_rfl
end Go.Am
namespace Go.Am
open Go.Proofs
set_option maxRecDepth 100000
noncomputable def c91_0 : Code := bodyC Try.f91 []
noncomputable def c91_1 : Code := bodyC Try.f91 [true, true, true, false, false, false]
noncomputable def c91_2 : Code := bodyC Try.f91 [true, true, true, true]
theorem c91_0_eq {β : Type} (x0 x1 x2 x3 x4 x5 x6 x7 x8 x9 x10 x11 x12 x13 x14 x15 x16 x17 x18 x19 x20 x21 x22 x23 x24 x25 x26 x27 x28 x29 x30 x31 x32 x33 x34 x35 x36 : Value) (h : Heap) (k : Ex → St → Option β) : codeK Try.prog (evC Try.prog) loopL c91_0 ⟨#[x0, x1, x2, x3, x4, x5, x6, x7, x8, x9, x10, x11, x12, x13, x14, x15, x16, x17, x18, x19, x20, x21, x22, x23, x24, x25, x26, x27, x28, x29, x30, x31, x32, x33, x34, x35, x36], h⟩ k =
obH (buildSliceV Try.prog 52 0 #[] h) fun t7_0 h1 =>
obH (appendV Try.prog 52 (some 52) t7_0 x0 h1) fun t9_2 h3 =>
(binV Try.prog .lss 3 (.tmp 10) (.const (Go.Value.int Go.IntKind.i64 0)) x1 (Go.Value.int Go.IntKind.i64 0)).bind fun t11_4 =>
(gd (wt t11_4 false) (binV Try.prog .gtr 3 (.tmp 13) (.const (Go.Value.int Go.IntKind.i64 63)) (gdV (wt t11_4 false) x1) (Go.Value.int Go.IntKind.i64 63))).bind fun t14_5 =>
(pickV t11_4 (Go.Value.bool Bool.true) t14_5).bind fun t15_6 =>
obH (gdH (wt t15_6 false) h3 (evC Try.prog 122 #[(gdV (wt t15_6 false) x0), (gdV (wt t15_6 false) x1)] h3)) fun t19_7 h8 =>
(gd (wt t15_6 false) (binV Try.prog .eql 46 (.tmp 19) (.const (Go.Value.int Go.IntKind.u64 18446744073709551615)) t19_7 (Go.Value.int Go.IntKind.u64 18446744073709551615))).bind fun t20_9 =>
(pickV t15_6 (Go.Value.bool Bool.true) t20_9).bind fun t21_10 =>
cnd t21_10 (
k .ret ⟨#[x0, x1, x2, x3, t9_2, (Go.Value.bool Bool.false), t9_2, t7_0, x0, t9_2, x1, t11_4, t11_4, (gdV (wt t11_4 false) x1), t14_5, t15_6, t15_6, (gdV (wt t15_6 false) x0), (gdV (wt t15_6 false) x1), t19_7, t20_9, t21_10, t9_2, x23, x24, x25, x26, x27, x28, x29, x30, x31, x32, x33, x34, x35, x36], h8⟩) (
loopK Try.prog (evC Try.prog) c91_1 ⟨#[x0, x1, x2, x3, (Go.Value.slice Option.none 0 0), (Go.Value.bool Bool.false), t9_2, t7_0, x0, t9_2, x1, t11_4, t11_4, (gdV (wt t11_4 false) x1), t14_5, t15_6, t15_6, (gdV (wt t15_6 false) x0), (gdV (wt t15_6 false) x1), t19_7, t20_9, t21_10, x22, x23, x24, x25, x26, x27, x28, x29, x30, x31, x32, x33, x34, x35, x36], h8⟩ (blockK 0 (seqK Try.prog (evC Try.prog) c91_2 k))) := by kernel_rfl
theorem c91_1_eq {β : Type} (x0 x1 x2 x3 x4 x5 x6 x7 x8 x9 x10 x11 x12 x13 x14 x15 x16 x17 x18 x19 x20 x21 x22 x23 x24 x25 x26 x27 x28 x29 x30 x31 x32 x33 x34 x35 x36 : Value) (h : Heap) (k : Ex → St → Option β) : codeK Try.prog (evC Try.prog) loopL c91_1 ⟨#[x0, x1, x2, x3, x4, x5, x6, x7, x8, x9, x10, x11, x12, x13, x14, x15, x16, x17, x18, x19, x20, x21, x22, x23, x24, x25, x26, x27, x28, x29, x30, x31, x32, x33, x34, x35, x36], h⟩ k =
(lenV Try.prog 52 x6 h).bind fun t24_11 =>
(binV Try.prog .leq 3 (.tmp 24) (.tmp 25) t24_11 x1).bind fun t26_12 =>
cnd t26_12 (
obH (buildSliceV Try.prog 52 1 #[(0, (Go.Value.int Go.IntKind.u64 0))] h) fun t28_13 h14 =>
obH (appendV Try.prog 52 (some 52) x6 t28_13 h14) fun t29_15 h16 =>
k .normal ⟨#[x0, x1, x2, x3, x4, x5, t29_15, x7, x8, x9, x10, x11, x12, x13, x14, x15, x16, x17, x18, x19, x20, x21, x22, x6, t24_11, x1, t26_12, x6, t28_13, t29_15, x30, x31, x32, x33, x34, x35, x36], h16⟩) (
k (.exit 0) ⟨#[x0, x1, x2, x3, x4, x5, x6, x7, x8, x9, x10, x11, x12, x13, x14, x15, x16, x17, x18, x19, x20, x21, x22, x6, t24_11, x1, t26_12, x27, x28, x29, x30, x31, x32, x33, x34, x35, x36], h⟩) := by kernel_rfl
theorem c91_2_eq {β : Type} (x0 x1 x2 x3 x4 x5 x6 x7 x8 x9 x10 x11 x12 x13 x14 x15 x16 x17 x18 x19 x20 x21 x22 x23 x24 x25 x26 x27 x28 x29 x30 x31 x32 x33 x34 x35 x36 : Value) (h : Heap) (k : Ex → St → Option β) : codeK Try.prog (evC Try.prog) loopL c91_2 ⟨#[x0, x1, x2, x3, x4, x5, x6, x7, x8, x9, x10, x11, x12, x13, x14, x15, x16, x17, x18, x19, x20, x21, x22, x23, x24, x25, x26, x27, x28, x29, x30, x31, x32, x33, x34, x35, x36], h⟩ k =
(indexAddrV Try.prog 52 x6 x1).bind fun t32_17 =>
(loadV Try.prog 46 t32_17 h).bind fun t33_18 =>
(binV Try.prog .add 46 (.tmp 33) (.const (Go.Value.int Go.IntKind.u64 1)) t33_18 (Go.Value.int Go.IntKind.u64 1)).bind fun t34_19 =>
(indexAddrV Try.prog 52 x6 x1).bind fun t35_20 =>
(storeV Try.prog 46 t35_20 t34_19 h).bind fun h21 =>
k .ret ⟨#[x0, x1, x2, x3, x6, (Go.Value.bool Bool.true), x6, x7, x8, x9, x10, x11, x12, x13, x14, x15, x16, x17, x18, x19, x20, x21, x22, x23, x24, x25, x26, x27, x28, x29, x6, x1, t32_17, t33_18, t34_19, t35_20, x6], h21⟩ := by kernel_rfl
theorem call91 (x0 x1 : Value) (h : Heap) : evC Try.prog 91 #[x0, x1] h = codeK Try.prog (evC Try.prog) loopL c91_0 ⟨#[x0, x1, undef, undef, undef, undef, undef, undef, undef, undef, undef, undef, undef, undef, undef, undef, undef, undef, undef, undef, undef, undef, undef, undef, undef, undef, undef, undef, undef, undef, undef, undef, undef, undef, undef, undef, undef], nm h⟩ (retK Try.f91 Try.prog h) :=
  (evC_call 91 Try.f91 c91_0 Try.func91 (by kernel_rfl) #[x0, x1] h).trans (by kernel_rfl)
theorem ret91 (x0 x1 x2 x3 x4 x5 x6 x7 x8 x9 x10 x11 x12 x13 x14 x15 x16 x17 x18 x19 x20 x21 x22 x23 x24 x25 x26 x27 x28 x29 x30 x31 x32 x33 x34 x35 x36 : Value) (h0 h : Heap) : retK Try.f91 Try.prog h0 .ret ⟨#[x0, x1, x2, x3, x4, x5, x6, x7, x8, x9, x10, x11, x12, x13, x14, x15, x16, x17, x18, x19, x20, x21, x22, x23, x24, x25, x26, x27, x28, x29, x30, x31, x32, x33, x34, x35, x36], h⟩ = fin h0 (some (.tuple #[x4, x5])) h := by kernel_rfl
theorem retn91 (x0 x1 x2 x3 x4 x5 x6 x7 x8 x9 x10 x11 x12 x13 x14 x15 x16 x17 x18 x19 x20 x21 x22 x23 x24 x25 x26 x27 x28 x29 x30 x31 x32 x33 x34 x35 x36 : Value) (h0 h : Heap) : retK Try.f91 Try.prog h0 .normal ⟨#[x0, x1, x2, x3, x4, x5, x6, x7, x8, x9, x10, x11, x12, x13, x14, x15, x16, x17, x18, x19, x20, x21, x22, x23, x24, x25, x26, x27, x28, x29, x30, x31, x32, x33, x34, x35, x36], h⟩ = fin h0 (some (.tuple #[x4, x5])) h := by kernel_rfl
end Go.Am
namespace Go.Am
open Go.Proofs
set_option maxRecDepth 100000
noncomputable def c123_0 : Code := bodyC Try.f123 []
noncomputable def c123_1 : Code := bodyC Try.f123 [true, true, false, true, false, false]
noncomputable def c123_2 : Code := bodyC Try.f123 [true, true, true]
theorem c123_0_eq {β : Type} (x0 x1 x2 x3 x4 x5 x6 x7 x8 x9 x10 x11 x12 x13 x14 x15 x16 x17 x18 x19 x20 x21 x22 x23 x24 x25 x26 x27 x28 x29 x30 x31 x32 x33 x34 x35 : Value) (h : Heap) (k : Ex → St → Option β) : codeK Try.prog (evC Try.prog) loopL c123_0 ⟨#[x0, x1, x2, x3, x4, x5, x6, x7, x8, x9, x10, x11, x12, x13, x14, x15, x16, x17, x18, x19, x20, x21, x22, x23, x24, x25, x26, x27, x28, x29, x30, x31, x32, x33, x34, x35], h⟩ k =
loopK Try.prog (evC Try.prog) c123_1 ⟨#[x0, x1, x2, x3, (Go.Value.slice Option.none 0 0), (Go.Value.slice Option.none 0 0), (Go.Value.int Go.IntKind.i64 0), x7, x8, x9, x10, x11, x12, x13, x14, x15, x16, x17, x18, x19, x20, x21, x22, x23, x24, x25, x26, x27, x28, x29, x30, x31, x32, x33, x34, x35], h⟩ (blockK 0 (seqK Try.prog (evC Try.prog) c123_2 k)) := by kernel_rfl
theorem c123_1_eq {β : Type} (x0 x1 x2 x3 x4 x5 x6 x7 x8 x9 x10 x11 x12 x13 x14 x15 x16 x17 x18 x19 x20 x21 x22 x23 x24 x25 x26 x27 x28 x29 x30 x31 x32 x33 x34 x35 : Value) (h : Heap) (k : Ex → St → Option β) : codeK Try.prog (evC Try.prog) loopL c123_1 ⟨#[x0, x1, x2, x3, x4, x5, x6, x7, x8, x9, x10, x11, x12, x13, x14, x15, x16, x17, x18, x19, x20, x21, x22, x23, x24, x25, x26, x27, x28, x29, x30, x31, x32, x33, x34, x35], h⟩ k =
(lenV Try.prog 52 x0 h).bind fun t10_0 =>
(binV Try.prog .lss 3 (.tmp 8) (.tmp 10) x6 t10_0).bind fun t11_1 =>
(gd (wt t11_1 false) (lenV Try.prog 52 (gdV (wt t11_1 false) x1) h)).bind fun t15_2 =>
(gd (wt t11_1 false) (binV Try.prog .lss 3 (.tmp 13) (.tmp 15) (gdV (wt t11_1 false) x6) t15_2)).bind fun t16_3 =>
(pickV t11_1 (Go.Value.bool Bool.true) t16_3).bind fun t17_4 =>
cnd t17_4 (
obH (evC Try.prog 122 #[x0, x6] h) fun t22_5 h6 =>
obH (evC Try.prog 122 #[x1, x6] h6) fun t25_7 h8 =>
(binV Try.prog .gtr 46 (.tmp 25) (.tmp 26) t25_7 t22_5).bind fun t27_9 =>
cnd t27_9 (
obH (evC Try.prog 122 #[x1, x6] h8) fun t30_10 h11 =>
obH (buildSliceV Try.prog 52 1 #[(0, t30_10)] h11) fun t33_12 h13 =>
obH (appendV Try.prog 52 (some 52) x5 t33_12 h13) fun t34_14 h15 =>
(binV Try.prog .add 3 (.tmp 18) (.const (Go.Value.int Go.IntKind.i64 1)) x6 (Go.Value.int Go.IntKind.i64 1)).bind fun t19_16 =>
k .normal ⟨#[x0, x1, x2, x3, x4, t34_14, t19_16, t30_10, x6, x0, t10_0, t11_1, t11_1, (gdV (wt t11_1 false) x6), (gdV (wt t11_1 false) x1), t15_2, t16_3, t17_4, x6, t19_16, x0, x6, t22_5, x1, x6, t25_7, t22_5, t27_9, x1, x6, t30_10, x5, t30_10, t33_12, t34_14, x35], h15⟩) (
obH (buildSliceV Try.prog 52 1 #[(0, t22_5)] h8) fun t33_17 h18 =>
obH (appendV Try.prog 52 (some 52) x5 t33_17 h18) fun t34_19 h20 =>
(binV Try.prog .add 3 (.tmp 18) (.const (Go.Value.int Go.IntKind.i64 1)) x6 (Go.Value.int Go.IntKind.i64 1)).bind fun t19_21 =>
k .normal ⟨#[x0, x1, x2, x3, x4, t34_19, t19_21, t22_5, x6, x0, t10_0, t11_1, t11_1, (gdV (wt t11_1 false) x6), (gdV (wt t11_1 false) x1), t15_2, t16_3, t17_4, x6, t19_21, x0, x6, t22_5, x1, x6, t25_7, t22_5, t27_9, x28, x29, x30, x5, t22_5, t33_17, t34_19, x35], h20⟩)) (
k (.exit 0) ⟨#[x0, x1, x2, x3, x4, x5, x6, x7, x6, x0, t10_0, t11_1, t11_1, (gdV (wt t11_1 false) x6), (gdV (wt t11_1 false) x1), t15_2, t16_3, t17_4, x18, x19, x20, x21, x22, x23, x24, x25, x26, x27, x28, x29, x30, x31, x32, x33, x34, x35], h⟩) := by kernel_rfl
theorem c123_2_eq {β : Type} (x0 x1 x2 x3 x4 x5 x6 x7 x8 x9 x10 x11 x12 x13 x14 x15 x16 x17 x18 x19 x20 x21 x22 x23 x24 x25 x26 x27 x28 x29 x30 x31 x32 x33 x34 x35 : Value) (h : Heap) (k : Ex → St → Option β) : codeK Try.prog (evC Try.prog) loopL c123_2 ⟨#[x0, x1, x2, x3, x4, x5, x6, x7, x8, x9, x10, x11, x12, x13, x14, x15, x16, x17, x18, x19, x20, x21, x22, x23, x24, x25, x26, x27, x28, x29, x30, x31, x32, x33, x34, x35], h⟩ k =
k .ret ⟨#[x0, x1, x2, x3, x5, x5, x6, x7, x8, x9, x10, x11, x12, x13, x14, x15, x16, x17, x18, x19, x20, x21, x22, x23, x24, x25, x26, x27, x28, x29, x30, x31, x32, x33, x34, x5], h⟩ := by kernel_rfl
theorem call123 (x0 x1 : Value) (h : Heap) : evC Try.prog 123 #[x0, x1] h = codeK Try.prog (evC Try.prog) loopL c123_0 ⟨#[x0, x1, undef, undef, undef, undef, undef, undef, undef, undef, undef, undef, undef, undef, undef, undef, undef, undef, undef, undef, undef, undef, undef, undef, undef, undef, undef, undef, undef, undef, undef, undef, undef, undef, undef, undef], nm h⟩ (retK Try.f123 Try.prog h) :=
  (evC_call 123 Try.f123 c123_0 Try.func123 (by kernel_rfl) #[x0, x1] h).trans (by kernel_rfl)
theorem ret123 (x0 x1 x2 x3 x4 x5 x6 x7 x8 x9 x10 x11 x12 x13 x14 x15 x16 x17 x18 x19 x20 x21 x22 x23 x24 x25 x26 x27 x28 x29 x30 x31 x32 x33 x34 x35 : Value) (h0 h : Heap) : retK Try.f123 Try.prog h0 .ret ⟨#[x0, x1, x2, x3, x4, x5, x6, x7, x8, x9, x10, x11, x12, x13, x14, x15, x16, x17, x18, x19, x20, x21, x22, x23, x24, x25, x26, x27, x28, x29, x30, x31, x32, x33, x34, x35], h⟩ = fin h0 (some x4) h := by kernel_rfl
theorem retn123 (x0 x1 x2 x3 x4 x5 x6 x7 x8 x9 x10 x11 x12 x13 x14 x15 x16 x17 x18 x19 x20 x21 x22 x23 x24 x25 x26 x27 x28 x29 x30 x31 x32 x33 x34 x35 : Value) (h0 h : Heap) : retK Try.f123 Try.prog h0 .normal ⟨#[x0, x1, x2, x3, x4, x5, x6, x7, x8, x9, x10, x11, x12, x13, x14, x15, x16, x17, x18, x19, x20, x21, x22, x23, x24, x25, x26, x27, x28, x29, x30, x31, x32, x33, x34, x35], h⟩ = fin h0 (some x4) h := by kernel_rfl
end Go.Am
namespace Go.Am
open Go.Proofs
set_option maxRecDepth 100000
noncomputable def c78_0 : Code := bodyC Try.f78 []
noncomputable def c78_1 : Code := bodyC Try.f78 [true, true, true, false, true, false, false]
noncomputable def c78_2 : Code := bodyC Try.f78 [true, true, true, true]
theorem c78_0_eq {β : Type} (x0 x1 x2 x3 x4 x5 x6 x7 x8 x9 x10 x11 x12 x13 x14 x15 x16 x17 x18 x19 x20 x21 x22 x23 x24 x25 : Value) (h : Heap) (k : Ex → St → Option β) : codeK Try.prog (evC Try.prog) loopL c78_0 ⟨#[x0, x1, x2, x3, x4, x5, x6, x7, x8, x9, x10, x11, x12, x13, x14, x15, x16, x17, x18, x19, x20, x21, x22, x23, x24, x25], h⟩ k =
obH (allocV Try.prog 29 h) fun t2_0 h1 =>
(binV Try.prog .lss 3 (.tmp 5) (.const (Go.Value.int Go.IntKind.i64 1)) x0 (Go.Value.int Go.IntKind.i64 1)).bind fun t6_2 =>
(gd (wt t6_2 false) (binV Try.prog .gtr 3 (.tmp 8) (.const (Go.Value.int Go.IntKind.i64 16)) (gdV (wt t6_2 false) x0) (Go.Value.int Go.IntKind.i64 16))).bind fun t9_3 =>
(pickV t6_2 (Go.Value.bool Bool.true) t9_3).bind fun t10_4 =>
cnd t10_4 (
(buildV Try.prog 29 #[]).bind fun t11_5 =>
(storeV Try.prog 29 t2_0 t11_5 h1).bind fun h6 =>
k .ret ⟨#[x0, x1, t2_0, (Go.Value.int Go.IntKind.i64 1), x4, x0, t6_2, t6_2, (gdV (wt t6_2 false) x0), t9_3, t10_4, t11_5, x12, x13, x14, x15, x16, x17, x18, x19, x20, x21, x22, x23, x24, x25], h6⟩) (
(buildV Try.prog 29 #[(0, x0)]).bind fun t13_7 =>
obH (allocV Try.prog 29 h1) fun t4_8 h9 =>
(storeV Try.prog 29 t4_8 t13_7 h9).bind fun h10 =>
loopK Try.prog (evC Try.prog) c78_1 ⟨#[x0, x1, t2_0, (Go.Value.int Go.IntKind.i64 0), t4_8, x0, t6_2, t6_2, (gdV (wt t6_2 false) x0), t9_3, t10_4, x11, x0, t13_7, x0, (Go.Value.int Go.IntKind.i64 0), x16, x17, x18, x19, x20, x21, x22, x23, x24, x25], h10⟩ (blockK 0 (seqK Try.prog (evC Try.prog) c78_2 k))) := by kernel_rfl
theorem c78_1_eq {β : Type} (x0 x1 x2 x3 x4 x5 x6 x7 x8 x9 x10 x11 x12 x13 x14 x15 x16 x17 x18 x19 x20 x21 x22 x23 x24 x25 : Value) (h : Heap) (k : Ex → St → Option β) : codeK Try.prog (evC Try.prog) loopL c78_1 ⟨#[x0, x1, x2, x3, x4, x5, x6, x7, x8, x9, x10, x11, x12, x13, x14, x15, x16, x17, x18, x19, x20, x21, x22, x23, x24, x25], h⟩ k =
(binV Try.prog .lss 3 (.tmp 15) (.tmp 14) x15 x14).bind fun t16_11 =>
cnd t16_11 (
(fieldAddrV Try.prog 29 x4 1).bind fun t17_12 =>
(loadV Try.prog 27 t17_12 h).bind fun t18_13 =>
obH (evC Try.prog 79 #[x0] (nm h)) fun t20_14 h15 =>
obH (buildSliceV Try.prog 27 1 #[(0, t20_14)] (am h15 h)) fun t21_16 h17 =>
obH (appendV Try.prog 27 (some 27) t18_13 t21_16 h17) fun t22_18 h19 =>
(fieldAddrV Try.prog 29 x4 1).bind fun t23_20 =>
(storeV Try.prog 27 t23_20 t22_18 h19).bind fun h21 =>
chk ((rb t17_12) ++ []) (h15.mods ++ []) (
(binV Try.prog .add 3 (.tmp 15) (.const (Go.Value.int Go.IntKind.i64 1)) x15 (Go.Value.int Go.IntKind.i64 1)).bind fun t24_22 =>
k .normal ⟨#[x0, x1, x2, x3, x4, x5, x6, x7, x8, x9, x10, x11, x12, x13, x14, t24_22, t16_11, t17_12, t18_13, x0, t20_14, t21_16, t22_18, t23_20, t24_22, x25], h21⟩)) (
k (.exit 0) ⟨#[x0, x1, x2, x3, x4, x5, x6, x7, x8, x9, x10, x11, x12, x13, x14, x15, t16_11, x17, x18, x19, x20, x21, x22, x23, x24, x25], h⟩) := by kernel_rfl
theorem c78_2_eq {β : Type} (x0 x1 x2 x3 x4 x5 x6 x7 x8 x9 x10 x11 x12 x13 x14 x15 x16 x17 x18 x19 x20 x21 x22 x23 x24 x25 : Value) (h : Heap) (k : Ex → St → Option β) : codeK Try.prog (evC Try.prog) loopL c78_2 ⟨#[x0, x1, x2, x3, x4, x5, x6, x7, x8, x9, x10, x11, x12, x13, x14, x15, x16, x17, x18, x19, x20, x21, x22, x23, x24, x25], h⟩ k =
(loadV Try.prog 29 x4 h).bind fun t25_23 =>
(storeV Try.prog 29 x2 t25_23 h).bind fun h24 =>
k .ret ⟨#[x0, x1, x2, (Go.Value.int Go.IntKind.i64 0), x4, x5, x6, x7, x8, x9, x10, x11, x12, x13, x14, x15, x16, x17, x18, x19, x20, x21, x22, x23, x24, t25_23], h24⟩ := by kernel_rfl
theorem call78 (x0 : Value) (h : Heap) : evC Try.prog 78 #[x0] h = codeK Try.prog (evC Try.prog) loopL c78_0 ⟨#[x0, undef, undef, undef, undef, undef, undef, undef, undef, undef, undef, undef, undef, undef, undef, undef, undef, undef, undef, undef, undef, undef, undef, undef, undef, undef], nm h⟩ (retK Try.f78 Try.prog h) :=
  (evC_call 78 Try.f78 c78_0 Try.func78 (by kernel_rfl) #[x0] h).trans (by kernel_rfl)
theorem ret78 (x0 x1 x2 x3 x4 x5 x6 x7 x8 x9 x10 x11 x12 x13 x14 x15 x16 x17 x18 x19 x20 x21 x22 x23 x24 x25 : Value) (h0 h : Heap) : retK Try.f78 Try.prog h0 .ret ⟨#[x0, x1, x2, x3, x4, x5, x6, x7, x8, x9, x10, x11, x12, x13, x14, x15, x16, x17, x18, x19, x20, x21, x22, x23, x24, x25], h⟩ = fin h0 (rvals ((loadV Try.prog 29 x2 h).bind fun r0 => some [r0, x3])) h := by kernel_rfl
theorem retn78 (x0 x1 x2 x3 x4 x5 x6 x7 x8 x9 x10 x11 x12 x13 x14 x15 x16 x17 x18 x19 x20 x21 x22 x23 x24 x25 : Value) (h0 h : Heap) : retK Try.f78 Try.prog h0 .normal ⟨#[x0, x1, x2, x3, x4, x5, x6, x7, x8, x9, x10, x11, x12, x13, x14, x15, x16, x17, x18, x19, x20, x21, x22, x23, x24, x25], h⟩ = fin h0 (rvals ((loadV Try.prog 29 x2 h).bind fun r0 => some [r0, x3])) h := by kernel_rfl
end Go.Am
namespace Go.Am
open Go.Proofs
set_option maxRecDepth 100000
noncomputable def c77_0 : Code := bodyC Try.f77 []
theorem c77_0_eq {β : Type} (x0 x1 x2 x3 x4 x5 x6 x7 x8 x9 x10 x11 x12 x13 x14 x15 x16 x17 x18 x19 x20 x21 x22 x23 : Value) (h : Heap) (k : Ex → St → Option β) : codeK Try.prog (evC Try.prog) loopL c77_0 ⟨#[x0, x1, x2, x3, x4, x5, x6, x7, x8, x9, x10, x11, x12, x13, x14, x15, x16, x17, x18, x19, x20, x21, x22, x23], h⟩ k =
obH (boxV Try.prog 29 x0 h) fun t1_0 h1 =>
(fieldAddrV Try.prog 29 t1_0 0).bind fun t3_2 =>
(loadV Try.prog 3 t3_2 h1).bind fun t4_3 =>
(binV Try.prog .lss 3 (.tmp 4) (.const (Go.Value.int Go.IntKind.i64 1)) t4_3 (Go.Value.int Go.IntKind.i64 1)).bind fun t5_4 =>
(gd (wt t5_4 false) (fieldAddrV Try.prog 29 t1_0 0)).bind fun t7_5 =>
(gd (wt t5_4 false) (loadV Try.prog 3 t7_5 h1)).bind fun t8_6 =>
(gd (wt t5_4 false) (binV Try.prog .gtr 3 (.tmp 8) (.const (Go.Value.int Go.IntKind.i64 16)) t8_6 (Go.Value.int Go.IntKind.i64 16))).bind fun t9_7 =>
(pickV t5_4 (Go.Value.bool Bool.true) t9_7).bind fun t10_8 =>
(gd (wt t10_8 false) (fieldAddrV Try.prog 29 t1_0 1)).bind fun t12_9 =>
(gd (wt t10_8 false) (loadV Try.prog 27 t12_9 h1)).bind fun t13_10 =>
(gd (wt t10_8 false) (lenV Try.prog 27 t13_10 h1)).bind fun t14_11 =>
(gd (wt t10_8 false) (fieldAddrV Try.prog 29 t1_0 0)).bind fun t15_12 =>
(gd (wt t10_8 false) (loadV Try.prog 3 t15_12 h1)).bind fun t16_13 =>
(gd (wt t10_8 false) (binV Try.prog .neq 3 (.tmp 14) (.tmp 16) t14_11 t16_13)).bind fun t17_14 =>
(pickV t10_8 (Go.Value.bool Bool.true) t17_14).bind fun t18_15 =>
cnd t18_15 (
k .ret ⟨#[x0, t1_0, (Go.Value.bool Bool.false), t3_2, t4_3, t5_4, t5_4, t7_5, t8_6, t9_7, t10_8, t10_8, t12_9, t13_10, t14_11, t15_12, t16_13, t17_14, t18_15, x19, x20, x21, x22, x23], h1⟩) (
(fieldAddrV Try.prog 29 t1_0 1).bind fun t19_16 =>
(loadV Try.prog 27 t19_16 h1).bind fun t20_17 =>
obH (evC Try.prog 115 #[t20_17, (.func (Go.Fn.func 116) #[] #[t1_0])] h1) fun t22_18 h19 =>
(unV Try.prog .not t22_18).bind fun t23_20 =>
k .ret ⟨#[x0, t1_0, t23_20, t3_2, t4_3, t5_4, t5_4, t7_5, t8_6, t9_7, t10_8, t10_8, t12_9, t13_10, t14_11, t15_12, t16_13, t17_14, t18_15, t19_16, t20_17, (.func (Go.Fn.func 116) #[] #[t1_0]), t22_18, t23_20], h19⟩) := by kernel_rfl
theorem call77 (x0 : Value) (h : Heap) : evC Try.prog 77 #[x0] h = codeK Try.prog (evC Try.prog) loopL c77_0 ⟨#[x0, undef, undef, undef, undef, undef, undef, undef, undef, undef, undef, undef, undef, undef, undef, undef, undef, undef, undef, undef, undef, undef, undef, undef], nm h⟩ (retK Try.f77 Try.prog h) :=
  (evC_call 77 Try.f77 c77_0 Try.func77 (by kernel_rfl) #[x0] h).trans (by kernel_rfl)
theorem ret77 (x0 x1 x2 x3 x4 x5 x6 x7 x8 x9 x10 x11 x12 x13 x14 x15 x16 x17 x18 x19 x20 x21 x22 x23 : Value) (h0 h : Heap) : retK Try.f77 Try.prog h0 .ret ⟨#[x0, x1, x2, x3, x4, x5, x6, x7, x8, x9, x10, x11, x12, x13, x14, x15, x16, x17, x18, x19, x20, x21, x22, x23], h⟩ = fin h0 (some x2) h := by kernel_rfl
theorem retn77 (x0 x1 x2 x3 x4 x5 x6 x7 x8 x9 x10 x11 x12 x13 x14 x15 x16 x17 x18 x19 x20 x21 x22 x23 : Value) (h0 h : Heap) : retK Try.f77 Try.prog h0 .normal ⟨#[x0, x1, x2, x3, x4, x5, x6, x7, x8, x9, x10, x11, x12, x13, x14, x15, x16, x17, x18, x19, x20, x21, x22, x23], h⟩ = fin h0 (some x2) h := by kernel_rfl
end Go.Am
namespace Go.Am
open Go.Proofs
set_option maxRecDepth 100000
noncomputable def c116_0 : Code := bodyC Try.f116 []
theorem c116_0_eq {β : Type} (x0 x1 x2 x3 x4 x5 x6 x7 x8 : Value) (h : Heap) (k : Ex → St → Option β) : codeK Try.prog (evC Try.prog) loopL c116_0 ⟨#[x0, x1, x2, x3, x4, x5, x6, x7, x8], h⟩ k =
(lenV Try.prog 53 x0 h).bind fun t5_0 =>
(fieldAddrV Try.prog 29 x1 0).bind fun t6_1 =>
(loadV Try.prog 3 t6_1 h).bind fun t7_2 =>
(binV Try.prog .neq 3 (.tmp 5) (.tmp 7) t5_0 t7_2).bind fun t8_3 =>
k .ret ⟨#[x0, x1, x2, t8_3, x0, t5_0, t6_1, t7_2, t8_3], h⟩ := by kernel_rfl
theorem call116 (x0 : Value) (h : Heap) : evC Try.prog 116 #[x0] h = codeK Try.prog (evC Try.prog) loopL c116_0 ⟨#[x0, undef, undef, undef, undef, undef, undef, undef, undef], nm h⟩ (retK Try.f116 Try.prog h) :=
  (evC_call 116 Try.f116 c116_0 Try.func116 (by kernel_rfl) #[x0] h).trans (by kernel_rfl)
theorem ret116 (x0 x1 x2 x3 x4 x5 x6 x7 x8 : Value) (h0 h : Heap) : retK Try.f116 Try.prog h0 .ret ⟨#[x0, x1, x2, x3, x4, x5, x6, x7, x8], h⟩ = fin h0 (some x3) h := by kernel_rfl
theorem retn116 (x0 x1 x2 x3 x4 x5 x6 x7 x8 : Value) (h0 h : Heap) : retK Try.f116 Try.prog h0 .normal ⟨#[x0, x1, x2, x3, x4, x5, x6, x7, x8], h⟩ = fin h0 (some x3) h := by kernel_rfl
end Go.Am
namespace Go.Am
open Go.Proofs
set_option maxRecDepth 100000
noncomputable def c34_0 : Code := bodyC Try.f34 []
theorem c34_0_eq {β : Type} (x0 x1 x2 x3 x4 x5 x6 x7 x8 x9 x10 x11 x12 x13 x14 x15 x16 x17 x18 x19 x20 x21 x22 : Value) (h : Heap) (k : Ex → St → Option β) : codeK Try.prog (evC Try.prog) loopL c34_0 ⟨#[x0, x1, x2, x3, x4, x5, x6, x7, x8, x9, x10, x11, x12, x13, x14, x15, x16, x17, x18, x19, x20, x21, x22], h⟩ k =
obH (boxV Try.prog 29 x0 h) fun t3_0 h1 =>
(binV Try.prog .lss 3 (.tmp 7) (.const (Go.Value.int Go.IntKind.i64 0)) x1 (Go.Value.int Go.IntKind.i64 0)).bind fun t8_2 =>
(gd (wt t8_2 false) (fieldAddrV Try.prog 29 t3_0 1)).bind fun t11_3 =>
(gd (wt t8_2 false) (loadV Try.prog 27 t11_3 h1)).bind fun t12_4 =>
(gd (wt t8_2 false) (lenV Try.prog 27 t12_4 h1)).bind fun t13_5 =>
(gd (wt t8_2 false) (binV Try.prog .geq 3 (.tmp 10) (.tmp 13) (gdV (wt t8_2 false) x1) t13_5)).bind fun t14_6 =>
(pickV t8_2 (Go.Value.bool Bool.true) t14_6).bind fun t15_7 =>
cnd t15_7 (
k .ret ⟨#[x0, x1, x2, t3_0, x4, x5, (Go.Value.int Go.IntKind.u64 0), x1, t8_2, t8_2, (gdV (wt t8_2 false) x1), t11_3, t12_4, t13_5, t14_6, t15_7, x16, x17, x18, x19, x20, x21, x22], h1⟩) (
(fieldAddrV Try.prog 29 t3_0 1).bind fun t16_8 =>
(loadV Try.prog 27 t16_8 h1).bind fun t17_9 =>
(indexAddrV Try.prog 27 t17_9 x1).bind fun t19_10 =>
(loadV Try.prog 53 t19_10 h1).bind fun t20_11 =>
obH (evC Try.prog 87 #[t20_11, x2] h1) fun t22_12 h13 =>
k .ret ⟨#[x0, x1, x2, t3_0, x4, x5, t22_12, x1, t8_2, t8_2, (gdV (wt t8_2 false) x1), t11_3, t12_4, t13_5, t14_6, t15_7, t16_8, t17_9, x1, t19_10, t20_11, x2, t22_12], h13⟩) := by kernel_rfl
theorem call34 (x0 x1 x2 : Value) (h : Heap) : evC Try.prog 34 #[x0, x1, x2] h = codeK Try.prog (evC Try.prog) loopL c34_0 ⟨#[x0, x1, x2, undef, undef, undef, undef, undef, undef, undef, undef, undef, undef, undef, undef, undef, undef, undef, undef, undef, undef, undef, undef], nm h⟩ (retK Try.f34 Try.prog h) :=
  (evC_call 34 Try.f34 c34_0 Try.func34 (by kernel_rfl) #[x0, x1, x2] h).trans (by kernel_rfl)
theorem ret34 (x0 x1 x2 x3 x4 x5 x6 x7 x8 x9 x10 x11 x12 x13 x14 x15 x16 x17 x18 x19 x20 x21 x22 : Value) (h0 h : Heap) : retK Try.f34 Try.prog h0 .ret ⟨#[x0, x1, x2, x3, x4, x5, x6, x7, x8, x9, x10, x11, x12, x13, x14, x15, x16, x17, x18, x19, x20, x21, x22], h⟩ = fin h0 (some x6) h := by kernel_rfl
theorem retn34 (x0 x1 x2 x3 x4 x5 x6 x7 x8 x9 x10 x11 x12 x13 x14 x15 x16 x17 x18 x19 x20 x21 x22 : Value) (h0 h : Heap) : retK Try.f34 Try.prog h0 .normal ⟨#[x0, x1, x2, x3, x4, x5, x6, x7, x8, x9, x10, x11, x12, x13, x14, x15, x16, x17, x18, x19, x20, x21, x22], h⟩ = fin h0 (some x6) h := by kernel_rfl
end Go.Am
namespace Go.Am
open Go.Proofs
set_option maxRecDepth 100000
noncomputable def c115_0 : Code := bodyC Try.f115 []
theorem c115_0_eq {β : Type} (x0 x1 x2 x3 x4 x5 x6 x7 x8 : Value) (h : Heap) (k : Ex → St → Option β) : codeK Try.prog (evC Try.prog) loopL c115_0 ⟨#[x0, x1, x2, x3, x4, x5, x6, x7, x8], h⟩ k =
obH (evC Try.prog 127 #[x0, x1] h) fun t7_0 h1 =>
(binV Try.prog .geq 3 (.tmp 7) (.const (Go.Value.int Go.IntKind.i64 0)) t7_0 (Go.Value.int Go.IntKind.i64 0)).bind fun t8_2 =>
k .ret ⟨#[x0, x1, x2, x3, t8_2, x0, x1, t7_0, t8_2], h1⟩ := by kernel_rfl
theorem call115 (x0 x1 : Value) (h : Heap) : evC Try.prog 115 #[x0, x1] h = codeK Try.prog (evC Try.prog) loopL c115_0 ⟨#[x0, x1, undef, undef, undef, undef, undef, undef, undef], nm h⟩ (retK Try.f115 Try.prog h) :=
  (evC_call 115 Try.f115 c115_0 Try.func115 (by kernel_rfl) #[x0, x1] h).trans (by kernel_rfl)
theorem ret115 (x0 x1 x2 x3 x4 x5 x6 x7 x8 : Value) (h0 h : Heap) : retK Try.f115 Try.prog h0 .ret ⟨#[x0, x1, x2, x3, x4, x5, x6, x7, x8], h⟩ = fin h0 (some x4) h := by kernel_rfl
theorem retn115 (x0 x1 x2 x3 x4 x5 x6 x7 x8 : Value) (h0 h : Heap) : retK Try.f115 Try.prog h0 .normal ⟨#[x0, x1, x2, x3, x4, x5, x6, x7, x8], h⟩ = fin h0 (some x4) h := by kernel_rfl
end Go.Am
namespace Go.Am
open Go.Proofs
set_option maxRecDepth 100000
noncomputable def c127_0 : Code := bodyC Try.f127 []
noncomputable def c127_1 : Code := bodyC Try.f127 [true, false, true, false, false]
noncomputable def c127_2 : Code := bodyC Try.f127 [true, true]
theorem c127_0_eq {β : Type} (x0 x1 x2 x3 x4 x5 x6 x7 x8 x9 x10 x11 x12 x13 x14 x15 x16 x17 x18 : Value) (h : Heap) (k : Ex → St → Option β) : codeK Try.prog (evC Try.prog) loopL c127_0 ⟨#[x0, x1, x2, x3, x4, x5, x6, x7, x8, x9, x10, x11, x12, x13, x14, x15, x16, x17, x18], h⟩ k =
(lenV Try.prog 27 x0 h).bind fun t7_0 =>
loopK Try.prog (evC Try.prog) c127_1 ⟨#[x0, x1, x2, x3, (Go.Value.int Go.IntKind.i64 0), x5, x0, t7_0, (Go.Value.int Go.IntKind.i64 0), x9, x10, x11, x12, x13, x14, x15, x16, x17, x18], h⟩ (blockK 0 (seqK Try.prog (evC Try.prog) c127_2 k)) := by kernel_rfl
theorem c127_1_eq {β : Type} (x0 x1 x2 x3 x4 x5 x6 x7 x8 x9 x10 x11 x12 x13 x14 x15 x16 x17 x18 : Value) (h : Heap) (k : Ex → St → Option β) : codeK Try.prog (evC Try.prog) loopL c127_1 ⟨#[x0, x1, x2, x3, x4, x5, x6, x7, x8, x9, x10, x11, x12, x13, x14, x15, x16, x17, x18], h⟩ k =
(binV Try.prog .lss 3 (.tmp 8) (.tmp 7) x8 x7).bind fun t9_1 =>
cnd t9_1 (
(indexAddrV Try.prog 27 x0 x8).bind fun t14_2 =>
(loadV Try.prog 53 t14_2 h).bind fun t15_3 =>
obH (callV Try.prog (evC Try.prog) x1 #[t15_3] h) fun t16_4 h5 =>
cnd t16_4 (
k .ret ⟨#[x0, x1, x2, x3, x8, x8, x6, x7, x8, t9_1, x8, x1, x0, x8, t14_2, t15_3, t16_4, x8, x18], h5⟩) (
(binV Try.prog .add 3 (.tmp 8) (.const (Go.Value.int Go.IntKind.i64 1)) x8 (Go.Value.int Go.IntKind.i64 1)).bind fun t18_6 =>
k .normal ⟨#[x0, x1, x2, x3, x4, x8, x6, x7, t18_6, t9_1, x8, x1, x0, x8, t14_2, t15_3, t16_4, x17, t18_6], h5⟩)) (
k (.exit 0) ⟨#[x0, x1, x2, x3, x4, x5, x6, x7, x8, t9_1, x10, x11, x12, x13, x14, x15, x16, x17, x18], h⟩) := by kernel_rfl
theorem c127_2_eq {β : Type} (x0 x1 x2 x3 x4 x5 x6 x7 x8 x9 x10 x11 x12 x13 x14 x15 x16 x17 x18 : Value) (h : Heap) (k : Ex → St → Option β) : codeK Try.prog (evC Try.prog) loopL c127_2 ⟨#[x0, x1, x2, x3, x4, x5, x6, x7, x8, x9, x10, x11, x12, x13, x14, x15, x16, x17, x18], h⟩ k =
k .ret ⟨#[x0, x1, x2, x3, (Go.Value.int Go.IntKind.i64 (-1)), x5, x6, x7, x8, x9, x10, x11, x12, x13, x14, x15, x16, x17, x18], h⟩ := by kernel_rfl
theorem call127 (x0 x1 : Value) (h : Heap) : evC Try.prog 127 #[x0, x1] h = codeK Try.prog (evC Try.prog) loopL c127_0 ⟨#[x0, x1, undef, undef, undef, undef, undef, undef, undef, undef, undef, undef, undef, undef, undef, undef, undef, undef, undef], nm h⟩ (retK Try.f127 Try.prog h) :=
  (evC_call 127 Try.f127 c127_0 Try.func127 (by kernel_rfl) #[x0, x1] h).trans (by kernel_rfl)
theorem ret127 (x0 x1 x2 x3 x4 x5 x6 x7 x8 x9 x10 x11 x12 x13 x14 x15 x16 x17 x18 : Value) (h0 h : Heap) : retK Try.f127 Try.prog h0 .ret ⟨#[x0, x1, x2, x3, x4, x5, x6, x7, x8, x9, x10, x11, x12, x13, x14, x15, x16, x17, x18], h⟩ = fin h0 (some x4) h := by kernel_rfl
theorem retn127 (x0 x1 x2 x3 x4 x5 x6 x7 x8 x9 x10 x11 x12 x13 x14 x15 x16 x17 x18 : Value) (h0 h : Heap) : retK Try.f127 Try.prog h0 .normal ⟨#[x0, x1, x2, x3, x4, x5, x6, x7, x8, x9, x10, x11, x12, x13, x14, x15, x16, x17, x18], h⟩ = fin h0 (some x4) h := by kernel_rfl
end Go.Am
namespace Go.Am
open Go.Proofs
set_option maxRecDepth 100000
noncomputable def c118_0 : Code := bodyC Try.f118 []
noncomputable def c118_1 : Code := bodyC Try.f118 [true, true, false, true, false, false]
noncomputable def c118_2 : Code := bodyC Try.f118 [true, true, true]
theorem c118_0_eq {β : Type} (x0 x1 x2 x3 x4 x5 x6 x7 x8 x9 x10 x11 x12 x13 x14 x15 x16 x17 x18 x19 x20 x21 x22 x23 x24 : Value) (h : Heap) (k : Ex → St → Option β) : codeK Try.prog (evC Try.prog) loopL c118_0 ⟨#[x0, x1, x2, x3, x4, x5, x6, x7, x8, x9, x10, x11, x12, x13, x14, x15, x16, x17, x18, x19, x20, x21, x22, x23, x24], h⟩ k =
obH (boxV Try.prog 29 x0 h) fun t1_0 h1 =>
obH (allocV Try.prog 29 h1) fun t2_2 h3 =>
(fieldAddrV Try.prog 29 t1_0 0).bind fun t6_4 =>
(loadV Try.prog 3 t6_4 h3).bind fun t7_5 =>
(buildV Try.prog 29 #[(0, t7_5)]).bind fun t8_6 =>
obH (allocV Try.prog 29 h3) fun t3_7 h8 =>
(storeV Try.prog 29 t3_7 t8_6 h8).bind fun h9 =>
(fieldAddrV Try.prog 29 t1_0 1).bind fun t9_10 =>
(loadV Try.prog 27 t9_10 h9).bind fun t10_11 =>
(lenV Try.prog 27 t10_11 h9).bind fun t11_12 =>
loopK Try.prog (evC Try.prog) c118_1 ⟨#[x0, t1_0, t2_2, t3_7, x4, x5, t6_4, t7_5, t8_6, t9_10, t10_11, t11_12, (Go.Value.int Go.IntKind.i64 0), x13, x14, x15, x16, x17, x18, x19, x20, x21, x22, x23, x24], h9⟩ (blockK 0 (seqK Try.prog (evC Try.prog) c118_2 k)) := by kernel_rfl
theorem c118_1_eq {β : Type} (x0 x1 x2 x3 x4 x5 x6 x7 x8 x9 x10 x11 x12 x13 x14 x15 x16 x17 x18 x19 x20 x21 x22 x23 x24 : Value) (h : Heap) (k : Ex → St → Option β) : codeK Try.prog (evC Try.prog) loopL c118_1 ⟨#[x0, x1, x2, x3, x4, x5, x6, x7, x8, x9, x10, x11, x12, x13, x14, x15, x16, x17, x18, x19, x20, x21, x22, x23, x24], h⟩ k =
(binV Try.prog .lss 3 (.tmp 12) (.tmp 11) x12 x11).bind fun t13_13 =>
cnd t13_13 (
(indexAddrV Try.prog 27 x10 x12).bind fun t14_14 =>
(loadV Try.prog 53 t14_14 h).bind fun t15_15 =>
(fieldAddrV Try.prog 29 x3 1).bind fun t16_16 =>
(loadV Try.prog 27 t16_16 h).bind fun t17_17 =>
obH (evC Try.prog 86 #[t15_15] (nm h)) fun t19_18 h19 =>
obH (buildSliceV Try.prog 27 1 #[(0, t19_18)] (am h19 h)) fun t20_20 h21 =>
obH (appendV Try.prog 27 (some 27) t17_17 t20_20 h21) fun t21_22 h23 =>
(fieldAddrV Try.prog 29 x3 1).bind fun t22_24 =>
(storeV Try.prog 27 t22_24 t21_22 h23).bind fun h25 =>
chk ((rb t16_16) ++ []) (h19.mods ++ []) (
(binV Try.prog .add 3 (.tmp 12) (.const (Go.Value.int Go.IntKind.i64 1)) x12 (Go.Value.int Go.IntKind.i64 1)).bind fun t23_26 =>
k .normal ⟨#[x0, x1, x2, x3, x4, t15_15, x6, x7, x8, x9, x10, x11, t23_26, t13_13, t14_14, t15_15, t16_16, t17_17, t15_15, t19_18, t20_20, t21_22, t22_24, t23_26, x24], h25⟩)) (
k (.exit 0) ⟨#[x0, x1, x2, x3, x4, x5, x6, x7, x8, x9, x10, x11, x12, t13_13, x14, x15, x16, x17, x18, x19, x20, x21, x22, x23, x24], h⟩) := by kernel_rfl
theorem c118_2_eq {β : Type} (x0 x1 x2 x3 x4 x5 x6 x7 x8 x9 x10 x11 x12 x13 x14 x15 x16 x17 x18 x19 x20 x21 x22 x23 x24 : Value) (h : Heap) (k : Ex → St → Option β) : codeK Try.prog (evC Try.prog) loopL c118_2 ⟨#[x0, x1, x2, x3, x4, x5, x6, x7, x8, x9, x10, x11, x12, x13, x14, x15, x16, x17, x18, x19, x20, x21, x22, x23, x24], h⟩ k =
(loadV Try.prog 29 x3 h).bind fun t24_27 =>
(storeV Try.prog 29 x2 t24_27 h).bind fun h28 =>
k .ret ⟨#[x0, x1, x2, x3, x4, x5, x6, x7, x8, x9, x10, x11, x12, x13, x14, x15, x16, x17, x18, x19, x20, x21, x22, x23, t24_27], h28⟩ := by kernel_rfl
theorem call118 (x0 : Value) (h : Heap) : evC Try.prog 118 #[x0] h = codeK Try.prog (evC Try.prog) loopL c118_0 ⟨#[x0, undef, undef, undef, undef, undef, undef, undef, undef, undef, undef, undef, undef, undef, undef, undef, undef, undef, undef, undef, undef, undef, undef, undef, undef], nm h⟩ (retK Try.f118 Try.prog h) :=
  (evC_call 118 Try.f118 c118_0 Try.func118 (by kernel_rfl) #[x0] h).trans (by kernel_rfl)
theorem ret118 (x0 x1 x2 x3 x4 x5 x6 x7 x8 x9 x10 x11 x12 x13 x14 x15 x16 x17 x18 x19 x20 x21 x22 x23 x24 : Value) (h0 h : Heap) : retK Try.f118 Try.prog h0 .ret ⟨#[x0, x1, x2, x3, x4, x5, x6, x7, x8, x9, x10, x11, x12, x13, x14, x15, x16, x17, x18, x19, x20, x21, x22, x23, x24], h⟩ = fin h0 (rvals ((loadV Try.prog 29 x2 h).bind fun r0 => some [r0])) h := by kernel_rfl
theorem retn118 (x0 x1 x2 x3 x4 x5 x6 x7 x8 x9 x10 x11 x12 x13 x14 x15 x16 x17 x18 x19 x20 x21 x22 x23 x24 : Value) (h0 h : Heap) : retK Try.f118 Try.prog h0 .normal ⟨#[x0, x1, x2, x3, x4, x5, x6, x7, x8, x9, x10, x11, x12, x13, x14, x15, x16, x17, x18, x19, x20, x21, x22, x23, x24], h⟩ = fin h0 (rvals ((loadV Try.prog 29 x2 h).bind fun r0 => some [r0])) h := by kernel_rfl
end Go.Am
namespace Go.Am
open Go.Proofs
set_option maxRecDepth 100000
noncomputable def c82_0 : Code := bodyC Try.f82 []
noncomputable def c82_1 : Code := bodyC Try.f82 [true, true, true, false, true, false, false]
noncomputable def c82_2 : Code := bodyC Try.f82 [true, true, true, true]
theorem c82_0_eq {β : Type} (x0 x1 x2 x3 x4 x5 x6 x7 x8 x9 x10 x11 x12 x13 x14 x15 x16 x17 x18 x19 x20 x21 x22 x23 x24 x25 x26 x27 x28 x29 x30 x31 x32 x33 x34 x35 x36 x37 x38 x39 x40 x41 x42 x43 x44 x45 x46 x47 x48 x49 x50 x51 x52 x53 x54 x55 : Value) (h : Heap) (k : Ex → St → Option β) : codeK Try.prog (evC Try.prog) loopL c82_0 ⟨#[x0, x1, x2, x3, x4, x5, x6, x7, x8, x9, x10, x11, x12, x13, x14, x15, x16, x17, x18, x19, x20, x21, x22, x23, x24, x25, x26, x27, x28, x29, x30, x31, x32, x33, x34, x35, x36, x37, x38, x39, x40, x41, x42, x43, x44, x45, x46, x47, x48, x49, x50, x51, x52, x53, x54, x55], h⟩ k =
obH (boxV Try.prog 29 x0 h) fun t3_0 h1 =>
obH (allocV Try.prog 29 h1) fun t6_2 h3 =>
(loadV Try.prog 29 t3_0 h3).bind fun t10_4 =>
obH (evC Try.prog 118 #[t10_4] h3) fun t11_5 h6 =>
obH (allocV Try.prog 29 h6) fun t7_7 h8 =>
(storeV Try.prog 29 t7_7 t11_5 h8).bind fun h9 =>
(loadV Try.prog 29 t3_0 h9).bind fun t12_10 =>
obH (evC Try.prog 77 #[t12_10] h9) fun t13_11 h12 =>
(unV Try.prog .not t13_11).bind fun t14_13 =>
(gd (wt t14_13 false) (binV Try.prog .lss 3 (.tmp 16) (.const (Go.Value.int Go.IntKind.i64 0)) (gdV (wt t14_13 false) x1) (Go.Value.int Go.IntKind.i64 0))).bind fun t17_14 =>
(pickV t14_13 (Go.Value.bool Bool.true) t17_14).bind fun t18_15 =>
(gd (wt t18_15 false) (fieldAddrV Try.prog 29 t3_0 0)).bind fun t21_16 =>
(gd (wt t18_15 false) (loadV Try.prog 3 t21_16 h12)).bind fun t22_17 =>
(gd (wt t18_15 false) (binV Try.prog .geq 3 (.tmp 20) (.tmp 22) (gdV (wt t18_15 false) x1) t22_17)).bind fun t23_18 =>
(pickV t18_15 (Go.Value.bool Bool.true) t23_18).bind fun t24_19 =>
cnd t24_19 (
(loadV Try.prog 29 t7_7 h12).bind fun t25_20 =>
(storeV Try.prog 29 t6_2 t25_20 h12).bind fun h21 =>
k .ret ⟨#[x0, x1, x2, t3_0, x4, x5, t6_2, t7_7, x8, x9, t10_4, t11_5, t12_10, t13_11, t14_13, t14_13, (gdV (wt t14_13 false) x1), t17_14, t18_15, t18_15, (gdV (wt t18_15 false) x1), t21_16, t22_17, t23_18, t24_19, t25_20, x26, x27, x28, x29, x30, x31, x32, x33, x34, x35, x36, x37, x38, x39, x40, x41, x42, x43, x44, x45, x46, x47, x48, x49, x50, x51, x52, x53, x54, x55], h21⟩) (
(fieldAddrV Try.prog 29 t7_7 1).bind fun t26_22 =>
(loadV Try.prog 27 t26_22 h12).bind fun t27_23 =>
(indexAddrV Try.prog 27 t27_23 x1).bind fun t29_24 =>
(loadV Try.prog 53 t29_24 h12).bind fun t30_25 =>
(lenV Try.prog 53 t30_25 h12).bind fun t31_26 =>
loopK Try.prog (evC Try.prog) c82_1 ⟨#[x0, x1, x2, t3_0, x4, x5, t6_2, t7_7, x8, x9, t10_4, t11_5, t12_10, t13_11, t14_13, t14_13, (gdV (wt t14_13 false) x1), t17_14, t18_15, t18_15, (gdV (wt t18_15 false) x1), t21_16, t22_17, t23_18, t24_19, x25, t26_22, t27_23, x1, t29_24, t30_25, t31_26, (Go.Value.int Go.IntKind.i64 0), x33, x34, x35, x36, x37, x38, x39, x40, x41, x42, x43, x44, x45, x46, x47, x48, x49, x50, x51, x52, x53, x54, x55], h12⟩ (blockK 0 (seqK Try.prog (evC Try.prog) c82_2 k))) := by kernel_rfl
theorem c82_1_eq {β : Type} (x0 x1 x2 x3 x4 x5 x6 x7 x8 x9 x10 x11 x12 x13 x14 x15 x16 x17 x18 x19 x20 x21 x22 x23 x24 x25 x26 x27 x28 x29 x30 x31 x32 x33 x34 x35 x36 x37 x38 x39 x40 x41 x42 x43 x44 x45 x46 x47 x48 x49 x50 x51 x52 x53 x54 x55 : Value) (h : Heap) (k : Ex → St → Option β) : codeK Try.prog (evC Try.prog) loopL c82_1 ⟨#[x0, x1, x2, x3, x4, x5, x6, x7, x8, x9, x10, x11, x12, x13, x14, x15, x16, x17, x18, x19, x20, x21, x22, x23, x24, x25, x26, x27, x28, x29, x30, x31, x32, x33, x34, x35, x36, x37, x38, x39, x40, x41, x42, x43, x44, x45, x46, x47, x48, x49, x50, x51, x52, x53, x54, x55], h⟩ k =
(binV Try.prog .lss 3 (.tmp 32) (.tmp 31) x32 x31).bind fun t33_27 =>
cnd t33_27 (
(indexAddrV Try.prog 53 x30 x32).bind fun t35_28 =>
(loadV Try.prog 46 t35_28 h).bind fun t36_29 =>
obH (evC Try.prog 112 #[x2, x32] h) fun t39_30 h31 =>
(gd (wt t39_30 true) (binV Try.prog .lss 46 (.tmp 41) (.const (Go.Value.int Go.IntKind.u64 18446744073709551615)) (gdV (wt t39_30 true) t36_29) (Go.Value.int Go.IntKind.u64 18446744073709551615))).bind fun t42_32 =>
(pickV t39_30 t42_32 (Go.Value.bool Bool.false)).bind fun t43_33 =>
cnd t43_33 (
(fieldAddrV Try.prog 29 x7 1).bind fun t44_34 =>
(loadV Try.prog 27 t44_34 h31).bind fun t45_35 =>
(indexAddrV Try.prog 27 t45_35 x1).bind fun t47_36 =>
(loadV Try.prog 53 t47_36 h31).bind fun t48_37 =>
(indexAddrV Try.prog 53 t48_37 x32).bind fun t50_38 =>
(loadV Try.prog 46 t50_38 h31).bind fun t51_39 =>
(binV Try.prog .add 46 (.tmp 51) (.const (Go.Value.int Go.IntKind.u64 1)) t51_39 (Go.Value.int Go.IntKind.u64 1)).bind fun t52_40 =>
(indexAddrV Try.prog 53 t48_37 x32).bind fun t53_41 =>
(storeV Try.prog 46 t53_41 t52_40 h31).bind fun h42 =>
(binV Try.prog .add 3 (.tmp 32) (.const (Go.Value.int Go.IntKind.i64 1)) x32 (Go.Value.int Go.IntKind.i64 1)).bind fun t54_43 =>
k .normal ⟨#[x0, x1, x2, x3, x4, x5, x6, x7, x32, t36_29, x10, x11, x12, x13, x14, x15, x16, x17, x18, x19, x20, x21, x22, x23, x24, x25, x26, x27, x28, x29, x30, x31, t54_43, t33_27, x32, t35_28, t36_29, x2, x32, t39_30, t39_30, (gdV (wt t39_30 true) t36_29), t42_32, t43_33, t44_34, t45_35, x1, t47_36, t48_37, x32, t50_38, t51_39, t52_40, t53_41, t54_43, x55], h42⟩) (
(binV Try.prog .add 3 (.tmp 32) (.const (Go.Value.int Go.IntKind.i64 1)) x32 (Go.Value.int Go.IntKind.i64 1)).bind fun t54_44 =>
k .normal ⟨#[x0, x1, x2, x3, x4, x5, x6, x7, x32, t36_29, x10, x11, x12, x13, x14, x15, x16, x17, x18, x19, x20, x21, x22, x23, x24, x25, x26, x27, x28, x29, x30, x31, t54_44, t33_27, x32, t35_28, t36_29, x2, x32, t39_30, t39_30, (gdV (wt t39_30 true) t36_29), t42_32, t43_33, x44, x45, x46, x47, x48, x49, x50, x51, x52, x53, t54_44, x55], h31⟩)) (
k (.exit 0) ⟨#[x0, x1, x2, x3, x4, x5, x6, x7, x8, x9, x10, x11, x12, x13, x14, x15, x16, x17, x18, x19, x20, x21, x22, x23, x24, x25, x26, x27, x28, x29, x30, x31, x32, t33_27, x34, x35, x36, x37, x38, x39, x40, x41, x42, x43, x44, x45, x46, x47, x48, x49, x50, x51, x52, x53, x54, x55], h⟩) := by kernel_rfl
theorem c82_2_eq {β : Type} (x0 x1 x2 x3 x4 x5 x6 x7 x8 x9 x10 x11 x12 x13 x14 x15 x16 x17 x18 x19 x20 x21 x22 x23 x24 x25 x26 x27 x28 x29 x30 x31 x32 x33 x34 x35 x36 x37 x38 x39 x40 x41 x42 x43 x44 x45 x46 x47 x48 x49 x50 x51 x52 x53 x54 x55 : Value) (h : Heap) (k : Ex → St → Option β) : codeK Try.prog (evC Try.prog) loopL c82_2 ⟨#[x0, x1, x2, x3, x4, x5, x6, x7, x8, x9, x10, x11, x12, x13, x14, x15, x16, x17, x18, x19, x20, x21, x22, x23, x24, x25, x26, x27, x28, x29, x30, x31, x32, x33, x34, x35, x36, x37, x38, x39, x40, x41, x42, x43, x44, x45, x46, x47, x48, x49, x50, x51, x52, x53, x54, x55], h⟩ k =
(loadV Try.prog 29 x7 h).bind fun t55_45 =>
(storeV Try.prog 29 x6 t55_45 h).bind fun h46 =>
k .ret ⟨#[x0, x1, x2, x3, x4, x5, x6, x7, x8, x9, x10, x11, x12, x13, x14, x15, x16, x17, x18, x19, x20, x21, x22, x23, x24, x25, x26, x27, x28, x29, x30, x31, x32, x33, x34, x35, x36, x37, x38, x39, x40, x41, x42, x43, x44, x45, x46, x47, x48, x49, x50, x51, x52, x53, x54, t55_45], h46⟩ := by kernel_rfl
theorem call82 (x0 x1 x2 : Value) (h : Heap) : evC Try.prog 82 #[x0, x1, x2] h = codeK Try.prog (evC Try.prog) loopL c82_0 ⟨#[x0, x1, x2, undef, undef, undef, undef, undef, undef, undef, undef, undef, undef, undef, undef, undef, undef, undef, undef, undef, undef, undef, undef, undef, undef, undef, undef, undef, undef, undef, undef, undef, undef, undef, undef, undef, undef, undef, undef, undef, undef, undef, undef, undef, undef, undef, undef, undef, undef, undef, undef, undef, undef, undef, undef, undef], nm h⟩ (retK Try.f82 Try.prog h) :=
  (evC_call 82 Try.f82 c82_0 Try.func82 (by kernel_rfl) #[x0, x1, x2] h).trans (by kernel_rfl)
theorem ret82 (x0 x1 x2 x3 x4 x5 x6 x7 x8 x9 x10 x11 x12 x13 x14 x15 x16 x17 x18 x19 x20 x21 x22 x23 x24 x25 x26 x27 x28 x29 x30 x31 x32 x33 x34 x35 x36 x37 x38 x39 x40 x41 x42 x43 x44 x45 x46 x47 x48 x49 x50 x51 x52 x53 x54 x55 : Value) (h0 h : Heap) : retK Try.f82 Try.prog h0 .ret ⟨#[x0, x1, x2, x3, x4, x5, x6, x7, x8, x9, x10, x11, x12, x13, x14, x15, x16, x17, x18, x19, x20, x21, x22, x23, x24, x25, x26, x27, x28, x29, x30, x31, x32, x33, x34, x35, x36, x37, x38, x39, x40, x41, x42, x43, x44, x45, x46, x47, x48, x49, x50, x51, x52, x53, x54, x55], h⟩ = fin h0 (rvals ((loadV Try.prog 29 x6 h).bind fun r0 => some [r0])) h := by kernel_rfl
theorem retn82 (x0 x1 x2 x3 x4 x5 x6 x7 x8 x9 x10 x11 x12 x13 x14 x15 x16 x17 x18 x19 x20 x21 x22 x23 x24 x25 x26 x27 x28 x29 x30 x31 x32 x33 x34 x35 x36 x37 x38 x39 x40 x41 x42 x43 x44 x45 x46 x47 x48 x49 x50 x51 x52 x53 x54 x55 : Value) (h0 h : Heap) : retK Try.f82 Try.prog h0 .normal ⟨#[x0, x1, x2, x3, x4, x5, x6, x7, x8, x9, x10, x11, x12, x13, x14, x15, x16, x17, x18, x19, x20, x21, x22, x23, x24, x25, x26, x27, x28, x29, x30, x31, x32, x33, x34, x35, x36, x37, x38, x39, x40, x41, x42, x43, x44, x45, x46, x47, x48, x49, x50, x51, x52, x53, x54, x55], h⟩ = fin h0 (rvals ((loadV Try.prog 29 x6 h).bind fun r0 => some [r0])) h := by kernel_rfl
end Go.Am
namespace Go.Am
open Go.Proofs
set_option maxRecDepth 100000
noncomputable def c84_0 : Code := bodyC Try.f84 []
noncomputable def c84_1 : Code := bodyC Try.f84 [true, true, true, false, true, false, false]
noncomputable def c84_2 : Code := bodyC Try.f84 [true, true, true, true]
theorem c84_0_eq {β : Type} (x0 x1 x2 x3 x4 x5 x6 x7 x8 x9 x10 x11 x12 x13 x14 x15 x16 x17 x18 x19 x20 x21 x22 x23 x24 x25 x26 x27 x28 x29 x30 x31 x32 x33 x34 x35 x36 x37 x38 x39 x40 x41 x42 x43 x44 x45 x46 x47 x48 x49 : Value) (h : Heap) (k : Ex → St → Option β) : codeK Try.prog (evC Try.prog) loopL c84_0 ⟨#[x0, x1, x2, x3, x4, x5, x6, x7, x8, x9, x10, x11, x12, x13, x14, x15, x16, x17, x18, x19, x20, x21, x22, x23, x24, x25, x26, x27, x28, x29, x30, x31, x32, x33, x34, x35, x36, x37, x38, x39, x40, x41, x42, x43, x44, x45, x46, x47, x48, x49], h⟩ k =
obH (boxV Try.prog 29 x0 h) fun t2_0 h1 =>
obH (boxV Try.prog 29 x1 h1) fun t3_2 h3 =>
obH (allocV Try.prog 29 h3) fun t4_4 h5 =>
(loadV Try.prog 29 t2_0 h5).bind fun t9_6 =>
obH (evC Try.prog 77 #[t9_6] h5) fun t10_7 h8 =>
(unV Try.prog .not t10_7).bind fun t11_9 =>
(gd (wt t11_9 false) (loadV Try.prog 29 t3_2 h8)).bind fun t13_10 =>
obH (gdH (wt t11_9 false) h8 (evC Try.prog 77 #[t13_10] h8)) fun t14_11 h12 =>
(gd (wt t11_9 false) (unV Try.prog .not t14_11)).bind fun t15_13 =>
(pickV t11_9 (Go.Value.bool Bool.true) t15_13).bind fun t16_14 =>
(gd (wt t16_14 false) (fieldAddrV Try.prog 29 t2_0 0)).bind fun t18_15 =>
(gd (wt t16_14 false) (loadV Try.prog 3 t18_15 h12)).bind fun t19_16 =>
(gd (wt t16_14 false) (fieldAddrV Try.prog 29 t3_2 0)).bind fun t20_17 =>
(gd (wt t16_14 false) (loadV Try.prog 3 t20_17 h12)).bind fun t21_18 =>
(gd (wt t16_14 false) (binV Try.prog .neq 3 (.tmp 19) (.tmp 21) t19_16 t21_18)).bind fun t22_19 =>
(pickV t16_14 (Go.Value.bool Bool.true) t22_19).bind fun t23_20 =>
cnd t23_20 (
(buildV Try.prog 29 #[]).bind fun t24_21 =>
(storeV Try.prog 29 t4_4 t24_21 h12).bind fun h22 =>
k .ret ⟨#[x0, x1, t2_0, t3_2, t4_4, (Go.Value.int Go.IntKind.i64 1), x6, x7, x8, t9_6, t10_7, t11_9, t11_9, t13_10, t14_11, t15_13, t16_14, t16_14, t18_15, t19_16, t20_17, t21_18, t22_19, t23_20, t24_21, x25, x26, x27, x28, x29, x30, x31, x32, x33, x34, x35, x36, x37, x38, x39, x40, x41, x42, x43, x44, x45, x46, x47, x48, x49], h22⟩) (
(fieldAddrV Try.prog 29 t2_0 0).bind fun t25_23 =>
(loadV Try.prog 3 t25_23 h12).bind fun t26_24 =>
(buildV Try.prog 29 #[(0, t26_24)]).bind fun t27_25 =>
obH (allocV Try.prog 29 h12) fun t6_26 h27 =>
(storeV Try.prog 29 t6_26 t27_25 h27).bind fun h28 =>
(fieldAddrV Try.prog 29 t2_0 1).bind fun t28_29 =>
(loadV Try.prog 27 t28_29 h28).bind fun t29_30 =>
(lenV Try.prog 27 t29_30 h28).bind fun t30_31 =>
loopK Try.prog (evC Try.prog) c84_1 ⟨#[x0, x1, t2_0, t3_2, t4_4, (Go.Value.int Go.IntKind.i64 0), t6_26, x7, x8, t9_6, t10_7, t11_9, t11_9, t13_10, t14_11, t15_13, t16_14, t16_14, t18_15, t19_16, t20_17, t21_18, t22_19, t23_20, x24, t25_23, t26_24, t27_25, t28_29, t29_30, t30_31, (Go.Value.int Go.IntKind.i64 0), x32, x33, x34, x35, x36, x37, x38, x39, x40, x41, x42, x43, x44, x45, x46, x47, x48, x49], h28⟩ (blockK 0 (seqK Try.prog (evC Try.prog) c84_2 k))) := by kernel_rfl
theorem c84_1_eq {β : Type} (x0 x1 x2 x3 x4 x5 x6 x7 x8 x9 x10 x11 x12 x13 x14 x15 x16 x17 x18 x19 x20 x21 x22 x23 x24 x25 x26 x27 x28 x29 x30 x31 x32 x33 x34 x35 x36 x37 x38 x39 x40 x41 x42 x43 x44 x45 x46 x47 x48 x49 : Value) (h : Heap) (k : Ex → St → Option β) : codeK Try.prog (evC Try.prog) loopL c84_1 ⟨#[x0, x1, x2, x3, x4, x5, x6, x7, x8, x9, x10, x11, x12, x13, x14, x15, x16, x17, x18, x19, x20, x21, x22, x23, x24, x25, x26, x27, x28, x29, x30, x31, x32, x33, x34, x35, x36, x37, x38, x39, x40, x41, x42, x43, x44, x45, x46, x47, x48, x49], h⟩ k =
(binV Try.prog .lss 3 (.tmp 31) (.tmp 30) x31 x30).bind fun t32_32 =>
cnd t32_32 (
(indexAddrV Try.prog 27 x29 x31).bind fun t34_33 =>
(loadV Try.prog 53 t34_33 h).bind fun t35_34 =>
(fieldAddrV Try.prog 29 x6 1).bind fun t36_35 =>
(loadV Try.prog 27 t36_35 h).bind fun t37_36 =>
(fieldAddrV Try.prog 29 x3 1).bind fun t39_37 =>
(loadV Try.prog 27 t39_37 h).bind fun t40_38 =>
(indexAddrV Try.prog 27 t40_38 x31).bind fun t42_39 =>
(loadV Try.prog 53 t42_39 h).bind fun t43_40 =>
obH (evC Try.prog 120 #[t35_34, t43_40] (nm h)) fun t44_41 h42 =>
obH (buildSliceV Try.prog 27 1 #[(0, t44_41)] (am h42 h)) fun t45_43 h44 =>
obH (appendV Try.prog 27 (some 27) t37_36 t45_43 h44) fun t46_45 h46 =>
(fieldAddrV Try.prog 29 x6 1).bind fun t47_47 =>
(storeV Try.prog 27 t47_47 t46_45 h46).bind fun h48 =>
chk ((rb t36_35) ++ []) (h42.mods ++ []) (
(binV Try.prog .add 3 (.tmp 31) (.const (Go.Value.int Go.IntKind.i64 1)) x31 (Go.Value.int Go.IntKind.i64 1)).bind fun t48_49 =>
k .normal ⟨#[x0, x1, x2, x3, x4, x5, x6, x31, t35_34, x9, x10, x11, x12, x13, x14, x15, x16, x17, x18, x19, x20, x21, x22, x23, x24, x25, x26, x27, x28, x29, x30, t48_49, t32_32, x31, t34_33, t35_34, t36_35, t37_36, t35_34, t39_37, t40_38, x31, t42_39, t43_40, t44_41, t45_43, t46_45, t47_47, t48_49, x49], h48⟩)) (
k (.exit 0) ⟨#[x0, x1, x2, x3, x4, x5, x6, x7, x8, x9, x10, x11, x12, x13, x14, x15, x16, x17, x18, x19, x20, x21, x22, x23, x24, x25, x26, x27, x28, x29, x30, x31, t32_32, x33, x34, x35, x36, x37, x38, x39, x40, x41, x42, x43, x44, x45, x46, x47, x48, x49], h⟩) := by kernel_rfl
theorem c84_2_eq {β : Type} (x0 x1 x2 x3 x4 x5 x6 x7 x8 x9 x10 x11 x12 x13 x14 x15 x16 x17 x18 x19 x20 x21 x22 x23 x24 x25 x26 x27 x28 x29 x30 x31 x32 x33 x34 x35 x36 x37 x38 x39 x40 x41 x42 x43 x44 x45 x46 x47 x48 x49 : Value) (h : Heap) (k : Ex → St → Option β) : codeK Try.prog (evC Try.prog) loopL c84_2 ⟨#[x0, x1, x2, x3, x4, x5, x6, x7, x8, x9, x10, x11, x12, x13, x14, x15, x16, x17, x18, x19, x20, x21, x22, x23, x24, x25, x26, x27, x28, x29, x30, x31, x32, x33, x34, x35, x36, x37, x38, x39, x40, x41, x42, x43, x44, x45, x46, x47, x48, x49], h⟩ k =
(loadV Try.prog 29 x6 h).bind fun t49_50 =>
(storeV Try.prog 29 x4 t49_50 h).bind fun h51 =>
k .ret ⟨#[x0, x1, x2, x3, x4, (Go.Value.int Go.IntKind.i64 0), x6, x7, x8, x9, x10, x11, x12, x13, x14, x15, x16, x17, x18, x19, x20, x21, x22, x23, x24, x25, x26, x27, x28, x29, x30, x31, x32, x33, x34, x35, x36, x37, x38, x39, x40, x41, x42, x43, x44, x45, x46, x47, x48, t49_50], h51⟩ := by kernel_rfl
theorem call84 (x0 x1 : Value) (h : Heap) : evC Try.prog 84 #[x0, x1] h = codeK Try.prog (evC Try.prog) loopL c84_0 ⟨#[x0, x1, undef, undef, undef, undef, undef, undef, undef, undef, undef, undef, undef, undef, undef, undef, undef, undef, undef, undef, undef, undef, undef, undef, undef, undef, undef, undef, undef, undef, undef, undef, undef, undef, undef, undef, undef, undef, undef, undef, undef, undef, undef, undef, undef, undef, undef, undef, undef, undef], nm h⟩ (retK Try.f84 Try.prog h) :=
  (evC_call 84 Try.f84 c84_0 Try.func84 (by kernel_rfl) #[x0, x1] h).trans (by kernel_rfl)
theorem ret84 (x0 x1 x2 x3 x4 x5 x6 x7 x8 x9 x10 x11 x12 x13 x14 x15 x16 x17 x18 x19 x20 x21 x22 x23 x24 x25 x26 x27 x28 x29 x30 x31 x32 x33 x34 x35 x36 x37 x38 x39 x40 x41 x42 x43 x44 x45 x46 x47 x48 x49 : Value) (h0 h : Heap) : retK Try.f84 Try.prog h0 .ret ⟨#[x0, x1, x2, x3, x4, x5, x6, x7, x8, x9, x10, x11, x12, x13, x14, x15, x16, x17, x18, x19, x20, x21, x22, x23, x24, x25, x26, x27, x28, x29, x30, x31, x32, x33, x34, x35, x36, x37, x38, x39, x40, x41, x42, x43, x44, x45, x46, x47, x48, x49], h⟩ = fin h0 (rvals ((loadV Try.prog 29 x4 h).bind fun r0 => some [r0, x5])) h := by kernel_rfl
theorem retn84 (x0 x1 x2 x3 x4 x5 x6 x7 x8 x9 x10 x11 x12 x13 x14 x15 x16 x17 x18 x19 x20 x21 x22 x23 x24 x25 x26 x27 x28 x29 x30 x31 x32 x33 x34 x35 x36 x37 x38 x39 x40 x41 x42 x43 x44 x45 x46 x47 x48 x49 : Value) (h0 h : Heap) : retK Try.f84 Try.prog h0 .normal ⟨#[x0, x1, x2, x3, x4, x5, x6, x7, x8, x9, x10, x11, x12, x13, x14, x15, x16, x17, x18, x19, x20, x21, x22, x23, x24, x25, x26, x27, x28, x29, x30, x31, x32, x33, x34, x35, x36, x37, x38, x39, x40, x41, x42, x43, x44, x45, x46, x47, x48, x49], h⟩ = fin h0 (rvals ((loadV Try.prog 29 x4 h).bind fun r0 => some [r0, x5])) h := by kernel_rfl
end Go.Am
namespace Go.Am
open Go.Proofs
set_option maxRecDepth 100000
noncomputable def c85_0 : Code := bodyC Try.f85 []
noncomputable def c85_1 : Code := bodyC Try.f85 [true, true, true, false, true, false, false]
noncomputable def c85_2 : Code := bodyC Try.f85 [true, true, true, true]
theorem c85_0_eq {β : Type} (x0 x1 x2 x3 x4 x5 x6 x7 x8 x9 x10 x11 x12 x13 x14 x15 x16 x17 x18 x19 x20 x21 x22 x23 x24 x25 x26 x27 x28 x29 x30 x31 x32 x33 x34 x35 x36 : Value) (h : Heap) (k : Ex → St → Option β) : codeK Try.prog (evC Try.prog) loopL c85_0 ⟨#[x0, x1, x2, x3, x4, x5, x6, x7, x8, x9, x10, x11, x12, x13, x14, x15, x16, x17, x18, x19, x20, x21, x22, x23, x24, x25, x26, x27, x28, x29, x30, x31, x32, x33, x34, x35, x36], h⟩ k =
obH (boxV Try.prog 29 x0 h) fun t2_0 h1 =>
(loadV Try.prog 29 t2_0 h1).bind fun t8_2 =>
obH (evC Try.prog 77 #[t8_2] h1) fun t9_3 h4 =>
(unV Try.prog .not t9_3).bind fun t10_5 =>
(gd (wt t10_5 false) (binV Try.prog .lss 3 (.tmp 12) (.const (Go.Value.int Go.IntKind.i64 0)) (gdV (wt t10_5 false) x1) (Go.Value.int Go.IntKind.i64 0))).bind fun t13_6 =>
(pickV t10_5 (Go.Value.bool Bool.true) t13_6).bind fun t14_7 =>
(gd (wt t14_7 false) (fieldAddrV Try.prog 29 t2_0 0)).bind fun t17_8 =>
(gd (wt t14_7 false) (loadV Try.prog 3 t17_8 h4)).bind fun t18_9 =>
(gd (wt t14_7 false) (binV Try.prog .geq 3 (.tmp 16) (.tmp 18) (gdV (wt t14_7 false) x1) t18_9)).bind fun t19_10 =>
(pickV t14_7 (Go.Value.bool Bool.true) t19_10).bind fun t20_11 =>
cnd t20_11 (
k .ret ⟨#[x0, x1, t2_0, x3, (Go.Value.slice Option.none 0 0), x5, x6, x7, t8_2, t9_3, t10_5, t10_5, (gdV (wt t10_5 false) x1), t13_6, t14_7, t14_7, (gdV (wt t14_7 false) x1), t17_8, t18_9, t19_10, t20_11, x21, x22, x23, x24, x25, x26, x27, x28, x29, x30, x31, x32, x33, x34, x35, x36], h4⟩) (
(fieldAddrV Try.prog 29 t2_0 1).bind fun t21_12 =>
(loadV Try.prog 27 t21_12 h4).bind fun t22_13 =>
(lenV Try.prog 27 t22_13 h4).bind fun t23_14 =>
loopK Try.prog (evC Try.prog) c85_1 ⟨#[x0, x1, t2_0, x3, (Go.Value.slice Option.none 0 0), (Go.Value.slice Option.none 0 0), x6, x7, t8_2, t9_3, t10_5, t10_5, (gdV (wt t10_5 false) x1), t13_6, t14_7, t14_7, (gdV (wt t14_7 false) x1), t17_8, t18_9, t19_10, t20_11, t21_12, t22_13, t23_14, (Go.Value.int Go.IntKind.i64 0), x25, x26, x27, x28, x29, x30, x31, x32, x33, x34, x35, x36], h4⟩ (blockK 0 (seqK Try.prog (evC Try.prog) c85_2 k))) := by kernel_rfl
theorem c85_1_eq {β : Type} (x0 x1 x2 x3 x4 x5 x6 x7 x8 x9 x10 x11 x12 x13 x14 x15 x16 x17 x18 x19 x20 x21 x22 x23 x24 x25 x26 x27 x28 x29 x30 x31 x32 x33 x34 x35 x36 : Value) (h : Heap) (k : Ex → St → Option β) : codeK Try.prog (evC Try.prog) loopL c85_1 ⟨#[x0, x1, x2, x3, x4, x5, x6, x7, x8, x9, x10, x11, x12, x13, x14, x15, x16, x17, x18, x19, x20, x21, x22, x23, x24, x25, x26, x27, x28, x29, x30, x31, x32, x33, x34, x35, x36], h⟩ k =
(binV Try.prog .lss 3 (.tmp 24) (.tmp 23) x24 x23).bind fun t25_15 =>
cnd t25_15 (
(indexAddrV Try.prog 27 x22 x24).bind fun t26_16 =>
(loadV Try.prog 53 t26_16 h).bind fun t27_17 =>
(indexAddrV Try.prog 53 t27_17 x1).bind fun t31_18 =>
(loadV Try.prog 46 t31_18 h).bind fun t32_19 =>
obH (buildSliceV Try.prog 53 1 #[(0, t32_19)] h) fun t33_20 h21 =>
obH (appendV Try.prog 53 (some 53) x5 t33_20 h21) fun t34_22 h23 =>
(binV Try.prog .add 3 (.tmp 24) (.const (Go.Value.int Go.IntKind.i64 1)) x24 (Go.Value.int Go.IntKind.i64 1)).bind fun t35_24 =>
k .normal ⟨#[x0, x1, x2, x3, x4, t34_22, x6, t27_17, x8, x9, x10, x11, x12, x13, x14, x15, x16, x17, x18, x19, x20, x21, x22, x23, t35_24, t25_15, t26_16, t27_17, x5, t27_17, x1, t31_18, t32_19, t33_20, t34_22, t35_24, x36], h23⟩) (
k (.exit 0) ⟨#[x0, x1, x2, x3, x4, x5, x6, x7, x8, x9, x10, x11, x12, x13, x14, x15, x16, x17, x18, x19, x20, x21, x22, x23, x24, t25_15, x26, x27, x28, x29, x30, x31, x32, x33, x34, x35, x36], h⟩) := by kernel_rfl
theorem c85_2_eq {β : Type} (x0 x1 x2 x3 x4 x5 x6 x7 x8 x9 x10 x11 x12 x13 x14 x15 x16 x17 x18 x19 x20 x21 x22 x23 x24 x25 x26 x27 x28 x29 x30 x31 x32 x33 x34 x35 x36 : Value) (h : Heap) (k : Ex → St → Option β) : codeK Try.prog (evC Try.prog) loopL c85_2 ⟨#[x0, x1, x2, x3, x4, x5, x6, x7, x8, x9, x10, x11, x12, x13, x14, x15, x16, x17, x18, x19, x20, x21, x22, x23, x24, x25, x26, x27, x28, x29, x30, x31, x32, x33, x34, x35, x36], h⟩ k =
k .ret ⟨#[x0, x1, x2, x3, x5, x5, x6, x7, x8, x9, x10, x11, x12, x13, x14, x15, x16, x17, x18, x19, x20, x21, x22, x23, x24, x25, x26, x27, x28, x29, x30, x31, x32, x33, x34, x35, x5], h⟩ := by kernel_rfl
theorem call85 (x0 x1 : Value) (h : Heap) : evC Try.prog 85 #[x0, x1] h = codeK Try.prog (evC Try.prog) loopL c85_0 ⟨#[x0, x1, undef, undef, undef, undef, undef, undef, undef, undef, undef, undef, undef, undef, undef, undef, undef, undef, undef, undef, undef, undef, undef, undef, undef, undef, undef, undef, undef, undef, undef, undef, undef, undef, undef, undef, undef], nm h⟩ (retK Try.f85 Try.prog h) :=
  (evC_call 85 Try.f85 c85_0 Try.func85 (by kernel_rfl) #[x0, x1] h).trans (by kernel_rfl)
theorem ret85 (x0 x1 x2 x3 x4 x5 x6 x7 x8 x9 x10 x11 x12 x13 x14 x15 x16 x17 x18 x19 x20 x21 x22 x23 x24 x25 x26 x27 x28 x29 x30 x31 x32 x33 x34 x35 x36 : Value) (h0 h : Heap) : retK Try.f85 Try.prog h0 .ret ⟨#[x0, x1, x2, x3, x4, x5, x6, x7, x8, x9, x10, x11, x12, x13, x14, x15, x16, x17, x18, x19, x20, x21, x22, x23, x24, x25, x26, x27, x28, x29, x30, x31, x32, x33, x34, x35, x36], h⟩ = fin h0 (some x4) h := by kernel_rfl
theorem retn85 (x0 x1 x2 x3 x4 x5 x6 x7 x8 x9 x10 x11 x12 x13 x14 x15 x16 x17 x18 x19 x20 x21 x22 x23 x24 x25 x26 x27 x28 x29 x30 x31 x32 x33 x34 x35 x36 : Value) (h0 h : Heap) : retK Try.f85 Try.prog h0 .normal ⟨#[x0, x1, x2, x3, x4, x5, x6, x7, x8, x9, x10, x11, x12, x13, x14, x15, x16, x17, x18, x19, x20, x21, x22, x23, x24, x25, x26, x27, x28, x29, x30, x31, x32, x33, x34, x35, x36], h⟩ = fin h0 (some x4) h := by kernel_rfl
end Go.Am
namespace Go.Am
open Go.Proofs
set_option maxRecDepth 100000
noncomputable def c40_0 : Code := bodyC Try.f40 []
noncomputable def c40_1 : Code := bodyC Try.f40 [true, true, false, true, false, false]
noncomputable def c40_2 : Code := bodyC Try.f40 [true, true, true]
theorem c40_0_eq {β : Type} (x0 x1 x2 x3 x4 x5 x6 x7 x8 x9 x10 x11 x12 x13 x14 x15 x16 x17 x18 x19 x20 x21 x22 x23 x24 x25 x26 x27 x28 x29 x30 x31 x32 x33 x34 x35 x36 x37 x38 x39 x40 x41 x42 x43 x44 : Value) (h : Heap) (k : Ex → St → Option β) : codeK Try.prog (evC Try.prog) loopL c40_0 ⟨#[x0, x1, x2, x3, x4, x5, x6, x7, x8, x9, x10, x11, x12, x13, x14, x15, x16, x17, x18, x19, x20, x21, x22, x23, x24, x25, x26, x27, x28, x29, x30, x31, x32, x33, x34, x35, x36, x37, x38, x39, x40, x41, x42, x43, x44], h⟩ k =
obH (boxV Try.prog 29 x0 h) fun t2_0 h1 =>
obH (boxV Try.prog 29 x1 h1) fun t3_2 h3 =>
(loadV Try.prog 29 t2_0 h3).bind fun t8_4 =>
obH (evC Try.prog 77 #[t8_4] h3) fun t9_5 h6 =>
(unV Try.prog .not t9_5).bind fun t10_7 =>
(gd (wt t10_7 false) (loadV Try.prog 29 t3_2 h6)).bind fun t12_8 =>
obH (gdH (wt t10_7 false) h6 (evC Try.prog 77 #[t12_8] h6)) fun t13_9 h10 =>
(gd (wt t10_7 false) (unV Try.prog .not t13_9)).bind fun t14_11 =>
(pickV t10_7 (Go.Value.bool Bool.true) t14_11).bind fun t15_12 =>
(gd (wt t15_12 false) (fieldAddrV Try.prog 29 t2_0 0)).bind fun t17_13 =>
(gd (wt t15_12 false) (loadV Try.prog 3 t17_13 h10)).bind fun t18_14 =>
(gd (wt t15_12 false) (fieldAddrV Try.prog 29 t3_2 0)).bind fun t19_15 =>
(gd (wt t15_12 false) (loadV Try.prog 3 t19_15 h10)).bind fun t20_16 =>
(gd (wt t15_12 false) (binV Try.prog .neq 3 (.tmp 18) (.tmp 20) t18_14 t20_16)).bind fun t21_17 =>
(pickV t15_12 (Go.Value.bool Bool.true) t21_17).bind fun t22_18 =>
cnd t22_18 (
k .ret ⟨#[x0, x1, t2_0, t3_2, (Go.Value.bool Bool.false), x5, x6, x7, t8_4, t9_5, t10_7, t10_7, t12_8, t13_9, t14_11, t15_12, t15_12, t17_13, t18_14, t19_15, t20_16, t21_17, t22_18, x23, x24, x25, x26, x27, x28, x29, x30, x31, x32, x33, x34, x35, x36, x37, x38, x39, x40, x41, x42, x43, x44], h10⟩) (
(fieldAddrV Try.prog 29 t2_0 1).bind fun t23_19 =>
(loadV Try.prog 27 t23_19 h10).bind fun t24_20 =>
(lenV Try.prog 27 t24_20 h10).bind fun t25_21 =>
loopK Try.prog (evC Try.prog) c40_1 ⟨#[x0, x1, t2_0, t3_2, (Go.Value.bool Bool.false), x5, x6, x7, t8_4, t9_5, t10_7, t10_7, t12_8, t13_9, t14_11, t15_12, t15_12, t17_13, t18_14, t19_15, t20_16, t21_17, t22_18, t23_19, t24_20, t25_21, (Go.Value.int Go.IntKind.i64 0), x27, x28, x29, x30, x31, x32, x33, x34, x35, x36, x37, x38, x39, x40, x41, x42, x43, x44], h10⟩ (blockK 0 (seqK Try.prog (evC Try.prog) c40_2 k))) := by kernel_rfl
theorem c40_1_eq {β : Type} (x0 x1 x2 x3 x4 x5 x6 x7 x8 x9 x10 x11 x12 x13 x14 x15 x16 x17 x18 x19 x20 x21 x22 x23 x24 x25 x26 x27 x28 x29 x30 x31 x32 x33 x34 x35 x36 x37 x38 x39 x40 x41 x42 x43 x44 : Value) (h : Heap) (k : Ex → St → Option β) : codeK Try.prog (evC Try.prog) loopL c40_1 ⟨#[x0, x1, x2, x3, x4, x5, x6, x7, x8, x9, x10, x11, x12, x13, x14, x15, x16, x17, x18, x19, x20, x21, x22, x23, x24, x25, x26, x27, x28, x29, x30, x31, x32, x33, x34, x35, x36, x37, x38, x39, x40, x41, x42, x43, x44], h⟩ k =
(binV Try.prog .lss 3 (.tmp 26) (.tmp 25) x26 x25).bind fun t27_22 =>
cnd t27_22 (
(indexAddrV Try.prog 27 x24 x26).bind fun t29_23 =>
(loadV Try.prog 53 t29_23 h).bind fun t30_24 =>
(fieldAddrV Try.prog 29 x3 1).bind fun t32_25 =>
(loadV Try.prog 27 t32_25 h).bind fun t33_26 =>
(indexAddrV Try.prog 27 t33_26 x26).bind fun t35_27 =>
(loadV Try.prog 53 t35_27 h).bind fun t36_28 =>
obH (evC Try.prog 93 #[t30_24, t36_28] h) fun t37_29 h30 =>
(binV Try.prog .neq 3 (.tmp 38) (.const (Go.Value.int Go.IntKind.i64 0)) t37_29 (Go.Value.int Go.IntKind.i64 0)).bind fun t39_31 =>
(gd (wt t39_31 true) (binV Try.prog .neq 3 (.tmp 41) (.const (Go.Value.int Go.IntKind.i64 (-1))) (gdV (wt t39_31 true) t37_29) (Go.Value.int Go.IntKind.i64 (-1)))).bind fun t42_32 =>
(pickV t39_31 t42_32 (Go.Value.bool Bool.false)).bind fun t43_33 =>
cnd t43_33 (
k .ret ⟨#[x0, x1, x2, x3, (Go.Value.bool Bool.false), x26, t30_24, t37_29, x8, x9, x10, x11, x12, x13, x14, x15, x16, x17, x18, x19, x20, x21, x22, x23, x24, x25, x26, t27_22, x26, t29_23, t30_24, t30_24, t32_25, t33_26, x26, t35_27, t36_28, t37_29, t37_29, t39_31, t39_31, (gdV (wt t39_31 true) t37_29), t42_32, t43_33, x44], h30⟩) (
(binV Try.prog .add 3 (.tmp 26) (.const (Go.Value.int Go.IntKind.i64 1)) x26 (Go.Value.int Go.IntKind.i64 1)).bind fun t44_34 =>
k .normal ⟨#[x0, x1, x2, x3, x4, x26, t30_24, t37_29, x8, x9, x10, x11, x12, x13, x14, x15, x16, x17, x18, x19, x20, x21, x22, x23, x24, x25, t44_34, t27_22, x26, t29_23, t30_24, t30_24, t32_25, t33_26, x26, t35_27, t36_28, t37_29, t37_29, t39_31, t39_31, (gdV (wt t39_31 true) t37_29), t42_32, t43_33, t44_34], h30⟩)) (
k (.exit 0) ⟨#[x0, x1, x2, x3, x4, x5, x6, x7, x8, x9, x10, x11, x12, x13, x14, x15, x16, x17, x18, x19, x20, x21, x22, x23, x24, x25, x26, t27_22, x28, x29, x30, x31, x32, x33, x34, x35, x36, x37, x38, x39, x40, x41, x42, x43, x44], h⟩) := by kernel_rfl
theorem c40_2_eq {β : Type} (x0 x1 x2 x3 x4 x5 x6 x7 x8 x9 x10 x11 x12 x13 x14 x15 x16 x17 x18 x19 x20 x21 x22 x23 x24 x25 x26 x27 x28 x29 x30 x31 x32 x33 x34 x35 x36 x37 x38 x39 x40 x41 x42 x43 x44 : Value) (h : Heap) (k : Ex → St → Option β) : codeK Try.prog (evC Try.prog) loopL c40_2 ⟨#[x0, x1, x2, x3, x4, x5, x6, x7, x8, x9, x10, x11, x12, x13, x14, x15, x16, x17, x18, x19, x20, x21, x22, x23, x24, x25, x26, x27, x28, x29, x30, x31, x32, x33, x34, x35, x36, x37, x38, x39, x40, x41, x42, x43, x44], h⟩ k =
k .ret ⟨#[x0, x1, x2, x3, (Go.Value.bool Bool.true), x5, x6, x7, x8, x9, x10, x11, x12, x13, x14, x15, x16, x17, x18, x19, x20, x21, x22, x23, x24, x25, x26, x27, x28, x29, x30, x31, x32, x33, x34, x35, x36, x37, x38, x39, x40, x41, x42, x43, x44], h⟩ := by kernel_rfl
theorem call40 (x0 x1 : Value) (h : Heap) : evC Try.prog 40 #[x0, x1] h = codeK Try.prog (evC Try.prog) loopL c40_0 ⟨#[x0, x1, undef, undef, undef, undef, undef, undef, undef, undef, undef, undef, undef, undef, undef, undef, undef, undef, undef, undef, undef, undef, undef, undef, undef, undef, undef, undef, undef, undef, undef, undef, undef, undef, undef, undef, undef, undef, undef, undef, undef, undef, undef, undef, undef], nm h⟩ (retK Try.f40 Try.prog h) :=
  (evC_call 40 Try.f40 c40_0 Try.func40 (by kernel_rfl) #[x0, x1] h).trans (by kernel_rfl)
theorem ret40 (x0 x1 x2 x3 x4 x5 x6 x7 x8 x9 x10 x11 x12 x13 x14 x15 x16 x17 x18 x19 x20 x21 x22 x23 x24 x25 x26 x27 x28 x29 x30 x31 x32 x33 x34 x35 x36 x37 x38 x39 x40 x41 x42 x43 x44 : Value) (h0 h : Heap) : retK Try.f40 Try.prog h0 .ret ⟨#[x0, x1, x2, x3, x4, x5, x6, x7, x8, x9, x10, x11, x12, x13, x14, x15, x16, x17, x18, x19, x20, x21, x22, x23, x24, x25, x26, x27, x28, x29, x30, x31, x32, x33, x34, x35, x36, x37, x38, x39, x40, x41, x42, x43, x44], h⟩ = fin h0 (some x4) h := by kernel_rfl
theorem retn40 (x0 x1 x2 x3 x4 x5 x6 x7 x8 x9 x10 x11 x12 x13 x14 x15 x16 x17 x18 x19 x20 x21 x22 x23 x24 x25 x26 x27 x28 x29 x30 x31 x32 x33 x34 x35 x36 x37 x38 x39 x40 x41 x42 x43 x44 : Value) (h0 h : Heap) : retK Try.f40 Try.prog h0 .normal ⟨#[x0, x1, x2, x3, x4, x5, x6, x7, x8, x9, x10, x11, x12, x13, x14, x15, x16, x17, x18, x19, x20, x21, x22, x23, x24, x25, x26, x27, x28, x29, x30, x31, x32, x33, x34, x35, x36, x37, x38, x39, x40, x41, x42, x43, x44], h⟩ = fin h0 (some x4) h := by kernel_rfl
end Go.Am
namespace Go.Am
open Go.Proofs
set_option maxRecDepth 100000
noncomputable def c112_0 : Code := bodyC Try.f112 []
theorem c112_0_eq {β : Type} (x0 x1 x2 x3 x4 x5 x6 x7 x8 x9 x10 x11 x12 x13 x14 x15 x16 x17 : Value) (h : Heap) (k : Ex → St → Option β) : codeK Try.prog (evC Try.prog) loopL c112_0 ⟨#[x0, x1, x2, x3, x4, x5, x6, x7, x8, x9, x10, x11, x12, x13, x14, x15, x16, x17], h⟩ k =
(binV Try.prog .geq 3 (.tmp 5) (.const (Go.Value.int Go.IntKind.i64 0)) x1 (Go.Value.int Go.IntKind.i64 0)).bind fun t6_0 =>
(gd (wt t6_0 true) (binV Try.prog .lss 3 (.tmp 8) (.const (Go.Value.int Go.IntKind.i64 64)) (gdV (wt t6_0 true) x1) (Go.Value.int Go.IntKind.i64 64))).bind fun t9_1 =>
(pickV t6_0 t9_1 (Go.Value.bool Bool.false)).bind fun t10_2 =>
(gd (wt t10_2 true) (binV Try.prog .shr 47 (.tmp 12) (.tmp 13) (gdV (wt t10_2 true) x0) (gdV (wt t10_2 true) x1))).bind fun t14_3 =>
(gd (wt t10_2 true) (binV Try.prog .and 47 (.tmp 14) (.const (Go.Value.int Go.IntKind.u64 1)) t14_3 (Go.Value.int Go.IntKind.u64 1))).bind fun t15_4 =>
(gd (wt t10_2 true) (binV Try.prog .eql 47 (.tmp 15) (.const (Go.Value.int Go.IntKind.u64 1)) t15_4 (Go.Value.int Go.IntKind.u64 1))).bind fun t16_5 =>
(pickV t10_2 t16_5 (Go.Value.bool Bool.false)).bind fun t17_6 =>
k .ret ⟨#[x0, x1, x2, x3, t17_6, x1, t6_0, t6_0, (gdV (wt t6_0 true) x1), t9_1, t10_2, t10_2, (gdV (wt t10_2 true) x0), (gdV (wt t10_2 true) x1), t14_3, t15_4, t16_5, t17_6], h⟩ := by kernel_rfl
theorem call112 (x0 x1 : Value) (h : Heap) : evC Try.prog 112 #[x0, x1] h = codeK Try.prog (evC Try.prog) loopL c112_0 ⟨#[x0, x1, undef, undef, undef, undef, undef, undef, undef, undef, undef, undef, undef, undef, undef, undef, undef, undef], nm h⟩ (retK Try.f112 Try.prog h) :=
  (evC_call 112 Try.f112 c112_0 Try.func112 (by kernel_rfl) #[x0, x1] h).trans (by kernel_rfl)
theorem ret112 (x0 x1 x2 x3 x4 x5 x6 x7 x8 x9 x10 x11 x12 x13 x14 x15 x16 x17 : Value) (h0 h : Heap) : retK Try.f112 Try.prog h0 .ret ⟨#[x0, x1, x2, x3, x4, x5, x6, x7, x8, x9, x10, x11, x12, x13, x14, x15, x16, x17], h⟩ = fin h0 (some x4) h := by kernel_rfl
theorem retn112 (x0 x1 x2 x3 x4 x5 x6 x7 x8 x9 x10 x11 x12 x13 x14 x15 x16 x17 : Value) (h0 h : Heap) : retK Try.f112 Try.prog h0 .normal ⟨#[x0, x1, x2, x3, x4, x5, x6, x7, x8, x9, x10, x11, x12, x13, x14, x15, x16, x17], h⟩ = fin h0 (some x4) h := by kernel_rfl
end Go.Am
namespace Go.Am
open Go.Proofs
set_option maxRecDepth 100000
noncomputable def c26_0 : Code := bodyC Try.f26 []
noncomputable def c26_1 : Code := bodyC Try.f26 [true, true, false, true, false, false]
noncomputable def c26_2 : Code := bodyC Try.f26 [true, true, true]
theorem c26_0_eq {β : Type} (x0 x1 x2 x3 x4 x5 x6 x7 x8 x9 x10 x11 x12 x13 x14 x15 x16 x17 x18 x19 x20 x21 x22 x23 x24 x25 x26 x27 x28 x29 : Value) (h : Heap) (k : Ex → St → Option β) : codeK Try.prog (evC Try.prog) loopL c26_0 ⟨#[x0, x1, x2, x3, x4, x5, x6, x7, x8, x9, x10, x11, x12, x13, x14, x15, x16, x17, x18, x19, x20, x21, x22, x23, x24, x25, x26, x27, x28, x29], h⟩ k =
(binV Try.prog .lss 3 (.tmp 6) (.const (Go.Value.int Go.IntKind.i64 1)) x0 (Go.Value.int Go.IntKind.i64 1)).bind fun t7_0 =>
(gd (wt t7_0 false) (binV Try.prog .gtr 3 (.tmp 9) (.const (Go.Value.int Go.IntKind.i64 16)) (gdV (wt t7_0 false) x0) (Go.Value.int Go.IntKind.i64 16))).bind fun t10_1 =>
(pickV t7_0 (Go.Value.bool Bool.true) t10_1).bind fun t11_2 =>
(gd (wt t11_2 false) (lenV Try.prog 22 (gdV (wt t11_2 false) x1) h)).bind fun t14_3 =>
(gd (wt t11_2 false) (binV Try.prog .neq 3 (.tmp 14) (.tmp 15) t14_3 (gdV (wt t11_2 false) x0))).bind fun t16_4 =>
(pickV t11_2 (Go.Value.bool Bool.true) t16_4).bind fun t17_5 =>
cnd t17_5 (
k .ret ⟨#[x0, x1, x2, x3, (Go.Value.bool Bool.false), x5, x0, t7_0, t7_0, (gdV (wt t7_0 false) x0), t10_1, t11_2, t11_2, (gdV (wt t11_2 false) x1), t14_3, (gdV (wt t11_2 false) x0), t16_4, t17_5, x18, x19, x20, x21, x22, x23, x24, x25, x26, x27, x28, x29], h⟩) (
loopK Try.prog (evC Try.prog) c26_1 ⟨#[x0, x1, x2, x3, (Go.Value.bool Bool.false), (Go.Value.int Go.IntKind.i64 0), x0, t7_0, t7_0, (gdV (wt t7_0 false) x0), t10_1, t11_2, t11_2, (gdV (wt t11_2 false) x1), t14_3, (gdV (wt t11_2 false) x0), t16_4, t17_5, x18, x19, x20, x21, x22, x23, x24, x25, x26, x27, x28, x29], h⟩ (blockK 0 (seqK Try.prog (evC Try.prog) c26_2 k))) := by kernel_rfl
theorem c26_1_eq {β : Type} (x0 x1 x2 x3 x4 x5 x6 x7 x8 x9 x10 x11 x12 x13 x14 x15 x16 x17 x18 x19 x20 x21 x22 x23 x24 x25 x26 x27 x28 x29 : Value) (h : Heap) (k : Ex → St → Option β) : codeK Try.prog (evC Try.prog) loopL c26_1 ⟨#[x0, x1, x2, x3, x4, x5, x6, x7, x8, x9, x10, x11, x12, x13, x14, x15, x16, x17, x18, x19, x20, x21, x22, x23, x24, x25, x26, x27, x28, x29], h⟩ k =
(binV Try.prog .lss 3 (.tmp 18) (.tmp 19) x5 x0).bind fun t20_6 =>
cnd t20_6 (
(indexAddrV Try.prog 22 x1 x5).bind fun t25_7 =>
(loadV Try.prog 52 t25_7 h).bind fun t26_8 =>
(lenV Try.prog 52 t26_8 h).bind fun t27_9 =>
(binV Try.prog .neq 3 (.tmp 27) (.tmp 28) t27_9 x0).bind fun t29_10 =>
cnd t29_10 (
k .ret ⟨#[x0, x1, x2, x3, (Go.Value.bool Bool.false), x5, x6, x7, x8, x9, x10, x11, x12, x13, x14, x15, x16, x17, x5, x0, t20_6, x21, x22, x1, x5, t25_7, t26_8, t27_9, x0, t29_10], h⟩) (
(binV Try.prog .add 3 (.tmp 21) (.const (Go.Value.int Go.IntKind.i64 1)) x5 (Go.Value.int Go.IntKind.i64 1)).bind fun t22_11 =>
k .normal ⟨#[x0, x1, x2, x3, x4, t22_11, x6, x7, x8, x9, x10, x11, x12, x13, x14, x15, x16, x17, x5, x0, t20_6, x5, t22_11, x1, x5, t25_7, t26_8, t27_9, x0, t29_10], h⟩)) (
k (.exit 0) ⟨#[x0, x1, x2, x3, x4, x5, x6, x7, x8, x9, x10, x11, x12, x13, x14, x15, x16, x17, x5, x0, t20_6, x21, x22, x23, x24, x25, x26, x27, x28, x29], h⟩) := by kernel_rfl
theorem c26_2_eq {β : Type} (x0 x1 x2 x3 x4 x5 x6 x7 x8 x9 x10 x11 x12 x13 x14 x15 x16 x17 x18 x19 x20 x21 x22 x23 x24 x25 x26 x27 x28 x29 : Value) (h : Heap) (k : Ex → St → Option β) : codeK Try.prog (evC Try.prog) loopL c26_2 ⟨#[x0, x1, x2, x3, x4, x5, x6, x7, x8, x9, x10, x11, x12, x13, x14, x15, x16, x17, x18, x19, x20, x21, x22, x23, x24, x25, x26, x27, x28, x29], h⟩ k =
k .ret ⟨#[x0, x1, x2, x3, (Go.Value.bool Bool.true), x5, x6, x7, x8, x9, x10, x11, x12, x13, x14, x15, x16, x17, x18, x19, x20, x21, x22, x23, x24, x25, x26, x27, x28, x29], h⟩ := by kernel_rfl
theorem call26 (x0 x1 : Value) (h : Heap) : evC Try.prog 26 #[x0, x1] h = codeK Try.prog (evC Try.prog) loopL c26_0 ⟨#[x0, x1, undef, undef, undef, undef, undef, undef, undef, undef, undef, undef, undef, undef, undef, undef, undef, undef, undef, undef, undef, undef, undef, undef, undef, undef, undef, undef, undef, undef], nm h⟩ (retK Try.f26 Try.prog h) :=
  (evC_call 26 Try.f26 c26_0 Try.func26 (by kernel_rfl) #[x0, x1] h).trans (by kernel_rfl)
theorem ret26 (x0 x1 x2 x3 x4 x5 x6 x7 x8 x9 x10 x11 x12 x13 x14 x15 x16 x17 x18 x19 x20 x21 x22 x23 x24 x25 x26 x27 x28 x29 : Value) (h0 h : Heap) : retK Try.f26 Try.prog h0 .ret ⟨#[x0, x1, x2, x3, x4, x5, x6, x7, x8, x9, x10, x11, x12, x13, x14, x15, x16, x17, x18, x19, x20, x21, x22, x23, x24, x25, x26, x27, x28, x29], h⟩ = fin h0 (some x4) h := by kernel_rfl
theorem retn26 (x0 x1 x2 x3 x4 x5 x6 x7 x8 x9 x10 x11 x12 x13 x14 x15 x16 x17 x18 x19 x20 x21 x22 x23 x24 x25 x26 x27 x28 x29 : Value) (h0 h : Heap) : retK Try.f26 Try.prog h0 .normal ⟨#[x0, x1, x2, x3, x4, x5, x6, x7, x8, x9, x10, x11, x12, x13, x14, x15, x16, x17, x18, x19, x20, x21, x22, x23, x24, x25, x26, x27, x28, x29], h⟩ = fin h0 (some x4) h := by kernel_rfl
end Go.Am
namespace Go.Am
open Go.Proofs
set_option maxRecDepth 100000
noncomputable def c121_0 : Code := bodyC Try.f121 []
noncomputable def c121_1 : Code := bodyC Try.f121 [true, true, false, true, false, false]
noncomputable def c121_2 : Code := bodyC Try.f121 [true, true, true]
theorem c121_0_eq {β : Type} (x0 x1 x2 x3 x4 x5 x6 x7 x8 x9 x10 x11 x12 x13 x14 x15 x16 x17 x18 x19 x20 : Value) (h : Heap) (k : Ex → St → Option β) : codeK Try.prog (evC Try.prog) loopL c121_0 ⟨#[x0, x1, x2, x3, x4, x5, x6, x7, x8, x9, x10, x11, x12, x13, x14, x15, x16, x17, x18, x19, x20], h⟩ k =
loopK Try.prog (evC Try.prog) c121_1 ⟨#[x0, x1, (Go.Value.slice Option.none 0 0), (Go.Value.slice Option.none 0 0), (Go.Value.int Go.IntKind.i64 0), x5, x6, x7, x8, x9, x10, x11, x12, x13, x14, x15, x16, x17, x18, x19, x20], h⟩ (blockK 0 (seqK Try.prog (evC Try.prog) c121_2 k)) := by kernel_rfl
theorem c121_1_eq {β : Type} (x0 x1 x2 x3 x4 x5 x6 x7 x8 x9 x10 x11 x12 x13 x14 x15 x16 x17 x18 x19 x20 : Value) (h : Heap) (k : Ex → St → Option β) : codeK Try.prog (evC Try.prog) loopL c121_1 ⟨#[x0, x1, x2, x3, x4, x5, x6, x7, x8, x9, x10, x11, x12, x13, x14, x15, x16, x17, x18, x19, x20], h⟩ k =
(lenV Try.prog 22 x0 h).bind fun t7_0 =>
(binV Try.prog .lss 3 (.tmp 5) (.tmp 7) x4 t7_0).bind fun t8_1 =>
cnd t8_1 (
obH (buildSliceV Try.prog 52 0 #[] h) fun t12_2 h3 =>
(indexAddrV Try.prog 22 x0 x4).bind fun t15_4 =>
(loadV Try.prog 52 t15_4 h3).bind fun t16_5 =>
obH (appendV Try.prog 52 (some 52) t12_2 t16_5 h3) fun t17_6 h7 =>
obH (buildSliceV Try.prog 22 1 #[(0, t17_6)] h7) fun t18_8 h9 =>
obH (appendV Try.prog 22 (some 22) x3 t18_8 h9) fun t19_10 h11 =>
(binV Try.prog .add 3 (.tmp 9) (.const (Go.Value.int Go.IntKind.i64 1)) x4 (Go.Value.int Go.IntKind.i64 1)).bind fun t10_12 =>
k .normal ⟨#[x0, x1, x2, t19_10, t10_12, x4, x0, t7_0, t8_1, x4, t10_12, x3, t12_2, x0, x4, t15_4, t16_5, t17_6, t18_8, t19_10, x20], h11⟩) (
k (.exit 0) ⟨#[x0, x1, x2, x3, x4, x4, x0, t7_0, t8_1, x9, x10, x11, x12, x13, x14, x15, x16, x17, x18, x19, x20], h⟩) := by kernel_rfl
theorem c121_2_eq {β : Type} (x0 x1 x2 x3 x4 x5 x6 x7 x8 x9 x10 x11 x12 x13 x14 x15 x16 x17 x18 x19 x20 : Value) (h : Heap) (k : Ex → St → Option β) : codeK Try.prog (evC Try.prog) loopL c121_2 ⟨#[x0, x1, x2, x3, x4, x5, x6, x7, x8, x9, x10, x11, x12, x13, x14, x15, x16, x17, x18, x19, x20], h⟩ k =
k .ret ⟨#[x0, x1, x3, x3, x4, x5, x6, x7, x8, x9, x10, x11, x12, x13, x14, x15, x16, x17, x18, x19, x3], h⟩ := by kernel_rfl
theorem call121 (x0 : Value) (h : Heap) : evC Try.prog 121 #[x0] h = codeK Try.prog (evC Try.prog) loopL c121_0 ⟨#[x0, undef, undef, undef, undef, undef, undef, undef, undef, undef, undef, undef, undef, undef, undef, undef, undef, undef, undef, undef, undef], nm h⟩ (retK Try.f121 Try.prog h) :=
  (evC_call 121 Try.f121 c121_0 Try.func121 (by kernel_rfl) #[x0] h).trans (by kernel_rfl)
theorem ret121 (x0 x1 x2 x3 x4 x5 x6 x7 x8 x9 x10 x11 x12 x13 x14 x15 x16 x17 x18 x19 x20 : Value) (h0 h : Heap) : retK Try.f121 Try.prog h0 .ret ⟨#[x0, x1, x2, x3, x4, x5, x6, x7, x8, x9, x10, x11, x12, x13, x14, x15, x16, x17, x18, x19, x20], h⟩ = fin h0 (some x2) h := by kernel_rfl
theorem retn121 (x0 x1 x2 x3 x4 x5 x6 x7 x8 x9 x10 x11 x12 x13 x14 x15 x16 x17 x18 x19 x20 : Value) (h0 h : Heap) : retK Try.f121 Try.prog h0 .normal ⟨#[x0, x1, x2, x3, x4, x5, x6, x7, x8, x9, x10, x11, x12, x13, x14, x15, x16, x17, x18, x19, x20], h⟩ = fin h0 (some x2) h := by kernel_rfl
end Go.Am
namespace Go.Am
open Go.Proofs
set_option maxRecDepth 100000
noncomputable def c89_0 : Code := bodyC Try.f89 []
noncomputable def c89_1 : Code := bodyC Try.f89 [true, true, true, false, true, false, false]
noncomputable def c89_2 : Code := bodyC Try.f89 [true, true, true, true]
theorem c89_0_eq {β : Type} (x0 x1 x2 x3 x4 x5 x6 x7 x8 x9 x10 x11 x12 x13 x14 x15 x16 x17 x18 x19 x20 x21 x22 x23 x24 x25 x26 x27 x28 x29 x30 x31 x32 x33 x34 x35 x36 x37 x38 x39 x40 x41 x42 x43 x44 x45 x46 x47 x48 x49 x50 x51 x52 x53 x54 : Value) (h : Heap) (k : Ex → St → Option β) : codeK Try.prog (evC Try.prog) loopL c89_0 ⟨#[x0, x1, x2, x3, x4, x5, x6, x7, x8, x9, x10, x11, x12, x13, x14, x15, x16, x17, x18, x19, x20, x21, x22, x23, x24, x25, x26, x27, x28, x29, x30, x31, x32, x33, x34, x35, x36, x37, x38, x39, x40, x41, x42, x43, x44, x45, x46, x47, x48, x49, x50, x51, x52, x53, x54], h⟩ k =
obH (evC Try.prog 121 #[x1] h) fun t12_0 h1 =>
obH (evC Try.prog 26 #[x0, x1] h1) fun t15_2 h3 =>
(unV Try.prog .not t15_2).bind fun t16_4 =>
(gd (wt t16_4 false) (binV Try.prog .lss 3 (.tmp 18) (.const (Go.Value.int Go.IntKind.i64 0)) (gdV (wt t16_4 false) x2) (Go.Value.int Go.IntKind.i64 0))).bind fun t19_5 =>
(pickV t16_4 (Go.Value.bool Bool.true) t19_5).bind fun t20_6 =>
(gd (wt t20_6 false) (binV Try.prog .geq 3 (.tmp 22) (.tmp 23) (gdV (wt t20_6 false) x2) (gdV (wt t20_6 false) x0))).bind fun t24_7 =>
(pickV t20_6 (Go.Value.bool Bool.true) t24_7).bind fun t25_8 =>
cnd t25_8 (
k .ret ⟨#[x0, x1, x2, x3, x4, x5, x6, x7, t12_0, t12_0, x10, x1, t12_0, x0, x1, t15_2, t16_4, t16_4, (gdV (wt t16_4 false) x2), t19_5, t20_6, t20_6, (gdV (wt t20_6 false) x2), (gdV (wt t20_6 false) x0), t24_7, t25_8, t12_0, x27, x28, x29, x30, x31, x32, x33, x34, x35, x36, x37, x38, x39, x40, x41, x42, x43, x44, x45, x46, x47, x48, x49, x50, x51, x52, x53, x54], h3⟩) (
loopK Try.prog (evC Try.prog) c89_1 ⟨#[x0, x1, x2, x3, x4, x5, x6, x7, (Go.Value.slice Option.none 0 0), t12_0, (Go.Value.int Go.IntKind.i64 0), x1, t12_0, x0, x1, t15_2, t16_4, t16_4, (gdV (wt t16_4 false) x2), t19_5, t20_6, t20_6, (gdV (wt t20_6 false) x2), (gdV (wt t20_6 false) x0), t24_7, t25_8, x26, x27, x28, x29, x30, x31, x32, x33, x34, x35, x36, x37, x38, x39, x40, x41, x42, x43, x44, x45, x46, x47, x48, x49, x50, x51, x52, x53, x54], h3⟩ (blockK 0 (seqK Try.prog (evC Try.prog) c89_2 k))) := by kernel_rfl
theorem c89_1_eq {β : Type} (x0 x1 x2 x3 x4 x5 x6 x7 x8 x9 x10 x11 x12 x13 x14 x15 x16 x17 x18 x19 x20 x21 x22 x23 x24 x25 x26 x27 x28 x29 x30 x31 x32 x33 x34 x35 x36 x37 x38 x39 x40 x41 x42 x43 x44 x45 x46 x47 x48 x49 x50 x51 x52 x53 x54 : Value) (h : Heap) (k : Ex → St → Option β) : codeK Try.prog (evC Try.prog) loopL c89_1 ⟨#[x0, x1, x2, x3, x4, x5, x6, x7, x8, x9, x10, x11, x12, x13, x14, x15, x16, x17, x18, x19, x20, x21, x22, x23, x24, x25, x26, x27, x28, x29, x30, x31, x32, x33, x34, x35, x36, x37, x38, x39, x40, x41, x42, x43, x44, x45, x46, x47, x48, x49, x50, x51, x52, x53, x54], h⟩ k =
(binV Try.prog .lss 3 (.tmp 27) (.tmp 28) x10 x0).bind fun t29_9 =>
cnd t29_9 (
obH (evC Try.prog 114 #[x3, x10] h) fun t34_10 h11 =>
(gd (wt t34_10 true) (indexAddrV Try.prog 22 (gdV (wt t34_10 true) x9) (gdV (wt t34_10 true) x2))).bind fun t38_12 =>
(gd (wt t34_10 true) (loadV Try.prog 52 t38_12 h11)).bind fun t39_13 =>
(gd (wt t34_10 true) (indexAddrV Try.prog 52 t39_13 (gdV (wt t34_10 true) x10))).bind fun t41_14 =>
(gd (wt t34_10 true) (loadV Try.prog 46 t41_14 h11)).bind fun t42_15 =>
(gd (wt t34_10 true) (binV Try.prog .lss 46 (.tmp 42) (.const (Go.Value.int Go.IntKind.u64 18446744073709551615)) t42_15 (Go.Value.int Go.IntKind.u64 18446744073709551615))).bind fun t43_16 =>
(pickV t34_10 t43_16 (Go.Value.bool Bool.false)).bind fun t44_17 =>
cnd t44_17 (
(indexAddrV Try.prog 22 x9 x2).bind fun t47_18 =>
(loadV Try.prog 52 t47_18 h11).bind fun t48_19 =>
(indexAddrV Try.prog 52 t48_19 x10).bind fun t50_20 =>
(loadV Try.prog 46 t50_20 h11).bind fun t51_21 =>
(binV Try.prog .add 46 (.tmp 51) (.const (Go.Value.int Go.IntKind.u64 1)) t51_21 (Go.Value.int Go.IntKind.u64 1)).bind fun t52_22 =>
(indexAddrV Try.prog 52 t48_19 x10).bind fun t53_23 =>
(storeV Try.prog 46 t53_23 t52_22 h11).bind fun h24 =>
(binV Try.prog .add 3 (.tmp 30) (.const (Go.Value.int Go.IntKind.i64 1)) x10 (Go.Value.int Go.IntKind.i64 1)).bind fun t31_25 =>
k .normal ⟨#[x0, x1, x2, x3, x4, x5, x6, x7, x8, x9, t31_25, x11, x12, x13, x14, x15, x16, x17, x18, x19, x20, x21, x22, x23, x24, x25, x26, x10, x0, t29_9, x10, t31_25, x3, x10, t34_10, t34_10, (gdV (wt t34_10 true) x9), (gdV (wt t34_10 true) x2), t38_12, t39_13, (gdV (wt t34_10 true) x10), t41_14, t42_15, t43_16, t44_17, x9, x2, t47_18, t48_19, x10, t50_20, t51_21, t52_22, t53_23, x54], h24⟩) (
(binV Try.prog .add 3 (.tmp 30) (.const (Go.Value.int Go.IntKind.i64 1)) x10 (Go.Value.int Go.IntKind.i64 1)).bind fun t31_26 =>
k .normal ⟨#[x0, x1, x2, x3, x4, x5, x6, x7, x8, x9, t31_26, x11, x12, x13, x14, x15, x16, x17, x18, x19, x20, x21, x22, x23, x24, x25, x26, x10, x0, t29_9, x10, t31_26, x3, x10, t34_10, t34_10, (gdV (wt t34_10 true) x9), (gdV (wt t34_10 true) x2), t38_12, t39_13, (gdV (wt t34_10 true) x10), t41_14, t42_15, t43_16, t44_17, x45, x46, x47, x48, x49, x50, x51, x52, x53, x54], h11⟩)) (
k (.exit 0) ⟨#[x0, x1, x2, x3, x4, x5, x6, x7, x8, x9, x10, x11, x12, x13, x14, x15, x16, x17, x18, x19, x20, x21, x22, x23, x24, x25, x26, x10, x0, t29_9, x30, x31, x32, x33, x34, x35, x36, x37, x38, x39, x40, x41, x42, x43, x44, x45, x46, x47, x48, x49, x50, x51, x52, x53, x54], h⟩) := by kernel_rfl
theorem c89_2_eq {β : Type} (x0 x1 x2 x3 x4 x5 x6 x7 x8 x9 x10 x11 x12 x13 x14 x15 x16 x17 x18 x19 x20 x21 x22 x23 x24 x25 x26 x27 x28 x29 x30 x31 x32 x33 x34 x35 x36 x37 x38 x39 x40 x41 x42 x43 x44 x45 x46 x47 x48 x49 x50 x51 x52 x53 x54 : Value) (h : Heap) (k : Ex → St → Option β) : codeK Try.prog (evC Try.prog) loopL c89_2 ⟨#[x0, x1, x2, x3, x4, x5, x6, x7, x8, x9, x10, x11, x12, x13, x14, x15, x16, x17, x18, x19, x20, x21, x22, x23, x24, x25, x26, x27, x28, x29, x30, x31, x32, x33, x34, x35, x36, x37, x38, x39, x40, x41, x42, x43, x44, x45, x46, x47, x48, x49, x50, x51, x52, x53, x54], h⟩ k =
k .ret ⟨#[x0, x1, x2, x3, x4, x5, x6, x7, x9, x9, x10, x11, x12, x13, x14, x15, x16, x17, x18, x19, x20, x21, x22, x23, x24, x25, x26, x27, x28, x29, x30, x31, x32, x33, x34, x35, x36, x37, x38, x39, x40, x41, x42, x43, x44, x45, x46, x47, x48, x49, x50, x51, x52, x53, x9], h⟩ := by kernel_rfl
theorem call89 (x0 x1 x2 x3 : Value) (h : Heap) : evC Try.prog 89 #[x0, x1, x2, x3] h = codeK Try.prog (evC Try.prog) loopL c89_0 ⟨#[x0, x1, x2, x3, undef, undef, undef, undef, undef, undef, undef, undef, undef, undef, undef, undef, undef, undef, undef, undef, undef, undef, undef, undef, undef, undef, undef, undef, undef, undef, undef, undef, undef, undef, undef, undef, undef, undef, undef, undef, undef, undef, undef, undef, undef, undef, undef, undef, undef, undef, undef, undef, undef, undef, undef], nm h⟩ (retK Try.f89 Try.prog h) :=
  (evC_call 89 Try.f89 c89_0 Try.func89 (by kernel_rfl) #[x0, x1, x2, x3] h).trans (by kernel_rfl)
theorem ret89 (x0 x1 x2 x3 x4 x5 x6 x7 x8 x9 x10 x11 x12 x13 x14 x15 x16 x17 x18 x19 x20 x21 x22 x23 x24 x25 x26 x27 x28 x29 x30 x31 x32 x33 x34 x35 x36 x37 x38 x39 x40 x41 x42 x43 x44 x45 x46 x47 x48 x49 x50 x51 x52 x53 x54 : Value) (h0 h : Heap) : retK Try.f89 Try.prog h0 .ret ⟨#[x0, x1, x2, x3, x4, x5, x6, x7, x8, x9, x10, x11, x12, x13, x14, x15, x16, x17, x18, x19, x20, x21, x22, x23, x24, x25, x26, x27, x28, x29, x30, x31, x32, x33, x34, x35, x36, x37, x38, x39, x40, x41, x42, x43, x44, x45, x46, x47, x48, x49, x50, x51, x52, x53, x54], h⟩ = fin h0 (some x8) h := by kernel_rfl
theorem retn89 (x0 x1 x2 x3 x4 x5 x6 x7 x8 x9 x10 x11 x12 x13 x14 x15 x16 x17 x18 x19 x20 x21 x22 x23 x24 x25 x26 x27 x28 x29 x30 x31 x32 x33 x34 x35 x36 x37 x38 x39 x40 x41 x42 x43 x44 x45 x46 x47 x48 x49 x50 x51 x52 x53 x54 : Value) (h0 h : Heap) : retK Try.f89 Try.prog h0 .normal ⟨#[x0, x1, x2, x3, x4, x5, x6, x7, x8, x9, x10, x11, x12, x13, x14, x15, x16, x17, x18, x19, x20, x21, x22, x23, x24, x25, x26, x27, x28, x29, x30, x31, x32, x33, x34, x35, x36, x37, x38, x39, x40, x41, x42, x43, x44, x45, x46, x47, x48, x49, x50, x51, x52, x53, x54], h⟩ = fin h0 (some x8) h := by kernel_rfl
end Go.Am
namespace Go.Am
open Go.Proofs
set_option maxRecDepth 100000
noncomputable def c92_0 : Code := bodyC Try.f92 []
noncomputable def c92_1 : Code := bodyC Try.f92 [true, true, false, true, false, false]
noncomputable def c92_2 : Code := bodyC Try.f92 [true, true, true]
theorem c92_0_eq {β : Type} (x0 x1 x2 x3 x4 x5 x6 x7 x8 x9 x10 x11 x12 x13 x14 x15 x16 x17 x18 x19 x20 x21 x22 x23 x24 x25 x26 x27 : Value) (h : Heap) (k : Ex → St → Option β) : codeK Try.prog (evC Try.prog) loopL c92_0 ⟨#[x0, x1, x2, x3, x4, x5, x6, x7, x8, x9, x10, x11, x12, x13, x14, x15, x16, x17, x18, x19, x20, x21, x22, x23, x24, x25, x26, x27], h⟩ k =
obH (evC Try.prog 121 #[x0] h) fun t8_0 h1 =>
loopK Try.prog (evC Try.prog) c92_1 ⟨#[x0, x1, x2, x3, (Go.Value.slice Option.none 0 0), t8_0, (Go.Value.int Go.IntKind.i64 0), x0, t8_0, x9, x10, x11, x12, x13, x14, x15, x16, x17, x18, x19, x20, x21, x22, x23, x24, x25, x26, x27], h1⟩ (blockK 0 (seqK Try.prog (evC Try.prog) c92_2 k)) := by kernel_rfl
theorem c92_1_eq {β : Type} (x0 x1 x2 x3 x4 x5 x6 x7 x8 x9 x10 x11 x12 x13 x14 x15 x16 x17 x18 x19 x20 x21 x22 x23 x24 x25 x26 x27 : Value) (h : Heap) (k : Ex → St → Option β) : codeK Try.prog (evC Try.prog) loopL c92_1 ⟨#[x0, x1, x2, x3, x4, x5, x6, x7, x8, x9, x10, x11, x12, x13, x14, x15, x16, x17, x18, x19, x20, x21, x22, x23, x24, x25, x26, x27], h⟩ k =
(lenV Try.prog 22 x5 h).bind fun t11_2 =>
(binV Try.prog .lss 3 (.tmp 9) (.tmp 11) x6 t11_2).bind fun t12_3 =>
cnd t12_3 (
(indexAddrV Try.prog 22 x5 x6).bind fun t19_4 =>
(loadV Try.prog 52 t19_4 h).bind fun t20_5 =>
(indexAddrV Try.prog 22 x1 x6).bind fun t23_6 =>
(loadV Try.prog 52 t23_6 h).bind fun t24_7 =>
obH (evC Try.prog 123 #[t20_5, t24_7] h) fun t25_8 h9 =>
(indexAddrV Try.prog 22 x5 x6).bind fun t26_10 =>
(storeV Try.prog 52 t26_10 t25_8 h9).bind fun h11 =>
(binV Try.prog .add 3 (.tmp 13) (.const (Go.Value.int Go.IntKind.i64 1)) x6 (Go.Value.int Go.IntKind.i64 1)).bind fun t14_12 =>
k .normal ⟨#[x0, x1, x2, x3, x4, x5, t14_12, x7, x8, x6, x5, t11_2, t12_3, x6, t14_12, x5, x6, x5, x6, t19_4, t20_5, x1, x6, t23_6, t24_7, t25_8, t26_10, x27], h11⟩) (
k (.exit 0) ⟨#[x0, x1, x2, x3, x4, x5, x6, x7, x8, x6, x5, t11_2, t12_3, x13, x14, x15, x16, x17, x18, x19, x20, x21, x22, x23, x24, x25, x26, x27], h⟩) := by kernel_rfl
theorem c92_2_eq {β : Type} (x0 x1 x2 x3 x4 x5 x6 x7 x8 x9 x10 x11 x12 x13 x14 x15 x16 x17 x18 x19 x20 x21 x22 x23 x24 x25 x26 x27 : Value) (h : Heap) (k : Ex → St → Option β) : codeK Try.prog (evC Try.prog) loopL c92_2 ⟨#[x0, x1, x2, x3, x4, x5, x6, x7, x8, x9, x10, x11, x12, x13, x14, x15, x16, x17, x18, x19, x20, x21, x22, x23, x24, x25, x26, x27], h⟩ k =
k .ret ⟨#[x0, x1, x2, x3, x5, x5, x6, x7, x8, x9, x10, x11, x12, x13, x14, x15, x16, x17, x18, x19, x20, x21, x22, x23, x24, x25, x26, x5], h⟩ := by kernel_rfl
theorem call92 (x0 x1 : Value) (h : Heap) : evC Try.prog 92 #[x0, x1] h = codeK Try.prog (evC Try.prog) loopL c92_0 ⟨#[x0, x1, undef, undef, undef, undef, undef, undef, undef, undef, undef, undef, undef, undef, undef, undef, undef, undef, undef, undef, undef, undef, undef, undef, undef, undef, undef, undef], nm h⟩ (retK Try.f92 Try.prog h) :=
  (evC_call 92 Try.f92 c92_0 Try.func92 (by kernel_rfl) #[x0, x1] h).trans (by kernel_rfl)
theorem ret92 (x0 x1 x2 x3 x4 x5 x6 x7 x8 x9 x10 x11 x12 x13 x14 x15 x16 x17 x18 x19 x20 x21 x22 x23 x24 x25 x26 x27 : Value) (h0 h : Heap) : retK Try.f92 Try.prog h0 .ret ⟨#[x0, x1, x2, x3, x4, x5, x6, x7, x8, x9, x10, x11, x12, x13, x14, x15, x16, x17, x18, x19, x20, x21, x22, x23, x24, x25, x26, x27], h⟩ = fin h0 (some x4) h := by kernel_rfl
theorem retn92 (x0 x1 x2 x3 x4 x5 x6 x7 x8 x9 x10 x11 x12 x13 x14 x15 x16 x17 x18 x19 x20 x21 x22 x23 x24 x25 x26 x27 : Value) (h0 h : Heap) : retK Try.f92 Try.prog h0 .normal ⟨#[x0, x1, x2, x3, x4, x5, x6, x7, x8, x9, x10, x11, x12, x13, x14, x15, x16, x17, x18, x19, x20, x21, x22, x23, x24, x25, x26, x27], h⟩ = fin h0 (some x4) h := by kernel_rfl
end Go.Am
namespace Go.Am
open Go.Proofs
set_option maxRecDepth 100000
noncomputable def c114_0 : Code := bodyC Try.f114 []
theorem c114_0_eq {β : Type} (x0 x1 x2 x3 x4 x5 x6 x7 x8 x9 x10 x11 x12 x13 x14 x15 x16 x17 x18 : Value) (h : Heap) (k : Ex → St → Option β) : codeK Try.prog (evC Try.prog) loopL c114_0 ⟨#[x0, x1, x2, x3, x4, x5, x6, x7, x8, x9, x10, x11, x12, x13, x14, x15, x16, x17, x18], h⟩ k =
(binV Try.prog .geq 3 (.tmp 5) (.const (Go.Value.int Go.IntKind.i64 0)) x1 (Go.Value.int Go.IntKind.i64 0)).bind fun t6_0 =>
(gd (wt t6_0 true) (binV Try.prog .leq 3 (.tmp 8) (.const (Go.Value.int Go.IntKind.i64 63)) (gdV (wt t6_0 true) x1) (Go.Value.int Go.IntKind.i64 63))).bind fun t9_1 =>
(pickV t6_0 t9_1 (Go.Value.bool Bool.false)).bind fun t10_2 =>
obH (gdH (wt t10_2 true) h (convV Try.prog 3 138 (gdV (wt t10_2 true) x1) h)) fun t14_3 h4 =>
(gd (wt t10_2 true) (binV Try.prog .shr 46 (.tmp 12) (.tmp 14) (gdV (wt t10_2 true) x0) t14_3)).bind fun t15_5 =>
(gd (wt t10_2 true) (binV Try.prog .and 46 (.tmp 15) (.const (Go.Value.int Go.IntKind.u64 1)) t15_5 (Go.Value.int Go.IntKind.u64 1))).bind fun t16_6 =>
(gd (wt t10_2 true) (binV Try.prog .eql 46 (.tmp 16) (.const (Go.Value.int Go.IntKind.u64 1)) t16_6 (Go.Value.int Go.IntKind.u64 1))).bind fun t17_7 =>
(pickV t10_2 t17_7 (Go.Value.bool Bool.false)).bind fun t18_8 =>
k .ret ⟨#[x0, x1, x2, x3, t18_8, x1, t6_0, t6_0, (gdV (wt t6_0 true) x1), t9_1, t10_2, t10_2, (gdV (wt t10_2 true) x0), (gdV (wt t10_2 true) x1), t14_3, t15_5, t16_6, t17_7, t18_8], h4⟩ := by kernel_rfl
theorem call114 (x0 x1 : Value) (h : Heap) : evC Try.prog 114 #[x0, x1] h = codeK Try.prog (evC Try.prog) loopL c114_0 ⟨#[x0, x1, undef, undef, undef, undef, undef, undef, undef, undef, undef, undef, undef, undef, undef, undef, undef, undef, undef], nm h⟩ (retK Try.f114 Try.prog h) :=
  (evC_call 114 Try.f114 c114_0 Try.func114 (by kernel_rfl) #[x0, x1] h).trans (by kernel_rfl)
theorem ret114 (x0 x1 x2 x3 x4 x5 x6 x7 x8 x9 x10 x11 x12 x13 x14 x15 x16 x17 x18 : Value) (h0 h : Heap) : retK Try.f114 Try.prog h0 .ret ⟨#[x0, x1, x2, x3, x4, x5, x6, x7, x8, x9, x10, x11, x12, x13, x14, x15, x16, x17, x18], h⟩ = fin h0 (some x4) h := by kernel_rfl
theorem retn114 (x0 x1 x2 x3 x4 x5 x6 x7 x8 x9 x10 x11 x12 x13 x14 x15 x16 x17 x18 : Value) (h0 h : Heap) : retK Try.f114 Try.prog h0 .normal ⟨#[x0, x1, x2, x3, x4, x5, x6, x7, x8, x9, x10, x11, x12, x13, x14, x15, x16, x17, x18], h⟩ = fin h0 (some x4) h := by kernel_rfl
end Go.Am
namespace Go.Am
open Go.Proofs
set_option maxRecDepth 100000
noncomputable def c29_0 : Code := bodyC Try.f29 []
noncomputable def c29_1 : Code := bodyC Try.f29 [true, true, false, true, false, false]
noncomputable def c29_2 : Code := bodyC Try.f29 [true, true, true]
theorem c29_0_eq {β : Type} (x0 x1 x2 x3 x4 x5 x6 x7 x8 x9 x10 x11 x12 x13 x14 x15 x16 x17 x18 x19 x20 x21 x22 x23 : Value) (h : Heap) (k : Ex → St → Option β) : codeK Try.prog (evC Try.prog) loopL c29_0 ⟨#[x0, x1, x2, x3, x4, x5, x6, x7, x8, x9, x10, x11, x12, x13, x14, x15, x16, x17, x18, x19, x20, x21, x22, x23], h⟩ k =
(lenV Try.prog 73 x0 h).bind fun t7_0 =>
loopK Try.prog (evC Try.prog) c29_1 ⟨#[x0, x1, (Go.Value.int Go.IntKind.u64 0), (Go.Value.int Go.IntKind.u64 0), x4, x5, x0, t7_0, (Go.Value.int Go.IntKind.i64 0), x9, x10, x11, x12, x13, x14, x15, x16, x17, x18, x19, x20, x21, x22, x23], h⟩ (blockK 0 (seqK Try.prog (evC Try.prog) c29_2 k)) := by kernel_rfl
theorem c29_1_eq {β : Type} (x0 x1 x2 x3 x4 x5 x6 x7 x8 x9 x10 x11 x12 x13 x14 x15 x16 x17 x18 x19 x20 x21 x22 x23 : Value) (h : Heap) (k : Ex → St → Option β) : codeK Try.prog (evC Try.prog) loopL c29_1 ⟨#[x0, x1, x2, x3, x4, x5, x6, x7, x8, x9, x10, x11, x12, x13, x14, x15, x16, x17, x18, x19, x20, x21, x22, x23], h⟩ k =
(binV Try.prog .lss 3 (.tmp 8) (.tmp 7) x8 x7).bind fun t9_1 =>
cnd t9_1 (
(indexAddrV Try.prog 73 x6 x8).bind fun t10_2 =>
(loadV Try.prog 3 t10_2 h).bind fun t11_3 =>
(binV Try.prog .geq 3 (.tmp 12) (.const (Go.Value.int Go.IntKind.i64 0)) t11_3 (Go.Value.int Go.IntKind.i64 0)).bind fun t13_4 =>
(gd (wt t13_4 true) (binV Try.prog .lss 3 (.tmp 15) (.const (Go.Value.int Go.IntKind.i64 64)) (gdV (wt t13_4 true) t11_3) (Go.Value.int Go.IntKind.i64 64))).bind fun t16_5 =>
(pickV t13_4 t16_5 (Go.Value.bool Bool.false)).bind fun t17_6 =>
cnd t17_6 (
(binV Try.prog .shl 47 (.const (Go.Value.int Go.IntKind.u64 1)) (.tmp 19) (Go.Value.int Go.IntKind.u64 1) t11_3).bind fun t20_7 =>
(binV Try.prog .or 47 (.tmp 18) (.tmp 20) x3 t20_7).bind fun t21_8 =>
(binV Try.prog .add 3 (.tmp 8) (.const (Go.Value.int Go.IntKind.i64 1)) x8 (Go.Value.int Go.IntKind.i64 1)).bind fun t22_9 =>
k .normal ⟨#[x0, x1, x2, t21_8, x4, t11_3, x6, x7, t22_9, t9_1, t10_2, t11_3, t11_3, t13_4, t13_4, (gdV (wt t13_4 true) t11_3), t16_5, t17_6, x3, t11_3, t20_7, t21_8, t22_9, x23], h⟩) (
(binV Try.prog .add 3 (.tmp 8) (.const (Go.Value.int Go.IntKind.i64 1)) x8 (Go.Value.int Go.IntKind.i64 1)).bind fun t22_10 =>
k .normal ⟨#[x0, x1, x2, x3, x4, t11_3, x6, x7, t22_10, t9_1, t10_2, t11_3, t11_3, t13_4, t13_4, (gdV (wt t13_4 true) t11_3), t16_5, t17_6, x18, x19, x20, x21, t22_10, x23], h⟩)) (
k (.exit 0) ⟨#[x0, x1, x2, x3, x4, x5, x6, x7, x8, t9_1, x10, x11, x12, x13, x14, x15, x16, x17, x18, x19, x20, x21, x22, x23], h⟩) := by kernel_rfl
theorem c29_2_eq {β : Type} (x0 x1 x2 x3 x4 x5 x6 x7 x8 x9 x10 x11 x12 x13 x14 x15 x16 x17 x18 x19 x20 x21 x22 x23 : Value) (h : Heap) (k : Ex → St → Option β) : codeK Try.prog (evC Try.prog) loopL c29_2 ⟨#[x0, x1, x2, x3, x4, x5, x6, x7, x8, x9, x10, x11, x12, x13, x14, x15, x16, x17, x18, x19, x20, x21, x22, x23], h⟩ k =
k .ret ⟨#[x0, x1, x3, x3, x4, x5, x6, x7, x8, x9, x10, x11, x12, x13, x14, x15, x16, x17, x18, x19, x20, x21, x22, x3], h⟩ := by kernel_rfl
theorem call29 (x0 : Value) (h : Heap) : evC Try.prog 29 #[x0] h = codeK Try.prog (evC Try.prog) loopL c29_0 ⟨#[x0, undef, undef, undef, undef, undef, undef, undef, undef, undef, undef, undef, undef, undef, undef, undef, undef, undef, undef, undef, undef, undef, undef, undef], nm h⟩ (retK Try.f29 Try.prog h) :=
  (evC_call 29 Try.f29 c29_0 Try.func29 (by kernel_rfl) #[x0] h).trans (by kernel_rfl)
theorem ret29 (x0 x1 x2 x3 x4 x5 x6 x7 x8 x9 x10 x11 x12 x13 x14 x15 x16 x17 x18 x19 x20 x21 x22 x23 : Value) (h0 h : Heap) : retK Try.f29 Try.prog h0 .ret ⟨#[x0, x1, x2, x3, x4, x5, x6, x7, x8, x9, x10, x11, x12, x13, x14, x15, x16, x17, x18, x19, x20, x21, x22, x23], h⟩ = fin h0 (some x2) h := by kernel_rfl
theorem retn29 (x0 x1 x2 x3 x4 x5 x6 x7 x8 x9 x10 x11 x12 x13 x14 x15 x16 x17 x18 x19 x20 x21 x22 x23 : Value) (h0 h : Heap) : retK Try.f29 Try.prog h0 .normal ⟨#[x0, x1, x2, x3, x4, x5, x6, x7, x8, x9, x10, x11, x12, x13, x14, x15, x16, x17, x18, x19, x20, x21, x22, x23], h⟩ = fin h0 (some x2) h := by kernel_rfl
end Go.Am
namespace Go.Am
open Go.Proofs
set_option maxRecDepth 100000
noncomputable def c80_0 : Code := bodyC Try.f80 []
theorem c80_0_eq {β : Type} (x0 x1 x2 x3 x4 x5 x6 x7 x8 : Value) (h : Heap) (k : Ex → St → Option β) : codeK Try.prog (evC Try.prog) loopL c80_0 ⟨#[x0, x1, x2, x3, x4, x5, x6, x7, x8], h⟩ k =
obH (builtinV Try.prog .max #[3, 3] #[x0, (Go.Value.int Go.IntKind.i64 0)] h) fun t4_0 h1 =>
obH (builtinV Try.prog .min #[3, 3] #[t4_0, (Go.Value.int Go.IntKind.i64 64)] h1) fun t5_2 h3 =>
(binV Try.prog .shl 47 (.const (Go.Value.int Go.IntKind.u64 1)) (.tmp 6) (Go.Value.int Go.IntKind.u64 1) t5_2).bind fun t7_4 =>
(binV Try.prog .sub 47 (.tmp 7) (.const (Go.Value.int Go.IntKind.u64 1)) t7_4 (Go.Value.int Go.IntKind.u64 1)).bind fun t8_5 =>
k .ret ⟨#[t5_2, x1, t8_5, x0, t4_0, t5_2, t5_2, t7_4, t8_5], h3⟩ := by kernel_rfl
theorem call80 (x0 : Value) (h : Heap) : evC Try.prog 80 #[x0] h = codeK Try.prog (evC Try.prog) loopL c80_0 ⟨#[x0, undef, undef, undef, undef, undef, undef, undef, undef], nm h⟩ (retK Try.f80 Try.prog h) :=
  (evC_call 80 Try.f80 c80_0 Try.func80 (by kernel_rfl) #[x0] h).trans (by kernel_rfl)
theorem ret80 (x0 x1 x2 x3 x4 x5 x6 x7 x8 : Value) (h0 h : Heap) : retK Try.f80 Try.prog h0 .ret ⟨#[x0, x1, x2, x3, x4, x5, x6, x7, x8], h⟩ = fin h0 (some x2) h := by kernel_rfl
theorem retn80 (x0 x1 x2 x3 x4 x5 x6 x7 x8 : Value) (h0 h : Heap) : retK Try.f80 Try.prog h0 .normal ⟨#[x0, x1, x2, x3, x4, x5, x6, x7, x8], h⟩ = fin h0 (some x2) h := by kernel_rfl
end Go.Am
namespace Go.Am
open Go.Proofs
set_option maxRecDepth 100000
noncomputable def c81_0 : Code := bodyC Try.f81 []
theorem c81_0_eq {β : Type} (x0 x1 x2 x3 x4 : Value) (h : Heap) (k : Ex → St → Option β) : codeK Try.prog (evC Try.prog) loopL c81_0 ⟨#[x0, x1, x2, x3, x4], h⟩ k =
obH (evC Try.prog 117 #[x0] h) fun t4_0 h1 =>
k .ret ⟨#[x0, x1, t4_0, x0, t4_0], h1⟩ := by kernel_rfl
theorem call81 (x0 : Value) (h : Heap) : evC Try.prog 81 #[x0] h = codeK Try.prog (evC Try.prog) loopL c81_0 ⟨#[x0, undef, undef, undef, undef], nm h⟩ (retK Try.f81 Try.prog h) :=
  (evC_call 81 Try.f81 c81_0 Try.func81 (by kernel_rfl) #[x0] h).trans (by kernel_rfl)
theorem ret81 (x0 x1 x2 x3 x4 : Value) (h0 h : Heap) : retK Try.f81 Try.prog h0 .ret ⟨#[x0, x1, x2, x3, x4], h⟩ = fin h0 (some x2) h := by kernel_rfl
theorem retn81 (x0 x1 x2 x3 x4 : Value) (h0 h : Heap) : retK Try.f81 Try.prog h0 .normal ⟨#[x0, x1, x2, x3, x4], h⟩ = fin h0 (some x2) h := by kernel_rfl
end Go.Am
namespace Go.Am
open Go.Proofs
set_option maxRecDepth 100000
noncomputable def c117_0 : Code := bodyC Try.f117 []
theorem c117_0_eq {β : Type} (x0 x1 x2 x3 x4 x5 x6 x7 x8 x9 x10 x11 x12 x13 x14 x15 x16 x17 x18 x19 x20 x21 x22 x23 x24 x25 x26 x27 x28 x29 x30 x31 x32 x33 x34 : Value) (h : Heap) (k : Ex → St → Option β) : codeK Try.prog (evC Try.prog) loopL c117_0 ⟨#[x0, x1, x2, x3, x4, x5, x6, x7, x8, x9, x10, x11, x12, x13, x14, x15, x16, x17, x18, x19, x20, x21, x22, x23, x24, x25, x26, x27, x28, x29, x30, x31, x32, x33, x34], h⟩ k =
(binV Try.prog .shr 46 (.tmp 3) (.const (Go.Value.int Go.IntKind.u64 1)) x0 (Go.Value.int Go.IntKind.u64 1)).bind fun t4_0 =>
(binV Try.prog .and 46 (.tmp 4) (.const (Go.Value.int Go.IntKind.u64 6148914691236517205)) t4_0 (Go.Value.int Go.IntKind.u64 6148914691236517205)).bind fun t5_1 =>
(binV Try.prog .and 46 (.tmp 6) (.const (Go.Value.int Go.IntKind.u64 6148914691236517205)) x0 (Go.Value.int Go.IntKind.u64 6148914691236517205)).bind fun t7_2 =>
(binV Try.prog .add 46 (.tmp 5) (.tmp 7) t5_1 t7_2).bind fun t8_3 =>
(binV Try.prog .shr 46 (.tmp 9) (.const (Go.Value.int Go.IntKind.u64 2)) t8_3 (Go.Value.int Go.IntKind.u64 2)).bind fun t10_4 =>
(binV Try.prog .and 46 (.tmp 10) (.const (Go.Value.int Go.IntKind.u64 3689348814741910323)) t10_4 (Go.Value.int Go.IntKind.u64 3689348814741910323)).bind fun t11_5 =>
(binV Try.prog .and 46 (.tmp 12) (.const (Go.Value.int Go.IntKind.u64 3689348814741910323)) t8_3 (Go.Value.int Go.IntKind.u64 3689348814741910323)).bind fun t13_6 =>
(binV Try.prog .add 46 (.tmp 11) (.tmp 13) t11_5 t13_6).bind fun t14_7 =>
(binV Try.prog .shr 46 (.tmp 15) (.const (Go.Value.int Go.IntKind.u64 4)) t14_7 (Go.Value.int Go.IntKind.u64 4)).bind fun t16_8 =>
(binV Try.prog .add 46 (.tmp 16) (.tmp 17) t16_8 t14_7).bind fun t18_9 =>
(binV Try.prog .and 46 (.tmp 18) (.const (Go.Value.int Go.IntKind.u64 1085102592571150095)) t18_9 (Go.Value.int Go.IntKind.u64 1085102592571150095)).bind fun t19_10 =>
(binV Try.prog .shr 46 (.tmp 21) (.const (Go.Value.int Go.IntKind.u64 8)) t19_10 (Go.Value.int Go.IntKind.u64 8)).bind fun t22_11 =>
(binV Try.prog .add 46 (.tmp 20) (.tmp 22) t19_10 t22_11).bind fun t23_12 =>
(binV Try.prog .shr 46 (.tmp 25) (.const (Go.Value.int Go.IntKind.u64 16)) t23_12 (Go.Value.int Go.IntKind.u64 16)).bind fun t26_13 =>
(binV Try.prog .add 46 (.tmp 24) (.tmp 26) t23_12 t26_13).bind fun t27_14 =>
(binV Try.prog .shr 46 (.tmp 29) (.const (Go.Value.int Go.IntKind.u64 32)) t27_14 (Go.Value.int Go.IntKind.u64 32)).bind fun t30_15 =>
(binV Try.prog .add 46 (.tmp 28) (.tmp 30) t27_14 t30_15).bind fun t31_16 =>
obH (convV Try.prog 46 3 t31_16 h) fun t33_17 h18 =>
(binV Try.prog .and 3 (.tmp 33) (.const (Go.Value.int Go.IntKind.i64 127)) t33_17 (Go.Value.int Go.IntKind.i64 127)).bind fun t34_19 =>
k .ret ⟨#[t31_16, x1, t34_19, x0, t4_0, t5_1, x0, t7_2, t8_3, t8_3, t10_4, t11_5, t8_3, t13_6, t14_7, t14_7, t16_8, t14_7, t18_9, t19_10, t19_10, t19_10, t22_11, t23_12, t23_12, t23_12, t26_13, t27_14, t27_14, t27_14, t30_15, t31_16, t31_16, t33_17, t34_19], h18⟩ := by kernel_rfl
theorem call117 (x0 : Value) (h : Heap) : evC Try.prog 117 #[x0] h = codeK Try.prog (evC Try.prog) loopL c117_0 ⟨#[x0, undef, undef, undef, undef, undef, undef, undef, undef, undef, undef, undef, undef, undef, undef, undef, undef, undef, undef, undef, undef, undef, undef, undef, undef, undef, undef, undef, undef, undef, undef, undef, undef, undef, undef], nm h⟩ (retK Try.f117 Try.prog h) :=
  (evC_call 117 Try.f117 c117_0 Try.func117 (by kernel_rfl) #[x0] h).trans (by kernel_rfl)
theorem ret117 (x0 x1 x2 x3 x4 x5 x6 x7 x8 x9 x10 x11 x12 x13 x14 x15 x16 x17 x18 x19 x20 x21 x22 x23 x24 x25 x26 x27 x28 x29 x30 x31 x32 x33 x34 : Value) (h0 h : Heap) : retK Try.f117 Try.prog h0 .ret ⟨#[x0, x1, x2, x3, x4, x5, x6, x7, x8, x9, x10, x11, x12, x13, x14, x15, x16, x17, x18, x19, x20, x21, x22, x23, x24, x25, x26, x27, x28, x29, x30, x31, x32, x33, x34], h⟩ = fin h0 (some x2) h := by kernel_rfl
theorem retn117 (x0 x1 x2 x3 x4 x5 x6 x7 x8 x9 x10 x11 x12 x13 x14 x15 x16 x17 x18 x19 x20 x21 x22 x23 x24 x25 x26 x27 x28 x29 x30 x31 x32 x33 x34 : Value) (h0 h : Heap) : retK Try.f117 Try.prog h0 .normal ⟨#[x0, x1, x2, x3, x4, x5, x6, x7, x8, x9, x10, x11, x12, x13, x14, x15, x16, x17, x18, x19, x20, x21, x22, x23, x24, x25, x26, x27, x28, x29, x30, x31, x32, x33, x34], h⟩ = fin h0 (some x2) h := by kernel_rfl
end Go.Am
namespace Go.Am
open Go.Proofs
set_option maxRecDepth 100000
noncomputable def c124_0 : Code := bodyC Try.f124 []
noncomputable def c124_1 : Code := bodyC Try.f124 [true, true, false, false, false]
noncomputable def c124_2 : Code := bodyC Try.f124 [true, true, true]
theorem c124_0_eq {β : Type} (x0 x1 x2 x3 x4 x5 x6 x7 x8 x9 x10 : Value) (h : Heap) (k : Ex → St → Option β) : codeK Try.prog (evC Try.prog) loopL c124_0 ⟨#[x0, x1, x2, x3, x4, x5, x6, x7, x8, x9, x10], h⟩ k =
loopK Try.prog (evC Try.prog) c124_1 ⟨#[x0, x1, (Go.Value.int Go.IntKind.i64 0), (Go.Value.int Go.IntKind.i64 1), x4, x5, x6, x7, x8, x9, x10], h⟩ (blockK 0 (seqK Try.prog (evC Try.prog) c124_2 k)) := by kernel_rfl
theorem c124_1_eq {β : Type} (x0 x1 x2 x3 x4 x5 x6 x7 x8 x9 x10 : Value) (h : Heap) (k : Ex → St → Option β) : codeK Try.prog (evC Try.prog) loopL c124_1 ⟨#[x0, x1, x2, x3, x4, x5, x6, x7, x8, x9, x10], h⟩ k =
(binV Try.prog .geq 46 (.tmp 4) (.const (Go.Value.int Go.IntKind.u64 128)) x0 (Go.Value.int Go.IntKind.u64 128)).bind fun t5_0 =>
cnd t5_0 (
(binV Try.prog .shr 46 (.tmp 6) (.const (Go.Value.int Go.IntKind.u64 7)) x0 (Go.Value.int Go.IntKind.u64 7)).bind fun t7_1 =>
(binV Try.prog .add 3 (.tmp 8) (.const (Go.Value.int Go.IntKind.i64 1)) x3 (Go.Value.int Go.IntKind.i64 1)).bind fun t9_2 =>
k .normal ⟨#[t7_1, x1, x2, t9_2, x0, t5_0, x0, t7_1, x3, t9_2, x10], h⟩) (
k (.exit 0) ⟨#[x0, x1, x2, x3, x0, t5_0, x6, x7, x8, x9, x10], h⟩) := by kernel_rfl
theorem c124_2_eq {β : Type} (x0 x1 x2 x3 x4 x5 x6 x7 x8 x9 x10 : Value) (h : Heap) (k : Ex → St → Option β) : codeK Try.prog (evC Try.prog) loopL c124_2 ⟨#[x0, x1, x2, x3, x4, x5, x6, x7, x8, x9, x10], h⟩ k =
k .ret ⟨#[x0, x1, x3, x3, x4, x5, x6, x7, x8, x9, x3], h⟩ := by kernel_rfl
theorem call124 (x0 : Value) (h : Heap) : evC Try.prog 124 #[x0] h = codeK Try.prog (evC Try.prog) loopL c124_0 ⟨#[x0, undef, undef, undef, undef, undef, undef, undef, undef, undef, undef], nm h⟩ (retK Try.f124 Try.prog h) :=
  (evC_call 124 Try.f124 c124_0 Try.func124 (by kernel_rfl) #[x0] h).trans (by kernel_rfl)
theorem ret124 (x0 x1 x2 x3 x4 x5 x6 x7 x8 x9 x10 : Value) (h0 h : Heap) : retK Try.f124 Try.prog h0 .ret ⟨#[x0, x1, x2, x3, x4, x5, x6, x7, x8, x9, x10], h⟩ = fin h0 (some x2) h := by kernel_rfl
theorem retn124 (x0 x1 x2 x3 x4 x5 x6 x7 x8 x9 x10 : Value) (h0 h : Heap) : retK Try.f124 Try.prog h0 .normal ⟨#[x0, x1, x2, x3, x4, x5, x6, x7, x8, x9, x10], h⟩ = fin h0 (some x2) h := by kernel_rfl
end Go.Am
namespace Go.Am
open Go.Proofs
set_option maxRecDepth 100000
noncomputable def c94_0 : Code := bodyC Try.f94 []
noncomputable def c94_1 : Code := bodyC Try.f94 [true, true, false, false, false]
noncomputable def c94_2 : Code := bodyC Try.f94 [true, true, true]
theorem c94_0_eq {β : Type} (x0 x1 x2 x3 x4 x5 x6 x7 x8 x9 x10 x11 x12 x13 x14 x15 x16 x17 x18 x19 x20 x21 x22 : Value) (h : Heap) (k : Ex → St → Option β) : codeK Try.prog (evC Try.prog) loopL c94_0 ⟨#[x0, x1, x2, x3, x4, x5, x6, x7, x8, x9, x10, x11, x12, x13, x14, x15, x16, x17, x18, x19, x20, x21, x22], h⟩ k =
obH (appendV Try.prog 23 (some 23) (Go.Value.slice Option.none 0 0) x0 h) fun t7_0 h1 =>
loopK Try.prog (evC Try.prog) c94_1 ⟨#[x0, x1, x2, x3, (Go.Value.slice Option.none 0 0), t7_0, x0, t7_0, x8, x9, x10, x11, x12, x13, x14, x15, x16, x17, x18, x19, x20, x21, x22], h1⟩ (blockK 0 (seqK Try.prog (evC Try.prog) c94_2 k)) := by kernel_rfl
theorem c94_1_eq {β : Type} (x0 x1 x2 x3 x4 x5 x6 x7 x8 x9 x10 x11 x12 x13 x14 x15 x16 x17 x18 x19 x20 x21 x22 : Value) (h : Heap) (k : Ex → St → Option β) : codeK Try.prog (evC Try.prog) loopL c94_1 ⟨#[x0, x1, x2, x3, x4, x5, x6, x7, x8, x9, x10, x11, x12, x13, x14, x15, x16, x17, x18, x19, x20, x21, x22], h⟩ k =
(binV Try.prog .geq 46 (.tmp 8) (.const (Go.Value.int Go.IntKind.u64 128)) x1 (Go.Value.int Go.IntKind.u64 128)).bind fun t9_2 =>
cnd t9_2 (
obH (convV Try.prog 46 5 x1 h) fun t12_3 h4 =>
(binV Try.prog .or 5 (.tmp 12) (.const (Go.Value.int Go.IntKind.u8 128)) t12_3 (Go.Value.int Go.IntKind.u8 128)).bind fun t13_5 =>
obH (buildSliceV Try.prog 23 1 #[(0, t13_5)] h4) fun t14_6 h7 =>
obH (appendV Try.prog 23 (some 23) x5 t14_6 h7) fun t15_8 h9 =>
(binV Try.prog .shr 46 (.tmp 16) (.const (Go.Value.int Go.IntKind.u64 7)) x1 (Go.Value.int Go.IntKind.u64 7)).bind fun t17_10 =>
k .normal ⟨#[x0, t17_10, x2, x3, x4, t15_8, x6, x7, x1, t9_2, x5, x1, t12_3, t13_5, t14_6, t15_8, x1, t17_10, x18, x19, x20, x21, x22], h9⟩) (
k (.exit 0) ⟨#[x0, x1, x2, x3, x4, x5, x6, x7, x1, t9_2, x10, x11, x12, x13, x14, x15, x16, x17, x18, x19, x20, x21, x22], h⟩) := by kernel_rfl
theorem c94_2_eq {β : Type} (x0 x1 x2 x3 x4 x5 x6 x7 x8 x9 x10 x11 x12 x13 x14 x15 x16 x17 x18 x19 x20 x21 x22 : Value) (h : Heap) (k : Ex → St → Option β) : codeK Try.prog (evC Try.prog) loopL c94_2 ⟨#[x0, x1, x2, x3, x4, x5, x6, x7, x8, x9, x10, x11, x12, x13, x14, x15, x16, x17, x18, x19, x20, x21, x22], h⟩ k =
obH (convV Try.prog 46 5 x1 h) fun t20_11 h12 =>
obH (buildSliceV Try.prog 23 1 #[(0, t20_11)] h12) fun t21_13 h14 =>
obH (appendV Try.prog 23 (some 23) x5 t21_13 h14) fun t22_15 h16 =>
k .ret ⟨#[x0, x1, x2, x3, t22_15, x5, x6, x7, x8, x9, x10, x11, x12, x13, x14, x15, x16, x17, x5, x1, t20_11, t21_13, t22_15], h16⟩ := by kernel_rfl
theorem call94 (x0 x1 : Value) (h : Heap) : evC Try.prog 94 #[x0, x1] h = codeK Try.prog (evC Try.prog) loopL c94_0 ⟨#[x0, x1, undef, undef, undef, undef, undef, undef, undef, undef, undef, undef, undef, undef, undef, undef, undef, undef, undef, undef, undef, undef, undef], nm h⟩ (retK Try.f94 Try.prog h) :=
  (evC_call 94 Try.f94 c94_0 Try.func94 (by kernel_rfl) #[x0, x1] h).trans (by kernel_rfl)
theorem ret94 (x0 x1 x2 x3 x4 x5 x6 x7 x8 x9 x10 x11 x12 x13 x14 x15 x16 x17 x18 x19 x20 x21 x22 : Value) (h0 h : Heap) : retK Try.f94 Try.prog h0 .ret ⟨#[x0, x1, x2, x3, x4, x5, x6, x7, x8, x9, x10, x11, x12, x13, x14, x15, x16, x17, x18, x19, x20, x21, x22], h⟩ = fin h0 (some x4) h := by kernel_rfl
theorem retn94 (x0 x1 x2 x3 x4 x5 x6 x7 x8 x9 x10 x11 x12 x13 x14 x15 x16 x17 x18 x19 x20 x21 x22 : Value) (h0 h : Heap) : retK Try.f94 Try.prog h0 .normal ⟨#[x0, x1, x2, x3, x4, x5, x6, x7, x8, x9, x10, x11, x12, x13, x14, x15, x16, x17, x18, x19, x20, x21, x22], h⟩ = fin h0 (some x4) h := by kernel_rfl
end Go.Am
namespace Go.Am
open Go.Proofs
set_option maxRecDepth 100000
noncomputable def c96_0 : Code := bodyC Try.f96 []
noncomputable def c96_1 : Code := bodyC Try.f96 [true, false, true, false, false]
noncomputable def c96_2 : Code := bodyC Try.f96 [true, true]
theorem c96_0_eq {β : Type} (x0 x1 x2 x3 x4 x5 x6 x7 x8 x9 x10 x11 x12 x13 x14 x15 x16 x17 x18 x19 x20 x21 x22 x23 x24 x25 x26 x27 x28 x29 x30 x31 x32 x33 x34 x35 x36 x37 x38 x39 x40 x41 : Value) (h : Heap) (k : Ex → St → Option β) : codeK Try.prog (evC Try.prog) loopL c96_0 ⟨#[x0, x1, x2, x3, x4, x5, x6, x7, x8, x9, x10, x11, x12, x13, x14, x15, x16, x17, x18, x19, x20, x21, x22, x23, x24, x25, x26, x27, x28, x29, x30, x31, x32, x33, x34, x35, x36, x37, x38, x39, x40, x41], h⟩ k =
(lenV Try.prog 23 x0 h).bind fun t7_0 =>
loopK Try.prog (evC Try.prog) c96_1 ⟨#[x0, x1, (Go.Value.int Go.IntKind.u64 0), (Go.Value.int Go.IntKind.i64 0), x4, x5, x0, t7_0, (Go.Value.int Go.IntKind.i64 0), x9, x10, x11, x12, x13, x14, x15, x16, x17, x18, x19, x20, x21, x22, x23, x24, x25, x26, x27, x28, x29, x30, x31, x32, x33, x34, x35, x36, x37, x38, x39, x40, x41], h⟩ (blockK 0 (seqK Try.prog (evC Try.prog) c96_2 k)) := by kernel_rfl
theorem c96_1_eq {β : Type} (x0 x1 x2 x3 x4 x5 x6 x7 x8 x9 x10 x11 x12 x13 x14 x15 x16 x17 x18 x19 x20 x21 x22 x23 x24 x25 x26 x27 x28 x29 x30 x31 x32 x33 x34 x35 x36 x37 x38 x39 x40 x41 : Value) (h : Heap) (k : Ex → St → Option β) : codeK Try.prog (evC Try.prog) loopL c96_1 ⟨#[x0, x1, x2, x3, x4, x5, x6, x7, x8, x9, x10, x11, x12, x13, x14, x15, x16, x17, x18, x19, x20, x21, x22, x23, x24, x25, x26, x27, x28, x29, x30, x31, x32, x33, x34, x35, x36, x37, x38, x39, x40, x41], h⟩ k =
(binV Try.prog .lss 3 (.tmp 8) (.tmp 7) x8 x7).bind fun t9_1 =>
cnd t9_1 (
(indexAddrV Try.prog 23 x6 x8).bind fun t11_2 =>
(loadV Try.prog 5 t11_2 h).bind fun t12_3 =>
(binV Try.prog .eql 3 (.tmp 13) (.const (Go.Value.int Go.IntKind.i64 10)) x8 (Go.Value.int Go.IntKind.i64 10)).bind fun t14_4 =>
cnd t14_4 (
k (.exit 0) ⟨#[x0, x1, x2, x3, x8, t12_3, x6, x7, x8, t9_1, x8, t11_2, t12_3, x8, t14_4, x15, x16, x17, x18, x19, x20, x21, x22, x23, x24, x25, x26, x27, x28, x29, x30, x31, x32, x33, x34, x35, x36, x37, x38, x39, x40, x41], h⟩) (
(binV Try.prog .and 5 (.tmp 16) (.const (Go.Value.int Go.IntKind.u8 127)) t12_3 (Go.Value.int Go.IntKind.u8 127)).bind fun t17_5 =>
obH (convV Try.prog 5 46 t17_5 h) fun t18_6 h7 =>
(binV Try.prog .mul 3 (.const (Go.Value.int Go.IntKind.i64 7)) (.tmp 19) (Go.Value.int Go.IntKind.i64 7) x8).bind fun t20_8 =>
(binV Try.prog .shl 46 (.tmp 18) (.tmp 20) t18_6 t20_8).bind fun t21_9 =>
(binV Try.prog .or 46 (.tmp 15) (.tmp 21) x2 t21_9).bind fun t22_10 =>
(binV Try.prog .lss 5 (.tmp 23) (.const (Go.Value.int Go.IntKind.u8 128)) t12_3 (Go.Value.int Go.IntKind.u8 128)).bind fun t24_11 =>
cnd t24_11 (
obH (evC Try.prog 124 #[t22_10] h7) fun t26_12 h13 =>
(binV Try.prog .add 3 (.tmp 27) (.const (Go.Value.int Go.IntKind.i64 1)) x8 (Go.Value.int Go.IntKind.i64 1)).bind fun t28_14 =>
(binV Try.prog .neq 3 (.tmp 26) (.tmp 28) t26_12 t28_14).bind fun t29_15 =>
(gd (wt t29_15 false) (binV Try.prog .eql 3 (.tmp 31) (.const (Go.Value.int Go.IntKind.i64 9)) (gdV (wt t29_15 false) x8) (Go.Value.int Go.IntKind.i64 9))).bind fun t32_16 =>
(gd (wt (gdV (wt t29_15 false) t32_16) true) (binV Try.prog .gtr 5 (.tmp 34) (.const (Go.Value.int Go.IntKind.u8 1)) (gdV (wt (gdV (wt t29_15 false) t32_16) true) t12_3) (Go.Value.int Go.IntKind.u8 1))).bind fun t35_17 =>
(gd (wt t29_15 false) (pickV (gdV (wt t29_15 false) t32_16) t35_17 (Go.Value.bool Bool.false))).bind fun t36_18 =>
(pickV t29_15 (Go.Value.bool Bool.true) t36_18).bind fun t37_19 =>
cnd t37_19 (
k (.exit 0) ⟨#[x0, x1, t22_10, x3, x8, t12_3, x6, x7, x8, t9_1, x8, t11_2, t12_3, x8, t14_4, x2, t12_3, t17_5, t18_6, x8, t20_8, t21_9, t22_10, t12_3, t24_11, t22_10, t26_12, x8, t28_14, t29_15, t29_15, (gdV (wt t29_15 false) x8), t32_16, (gdV (wt t29_15 false) t32_16), (gdV (wt (gdV (wt t29_15 false) t32_16) true) t12_3), t35_17, t36_18, t37_19, x38, x39, x40, x41], h13⟩) (
(binV Try.prog .add 3 (.tmp 39) (.const (Go.Value.int Go.IntKind.i64 1)) x8 (Go.Value.int Go.IntKind.i64 1)).bind fun t40_20 =>
k .ret ⟨#[x0, x1, t22_10, t40_20, x8, t12_3, x6, x7, x8, t9_1, x8, t11_2, t12_3, x8, t14_4, x2, t12_3, t17_5, t18_6, x8, t20_8, t21_9, t22_10, t12_3, t24_11, t22_10, t26_12, x8, t28_14, t29_15, t29_15, (gdV (wt t29_15 false) x8), t32_16, (gdV (wt t29_15 false) t32_16), (gdV (wt (gdV (wt t29_15 false) t32_16) true) t12_3), t35_17, t36_18, t37_19, t22_10, x8, t40_20, x41], h13⟩)) (
(binV Try.prog .add 3 (.tmp 8) (.const (Go.Value.int Go.IntKind.i64 1)) x8 (Go.Value.int Go.IntKind.i64 1)).bind fun t41_21 =>
k .normal ⟨#[x0, x1, t22_10, x3, x8, t12_3, x6, x7, t41_21, t9_1, x8, t11_2, t12_3, x8, t14_4, x2, t12_3, t17_5, t18_6, x8, t20_8, t21_9, t22_10, t12_3, t24_11, x25, x26, x27, x28, x29, x30, x31, x32, x33, x34, x35, x36, x37, x38, x39, x40, t41_21], h7⟩))) (
k (.exit 0) ⟨#[x0, x1, x2, x3, x4, x5, x6, x7, x8, t9_1, x10, x11, x12, x13, x14, x15, x16, x17, x18, x19, x20, x21, x22, x23, x24, x25, x26, x27, x28, x29, x30, x31, x32, x33, x34, x35, x36, x37, x38, x39, x40, x41], h⟩) := by kernel_rfl
theorem c96_2_eq {β : Type} (x0 x1 x2 x3 x4 x5 x6 x7 x8 x9 x10 x11 x12 x13 x14 x15 x16 x17 x18 x19 x20 x21 x22 x23 x24 x25 x26 x27 x28 x29 x30 x31 x32 x33 x34 x35 x36 x37 x38 x39 x40 x41 : Value) (h : Heap) (k : Ex → St → Option β) : codeK Try.prog (evC Try.prog) loopL c96_2 ⟨#[x0, x1, x2, x3, x4, x5, x6, x7, x8, x9, x10, x11, x12, x13, x14, x15, x16, x17, x18, x19, x20, x21, x22, x23, x24, x25, x26, x27, x28, x29, x30, x31, x32, x33, x34, x35, x36, x37, x38, x39, x40, x41], h⟩ k =
k .ret ⟨#[x0, x1, (Go.Value.int Go.IntKind.u64 0), (Go.Value.int Go.IntKind.i64 0), x4, x5, x6, x7, x8, x9, x10, x11, x12, x13, x14, x15, x16, x17, x18, x19, x20, x21, x22, x23, x24, x25, x26, x27, x28, x29, x30, x31, x32, x33, x34, x35, x36, x37, x38, x39, x40, x41], h⟩ := by kernel_rfl
theorem call96 (x0 : Value) (h : Heap) : evC Try.prog 96 #[x0] h = codeK Try.prog (evC Try.prog) loopL c96_0 ⟨#[x0, undef, undef, undef, undef, undef, undef, undef, undef, undef, undef, undef, undef, undef, undef, undef, undef, undef, undef, undef, undef, undef, undef, undef, undef, undef, undef, undef, undef, undef, undef, undef, undef, undef, undef, undef, undef, undef, undef, undef, undef, undef], nm h⟩ (retK Try.f96 Try.prog h) :=
  (evC_call 96 Try.f96 c96_0 Try.func96 (by kernel_rfl) #[x0] h).trans (by kernel_rfl)
theorem ret96 (x0 x1 x2 x3 x4 x5 x6 x7 x8 x9 x10 x11 x12 x13 x14 x15 x16 x17 x18 x19 x20 x21 x22 x23 x24 x25 x26 x27 x28 x29 x30 x31 x32 x33 x34 x35 x36 x37 x38 x39 x40 x41 : Value) (h0 h : Heap) : retK Try.f96 Try.prog h0 .ret ⟨#[x0, x1, x2, x3, x4, x5, x6, x7, x8, x9, x10, x11, x12, x13, x14, x15, x16, x17, x18, x19, x20, x21, x22, x23, x24, x25, x26, x27, x28, x29, x30, x31, x32, x33, x34, x35, x36, x37, x38, x39, x40, x41], h⟩ = fin h0 (some (.tuple #[x2, x3])) h := by kernel_rfl
theorem retn96 (x0 x1 x2 x3 x4 x5 x6 x7 x8 x9 x10 x11 x12 x13 x14 x15 x16 x17 x18 x19 x20 x21 x22 x23 x24 x25 x26 x27 x28 x29 x30 x31 x32 x33 x34 x35 x36 x37 x38 x39 x40 x41 : Value) (h0 h : Heap) : retK Try.f96 Try.prog h0 .normal ⟨#[x0, x1, x2, x3, x4, x5, x6, x7, x8, x9, x10, x11, x12, x13, x14, x15, x16, x17, x18, x19, x20, x21, x22, x23, x24, x25, x26, x27, x28, x29, x30, x31, x32, x33, x34, x35, x36, x37, x38, x39, x40, x41], h⟩ = fin h0 (some (.tuple #[x2, x3])) h := by kernel_rfl
end Go.Am
namespace Go.Am
open Go.Proofs
set_option maxRecDepth 100000
noncomputable def c95_0 : Code := bodyC Try.f95 []
theorem c95_0_eq {β : Type} (x0 x1 x2 x3 x4 x5 x6 x7 : Value) (h : Heap) (k : Ex → St → Option β) : codeK Try.prog (evC Try.prog) loopL c95_0 ⟨#[x0, x1, x2, x3, x4, x5, x6, x7], h⟩ k =
(binV Try.prog .eql 23 (.tmp 3) (.const (Go.Value.slice Option.none 0 0)) x0 (Go.Value.slice Option.none 0 0)).bind fun t4_0 =>
cnd t4_0 (
k .ret ⟨#[x0, x1, (Go.Value.slice Option.none 0 0), x0, t4_0, x5, x6, x7], h⟩) (
obH (buildSliceV Try.prog 23 0 #[] h) fun t5_1 h2 =>
obH (appendV Try.prog 23 (some 23) t5_1 x0 h2) fun t7_3 h4 =>
k .ret ⟨#[x0, x1, t7_3, x0, t4_0, t5_1, x0, t7_3], h4⟩) := by kernel_rfl
theorem call95 (x0 : Value) (h : Heap) : evC Try.prog 95 #[x0] h = codeK Try.prog (evC Try.prog) loopL c95_0 ⟨#[x0, undef, undef, undef, undef, undef, undef, undef], nm h⟩ (retK Try.f95 Try.prog h) :=
  (evC_call 95 Try.f95 c95_0 Try.func95 (by kernel_rfl) #[x0] h).trans (by kernel_rfl)
theorem ret95 (x0 x1 x2 x3 x4 x5 x6 x7 : Value) (h0 h : Heap) : retK Try.f95 Try.prog h0 .ret ⟨#[x0, x1, x2, x3, x4, x5, x6, x7], h⟩ = fin h0 (some x2) h := by kernel_rfl
theorem retn95 (x0 x1 x2 x3 x4 x5 x6 x7 : Value) (h0 h : Heap) : retK Try.f95 Try.prog h0 .normal ⟨#[x0, x1, x2, x3, x4, x5, x6, x7], h⟩ = fin h0 (some x2) h := by kernel_rfl
end Go.Am
namespace Go.Am
open Go.Proofs
set_option maxRecDepth 100000
noncomputable def c105_0 : Code := bodyC Try.f105 []
theorem c105_0_eq {β : Type} (x0 x1 x2 x3 x4 x5 x6 x7 x8 x9 x10 x11 x12 x13 x14 x15 x16 : Value) (h : Heap) (k : Ex → St → Option β) : codeK Try.prog (evC Try.prog) loopL c105_0 ⟨#[x0, x1, x2, x3, x4, x5, x6, x7, x8, x9, x10, x11, x12, x13, x14, x15, x16], h⟩ k =
obH (callV Try.prog (evC Try.prog) (.func (.func 109) #[] #[]) #[x0] h) fun t5_0 h1 =>
obH (evC Try.prog 125 #[x0] h1) fun t8_2 h3 =>
cnd t8_2 (
k .ret ⟨#[x0, x1, (Go.Value.int Go.IntKind.u64 18446744073709551615), t5_0, x0, t5_0, t8_2, x0, t8_2, x9, x10, x11, x12, x13, x14, x15, x16], h3⟩) (
(binV Try.prog .and 46 (.tmp 10) (.const (Go.Value.int Go.IntKind.u64 9223372036854775808)) t5_0 (Go.Value.int Go.IntKind.u64 9223372036854775808)).bind fun t11_4 =>
(binV Try.prog .eql 46 (.tmp 11) (.const (Go.Value.int Go.IntKind.u64 0)) t11_4 (Go.Value.int Go.IntKind.u64 0)).bind fun t12_5 =>
cnd t12_5 (
(binV Try.prog .or 46 (.tmp 13) (.const (Go.Value.int Go.IntKind.u64 9223372036854775808)) t5_0 (Go.Value.int Go.IntKind.u64 9223372036854775808)).bind fun t14_6 =>
k .ret ⟨#[x0, x1, t14_6, t5_0, x0, t5_0, t8_2, x0, t8_2, t12_5, t5_0, t11_4, t12_5, t5_0, t14_6, x15, x16], h3⟩) (
(unV Try.prog .xor t5_0).bind fun t16_7 =>
k .ret ⟨#[x0, x1, t16_7, t5_0, x0, t5_0, t8_2, x0, t8_2, t12_5, t5_0, t11_4, t12_5, x13, x14, t5_0, t16_7], h3⟩)) := by kernel_rfl
theorem call105 (x0 : Value) (h : Heap) : evC Try.prog 105 #[x0] h = codeK Try.prog (evC Try.prog) loopL c105_0 ⟨#[x0, undef, undef, undef, undef, undef, undef, undef, undef, undef, undef, undef, undef, undef, undef, undef, undef], nm h⟩ (retK Try.f105 Try.prog h) :=
  (evC_call 105 Try.f105 c105_0 Try.func105 (by kernel_rfl) #[x0] h).trans (by kernel_rfl)
theorem ret105 (x0 x1 x2 x3 x4 x5 x6 x7 x8 x9 x10 x11 x12 x13 x14 x15 x16 : Value) (h0 h : Heap) : retK Try.f105 Try.prog h0 .ret ⟨#[x0, x1, x2, x3, x4, x5, x6, x7, x8, x9, x10, x11, x12, x13, x14, x15, x16], h⟩ = fin h0 (some x2) h := by kernel_rfl
theorem retn105 (x0 x1 x2 x3 x4 x5 x6 x7 x8 x9 x10 x11 x12 x13 x14 x15 x16 : Value) (h0 h : Heap) : retK Try.f105 Try.prog h0 .normal ⟨#[x0, x1, x2, x3, x4, x5, x6, x7, x8, x9, x10, x11, x12, x13, x14, x15, x16], h⟩ = fin h0 (some x2) h := by kernel_rfl
end Go.Am
namespace Go.Am
open Go.Proofs
set_option maxRecDepth 100000
noncomputable def c103_0 : Code := bodyC Try.f103 []
theorem c103_0_eq {β : Type} (x0 x1 x2 x3 x4 x5 x6 x7 x8 x9 x10 x11 x12 x13 x14 x15 x16 x17 x18 x19 x20 : Value) (h : Heap) (k : Ex → St → Option β) : codeK Try.prog (evC Try.prog) loopL c103_0 ⟨#[x0, x1, x2, x3, x4, x5, x6, x7, x8, x9, x10, x11, x12, x13, x14, x15, x16, x17, x18, x19, x20], h⟩ k =
(binV Try.prog .eql 46 (.tmp 6) (.const (Go.Value.int Go.IntKind.u64 18446744073709551615)) x0 (Go.Value.int Go.IntKind.u64 18446744073709551615)).bind fun t7_0 =>
cnd t7_0 (
obH (evC Try.prog 76 #[] h) fun t8_1 h2 =>
k .ret ⟨#[x0, x1, t8_1, (Go.Value.bool Bool.true), x4, x5, x0, t7_0, t8_1, x9, x10, x11, x12, x13, x14, x15, x16, x17, x18, x19, x20], h2⟩) (
(unV Try.prog .xor x0).bind fun t10_3 =>
(binV Try.prog .and 46 (.tmp 11) (.const (Go.Value.int Go.IntKind.u64 9223372036854775808)) x0 (Go.Value.int Go.IntKind.u64 9223372036854775808)).bind fun t12_4 =>
(binV Try.prog .neq 46 (.tmp 12) (.const (Go.Value.int Go.IntKind.u64 0)) t12_4 (Go.Value.int Go.IntKind.u64 0)).bind fun t13_5 =>
cnd t13_5 (
(binV Try.prog .andNot 46 (.tmp 14) (.const (Go.Value.int Go.IntKind.u64 9223372036854775808)) x0 (Go.Value.int Go.IntKind.u64 9223372036854775808)).bind fun t15_6 =>
obH (callV Try.prog (evC Try.prog) (.func (.func 108) #[] #[]) #[t15_6] h) fun t17_7 h8 =>
obH (evC Try.prog 125 #[t17_7] h8) fun t19_9 h10 =>
cnd t19_9 (
k .ret ⟨#[x0, x1, (Go.Value.float Go.FloatKind.f64 0), (Go.Value.bool Bool.false), t15_6, t17_7, x0, t7_0, x8, x0, t10_3, x0, t12_4, t13_5, x0, t15_6, t15_6, t17_7, t17_7, t19_9, x20], h10⟩) (
k .ret ⟨#[x0, x1, t17_7, (Go.Value.bool Bool.true), t15_6, t17_7, x0, t7_0, x8, x0, t10_3, x0, t12_4, t13_5, x0, t15_6, t15_6, t17_7, t17_7, t19_9, t17_7], h10⟩)) (
obH (callV Try.prog (evC Try.prog) (.func (.func 108) #[] #[]) #[t10_3] h) fun t17_11 h12 =>
obH (evC Try.prog 125 #[t17_11] h12) fun t19_13 h14 =>
cnd t19_13 (
k .ret ⟨#[x0, x1, (Go.Value.float Go.FloatKind.f64 0), (Go.Value.bool Bool.false), t10_3, t17_11, x0, t7_0, x8, x0, t10_3, x0, t12_4, t13_5, x14, x15, t10_3, t17_11, t17_11, t19_13, x20], h14⟩) (
k .ret ⟨#[x0, x1, t17_11, (Go.Value.bool Bool.true), t10_3, t17_11, x0, t7_0, x8, x0, t10_3, x0, t12_4, t13_5, x14, x15, t10_3, t17_11, t17_11, t19_13, t17_11], h14⟩))) := by kernel_rfl
theorem call103 (x0 : Value) (h : Heap) : evC Try.prog 103 #[x0] h = codeK Try.prog (evC Try.prog) loopL c103_0 ⟨#[x0, undef, undef, undef, undef, undef, undef, undef, undef, undef, undef, undef, undef, undef, undef, undef, undef, undef, undef, undef, undef], nm h⟩ (retK Try.f103 Try.prog h) :=
  (evC_call 103 Try.f103 c103_0 Try.func103 (by kernel_rfl) #[x0] h).trans (by kernel_rfl)
theorem ret103 (x0 x1 x2 x3 x4 x5 x6 x7 x8 x9 x10 x11 x12 x13 x14 x15 x16 x17 x18 x19 x20 : Value) (h0 h : Heap) : retK Try.f103 Try.prog h0 .ret ⟨#[x0, x1, x2, x3, x4, x5, x6, x7, x8, x9, x10, x11, x12, x13, x14, x15, x16, x17, x18, x19, x20], h⟩ = fin h0 (some (.tuple #[x2, x3])) h := by kernel_rfl
theorem retn103 (x0 x1 x2 x3 x4 x5 x6 x7 x8 x9 x10 x11 x12 x13 x14 x15 x16 x17 x18 x19 x20 : Value) (h0 h : Heap) : retK Try.f103 Try.prog h0 .normal ⟨#[x0, x1, x2, x3, x4, x5, x6, x7, x8, x9, x10, x11, x12, x13, x14, x15, x16, x17, x18, x19, x20], h⟩ = fin h0 (some (.tuple #[x2, x3])) h := by kernel_rfl
end Go.Am
namespace Go.Am
open Go.Proofs
set_option maxRecDepth 100000
noncomputable def c64_0 : Code := bodyC Try.f64 []
theorem c64_0_eq {β : Type} (x0 x1 x2 x3 x4 x5 x6 x7 x8 x9 x10 x11 x12 x13 x14 x15 x16 x17 x18 x19 x20 x21 x22 x23 x24 x25 x26 x27 x28 x29 x30 x31 x32 x33 x34 : Value) (h : Heap) (k : Ex → St → Option β) : codeK Try.prog (evC Try.prog) loopL c64_0 ⟨#[x0, x1, x2, x3, x4, x5, x6, x7, x8, x9, x10, x11, x12, x13, x14, x15, x16, x17, x18, x19, x20, x21, x22, x23, x24, x25, x26, x27, x28, x29, x30, x31, x32, x33, x34], h⟩ k =
obH (callV Try.prog (evC Try.prog) (.func (.func 109) #[] #[]) #[x0] h) fun t6_0 h1 =>
(binV Try.prog .shr 46 (.tmp 7) (.const (Go.Value.int Go.IntKind.u64 63)) t6_0 (Go.Value.int Go.IntKind.u64 63)).bind fun t8_2 =>
(binV Try.prog .eql 46 (.tmp 8) (.const (Go.Value.int Go.IntKind.u64 1)) t8_2 (Go.Value.int Go.IntKind.u64 1)).bind fun t9_3 =>
(binV Try.prog .and 46 (.tmp 10) (.const (Go.Value.int Go.IntKind.u64 9223372036854775807)) t6_0 (Go.Value.int Go.IntKind.u64 9223372036854775807)).bind fun t11_4 =>
(binV Try.prog .gtr 46 (.tmp 13) (.const (Go.Value.int Go.IntKind.u64 9218868437227405312)) t11_4 (Go.Value.int Go.IntKind.u64 9218868437227405312)).bind fun t14_5 =>
cnd t14_5 (
k .ret ⟨#[x0, x1, (Go.Value.int Go.IntKind.i64 0), t11_4, t9_3, x0, t6_0, t6_0, t8_2, t9_3, t6_0, t11_4, t14_5, t11_4, t14_5, x15, x16, x17, x18, x19, x20, x21, x22, x23, x24, x25, x26, x27, x28, x29, x30, x31, x32, x33, x34], h1⟩) (
(binV Try.prog .eql 46 (.tmp 16) (.const (Go.Value.int Go.IntKind.u64 9218868437227405312)) t11_4 (Go.Value.int Go.IntKind.u64 9218868437227405312)).bind fun t17_6 =>
(pickV t17_6 (gdV (wt t17_6 true) t9_3) (Go.Value.bool Bool.false)).bind fun t20_7 =>
cnd t20_7 (
k .ret ⟨#[x0, x1, (Go.Value.int Go.IntKind.i64 1), t11_4, t9_3, x0, t6_0, t6_0, t8_2, t9_3, t6_0, t11_4, t14_5, t11_4, t14_5, t20_7, t11_4, t17_6, t17_6, (gdV (wt t17_6 true) t9_3), t20_7, x21, x22, x23, x24, x25, x26, x27, x28, x29, x30, x31, x32, x33, x34], h1⟩) (
(binV Try.prog .eql 46 (.tmp 22) (.const (Go.Value.int Go.IntKind.u64 9218868437227405312)) t11_4 (Go.Value.int Go.IntKind.u64 9218868437227405312)).bind fun t23_8 =>
cnd t23_8 (
k .ret ⟨#[x0, x1, (Go.Value.int Go.IntKind.i64 6), t11_4, t9_3, x0, t6_0, t6_0, t8_2, t9_3, t6_0, t11_4, t14_5, t11_4, t14_5, t20_7, t11_4, t17_6, t17_6, (gdV (wt t17_6 true) t9_3), t20_7, t23_8, t11_4, t23_8, x24, x25, x26, x27, x28, x29, x30, x31, x32, x33, x34], h1⟩) (
(binV Try.prog .eql 46 (.tmp 25) (.const (Go.Value.int Go.IntKind.u64 0)) t11_4 (Go.Value.int Go.IntKind.u64 0)).bind fun t26_9 =>
(pickV t26_9 (gdV (wt t26_9 true) t9_3) (Go.Value.bool Bool.false)).bind fun t29_10 =>
cnd t29_10 (
k .ret ⟨#[x0, x1, (Go.Value.int Go.IntKind.i64 3), t11_4, t9_3, x0, t6_0, t6_0, t8_2, t9_3, t6_0, t11_4, t14_5, t11_4, t14_5, t20_7, t11_4, t17_6, t17_6, (gdV (wt t17_6 true) t9_3), t20_7, t23_8, t11_4, t23_8, t29_10, t11_4, t26_9, t26_9, (gdV (wt t26_9 true) t9_3), t29_10, x30, x31, x32, x33, x34], h1⟩) (
(binV Try.prog .eql 46 (.tmp 31) (.const (Go.Value.int Go.IntKind.u64 0)) t11_4 (Go.Value.int Go.IntKind.u64 0)).bind fun t32_11 =>
cnd t32_11 (
k .ret ⟨#[x0, x1, (Go.Value.int Go.IntKind.i64 4), t11_4, t9_3, x0, t6_0, t6_0, t8_2, t9_3, t6_0, t11_4, t14_5, t11_4, t14_5, t20_7, t11_4, t17_6, t17_6, (gdV (wt t17_6 true) t9_3), t20_7, t23_8, t11_4, t23_8, t29_10, t11_4, t26_9, t26_9, (gdV (wt t26_9 true) t9_3), t29_10, t32_11, t11_4, t32_11, x33, x34], h1⟩) (
cnd t9_3 (
k .ret ⟨#[x0, x1, (Go.Value.int Go.IntKind.i64 2), t11_4, t9_3, x0, t6_0, t6_0, t8_2, t9_3, t6_0, t11_4, t14_5, t11_4, t14_5, t20_7, t11_4, t17_6, t17_6, (gdV (wt t17_6 true) t9_3), t20_7, t23_8, t11_4, t23_8, t29_10, t11_4, t26_9, t26_9, (gdV (wt t26_9 true) t9_3), t29_10, t32_11, t11_4, t32_11, t9_3, t9_3], h1⟩) (
k .ret ⟨#[x0, x1, (Go.Value.int Go.IntKind.i64 5), t11_4, t9_3, x0, t6_0, t6_0, t8_2, t9_3, t6_0, t11_4, t14_5, t11_4, t14_5, t20_7, t11_4, t17_6, t17_6, (gdV (wt t17_6 true) t9_3), t20_7, t23_8, t11_4, t23_8, t29_10, t11_4, t26_9, t26_9, (gdV (wt t26_9 true) t9_3), t29_10, t32_11, t11_4, t32_11, t9_3, t9_3], h1⟩)))))) := by kernel_rfl
theorem call64 (x0 : Value) (h : Heap) : evC Try.prog 64 #[x0] h = codeK Try.prog (evC Try.prog) loopL c64_0 ⟨#[x0, undef, undef, undef, undef, undef, undef, undef, undef, undef, undef, undef, undef, undef, undef, undef, undef, undef, undef, undef, undef, undef, undef, undef, undef, undef, undef, undef, undef, undef, undef, undef, undef, undef, undef], nm h⟩ (retK Try.f64 Try.prog h) :=
  (evC_call 64 Try.f64 c64_0 Try.func64 (by kernel_rfl) #[x0] h).trans (by kernel_rfl)
theorem ret64 (x0 x1 x2 x3 x4 x5 x6 x7 x8 x9 x10 x11 x12 x13 x14 x15 x16 x17 x18 x19 x20 x21 x22 x23 x24 x25 x26 x27 x28 x29 x30 x31 x32 x33 x34 : Value) (h0 h : Heap) : retK Try.f64 Try.prog h0 .ret ⟨#[x0, x1, x2, x3, x4, x5, x6, x7, x8, x9, x10, x11, x12, x13, x14, x15, x16, x17, x18, x19, x20, x21, x22, x23, x24, x25, x26, x27, x28, x29, x30, x31, x32, x33, x34], h⟩ = fin h0 (some x2) h := by kernel_rfl
theorem retn64 (x0 x1 x2 x3 x4 x5 x6 x7 x8 x9 x10 x11 x12 x13 x14 x15 x16 x17 x18 x19 x20 x21 x22 x23 x24 x25 x26 x27 x28 x29 x30 x31 x32 x33 x34 : Value) (h0 h : Heap) : retK Try.f64 Try.prog h0 .normal ⟨#[x0, x1, x2, x3, x4, x5, x6, x7, x8, x9, x10, x11, x12, x13, x14, x15, x16, x17, x18, x19, x20, x21, x22, x23, x24, x25, x26, x27, x28, x29, x30, x31, x32, x33, x34], h⟩ = fin h0 (some x2) h := by kernel_rfl
end Go.Am
namespace Go.Am
open Go.Proofs
set_option maxRecDepth 100000
noncomputable def c107_0 : Code := bodyC Try.f107 []
theorem c107_0_eq {β : Type} (x0 x1 x2 x3 x4 x5 x6 x7 x8 x9 x10 x11 x12 x13 x14 x15 : Value) (h : Heap) (k : Ex → St → Option β) : codeK Try.prog (evC Try.prog) loopL c107_0 ⟨#[x0, x1, x2, x3, x4, x5, x6, x7, x8, x9, x10, x11, x12, x13, x14, x15], h⟩ k =
obH (evC Try.prog 64 #[x0] h) fun t5_0 h1 =>
(binV Try.prog .eql 3 (.tmp 5) (.const (Go.Value.int Go.IntKind.i64 0)) t5_0 (Go.Value.int Go.IntKind.i64 0)).bind fun t6_2 =>
cnd t6_2 (
k .ret ⟨#[x0, x1, (Go.Value.int Go.IntKind.u64 18446744073709551615), x3, x0, t5_0, t6_2, x7, x8, x9, x10, x11, x12, x13, x14, x15], h1⟩) (
obH (callV Try.prog (evC Try.prog) (.func (.func 109) #[] #[]) #[x0] h1) fun t8_3 h4 =>
(binV Try.prog .shr 46 (.tmp 9) (.const (Go.Value.int Go.IntKind.u64 63)) t8_3 (Go.Value.int Go.IntKind.u64 63)).bind fun t10_5 =>
(binV Try.prog .eql 46 (.tmp 10) (.const (Go.Value.int Go.IntKind.u64 0)) t10_5 (Go.Value.int Go.IntKind.u64 0)).bind fun t11_6 =>
cnd t11_6 (
(binV Try.prog .or 46 (.tmp 12) (.const (Go.Value.int Go.IntKind.u64 9223372036854775808)) t8_3 (Go.Value.int Go.IntKind.u64 9223372036854775808)).bind fun t13_7 =>
k .ret ⟨#[x0, x1, t13_7, t8_3, x0, t5_0, t6_2, x0, t8_3, t8_3, t10_5, t11_6, t8_3, t13_7, x14, x15], h4⟩) (
(unV Try.prog .xor t8_3).bind fun t15_8 =>
k .ret ⟨#[x0, x1, t15_8, t8_3, x0, t5_0, t6_2, x0, t8_3, t8_3, t10_5, t11_6, x12, x13, t8_3, t15_8], h4⟩)) := by kernel_rfl
theorem call107 (x0 : Value) (h : Heap) : evC Try.prog 107 #[x0] h = codeK Try.prog (evC Try.prog) loopL c107_0 ⟨#[x0, undef, undef, undef, undef, undef, undef, undef, undef, undef, undef, undef, undef, undef, undef, undef], nm h⟩ (retK Try.f107 Try.prog h) :=
  (evC_call 107 Try.f107 c107_0 Try.func107 (by kernel_rfl) #[x0] h).trans (by kernel_rfl)
theorem ret107 (x0 x1 x2 x3 x4 x5 x6 x7 x8 x9 x10 x11 x12 x13 x14 x15 : Value) (h0 h : Heap) : retK Try.f107 Try.prog h0 .ret ⟨#[x0, x1, x2, x3, x4, x5, x6, x7, x8, x9, x10, x11, x12, x13, x14, x15], h⟩ = fin h0 (some x2) h := by kernel_rfl
theorem retn107 (x0 x1 x2 x3 x4 x5 x6 x7 x8 x9 x10 x11 x12 x13 x14 x15 : Value) (h0 h : Heap) : retK Try.f107 Try.prog h0 .normal ⟨#[x0, x1, x2, x3, x4, x5, x6, x7, x8, x9, x10, x11, x12, x13, x14, x15], h⟩ = fin h0 (some x2) h := by kernel_rfl
end Go.Am
namespace Go.Am
open Go.Proofs
set_option maxRecDepth 100000
noncomputable def c104_0 : Code := bodyC Try.f104 []
theorem c104_0_eq {β : Type} (x0 x1 x2 x3 x4 x5 x6 x7 x8 x9 x10 x11 x12 x13 x14 x15 x16 x17 x18 x19 x20 x21 : Value) (h : Heap) (k : Ex → St → Option β) : codeK Try.prog (evC Try.prog) loopL c104_0 ⟨#[x0, x1, x2, x3, x4, x5, x6, x7, x8, x9, x10, x11, x12, x13, x14, x15, x16, x17, x18, x19, x20, x21], h⟩ k =
(binV Try.prog .eql 46 (.tmp 6) (.const (Go.Value.int Go.IntKind.u64 18446744073709551615)) x0 (Go.Value.int Go.IntKind.u64 18446744073709551615)).bind fun t7_0 =>
cnd t7_0 (
obH (evC Try.prog 76 #[] h) fun t8_1 h2 =>
k .ret ⟨#[x0, x1, t8_1, (Go.Value.bool Bool.true), x4, x5, x0, t7_0, t8_1, x9, x10, x11, x12, x13, x14, x15, x16, x17, x18, x19, x20, x21], h2⟩) (
(unV Try.prog .xor x0).bind fun t10_3 =>
(binV Try.prog .shr 46 (.tmp 11) (.const (Go.Value.int Go.IntKind.u64 63)) x0 (Go.Value.int Go.IntKind.u64 63)).bind fun t12_4 =>
(binV Try.prog .eql 46 (.tmp 12) (.const (Go.Value.int Go.IntKind.u64 1)) t12_4 (Go.Value.int Go.IntKind.u64 1)).bind fun t13_5 =>
cnd t13_5 (
(binV Try.prog .and 46 (.tmp 14) (.const (Go.Value.int Go.IntKind.u64 9223372036854775807)) x0 (Go.Value.int Go.IntKind.u64 9223372036854775807)).bind fun t15_6 =>
obH (callV Try.prog (evC Try.prog) (.func (.func 108) #[] #[]) #[t15_6] h) fun t17_7 h8 =>
obH (evC Try.prog 64 #[t17_7] h8) fun t19_9 h10 =>
(binV Try.prog .eql 3 (.tmp 19) (.const (Go.Value.int Go.IntKind.i64 0)) t19_9 (Go.Value.int Go.IntKind.i64 0)).bind fun t20_11 =>
cnd t20_11 (
k .ret ⟨#[x0, x1, (Go.Value.float Go.FloatKind.f64 0), (Go.Value.bool Bool.false), t15_6, t17_7, x0, t7_0, x8, x0, t10_3, x0, t12_4, t13_5, x0, t15_6, t15_6, t17_7, t17_7, t19_9, t20_11, x21], h10⟩) (
k .ret ⟨#[x0, x1, t17_7, (Go.Value.bool Bool.true), t15_6, t17_7, x0, t7_0, x8, x0, t10_3, x0, t12_4, t13_5, x0, t15_6, t15_6, t17_7, t17_7, t19_9, t20_11, t17_7], h10⟩)) (
obH (callV Try.prog (evC Try.prog) (.func (.func 108) #[] #[]) #[t10_3] h) fun t17_12 h13 =>
obH (evC Try.prog 64 #[t17_12] h13) fun t19_14 h15 =>
(binV Try.prog .eql 3 (.tmp 19) (.const (Go.Value.int Go.IntKind.i64 0)) t19_14 (Go.Value.int Go.IntKind.i64 0)).bind fun t20_16 =>
cnd t20_16 (
k .ret ⟨#[x0, x1, (Go.Value.float Go.FloatKind.f64 0), (Go.Value.bool Bool.false), t10_3, t17_12, x0, t7_0, x8, x0, t10_3, x0, t12_4, t13_5, x14, x15, t10_3, t17_12, t17_12, t19_14, t20_16, x21], h15⟩) (
k .ret ⟨#[x0, x1, t17_12, (Go.Value.bool Bool.true), t10_3, t17_12, x0, t7_0, x8, x0, t10_3, x0, t12_4, t13_5, x14, x15, t10_3, t17_12, t17_12, t19_14, t20_16, t17_12], h15⟩))) := by kernel_rfl
theorem call104 (x0 : Value) (h : Heap) : evC Try.prog 104 #[x0] h = codeK Try.prog (evC Try.prog) loopL c104_0 ⟨#[x0, undef, undef, undef, undef, undef, undef, undef, undef, undef, undef, undef, undef, undef, undef, undef, undef, undef, undef, undef, undef, undef], nm h⟩ (retK Try.f104 Try.prog h) :=
  (evC_call 104 Try.f104 c104_0 Try.func104 (by kernel_rfl) #[x0] h).trans (by kernel_rfl)
theorem ret104 (x0 x1 x2 x3 x4 x5 x6 x7 x8 x9 x10 x11 x12 x13 x14 x15 x16 x17 x18 x19 x20 x21 : Value) (h0 h : Heap) : retK Try.f104 Try.prog h0 .ret ⟨#[x0, x1, x2, x3, x4, x5, x6, x7, x8, x9, x10, x11, x12, x13, x14, x15, x16, x17, x18, x19, x20, x21], h⟩ = fin h0 (some (.tuple #[x2, x3])) h := by kernel_rfl
theorem retn104 (x0 x1 x2 x3 x4 x5 x6 x7 x8 x9 x10 x11 x12 x13 x14 x15 x16 x17 x18 x19 x20 x21 : Value) (h0 h : Heap) : retK Try.f104 Try.prog h0 .normal ⟨#[x0, x1, x2, x3, x4, x5, x6, x7, x8, x9, x10, x11, x12, x13, x14, x15, x16, x17, x18, x19, x20, x21], h⟩ = fin h0 (some (.tuple #[x2, x3])) h := by kernel_rfl
end Go.Am
namespace Go.Am
open Go.Proofs
set_option maxRecDepth 100000
noncomputable def c51_0 : Code := bodyC Try.f51 []
theorem c51_0_eq {β : Type} (x0 x1 x2 x3 x4 x5 x6 x7 x8 : Value) (h : Heap) (k : Ex → St → Option β) : codeK Try.prog (evC Try.prog) loopL c51_0 ⟨#[x0, x1, x2, x3, x4, x5, x6, x7, x8], h⟩ k =
obH (evC Try.prog 101 #[x0, x1] h) fun t7_0 h1 =>
(binV Try.prog .eql 3 (.tmp 7) (.const (Go.Value.int Go.IntKind.i64 0)) t7_0 (Go.Value.int Go.IntKind.i64 0)).bind fun t8_2 =>
k .ret ⟨#[x0, x1, x2, x3, t8_2, x0, x1, t7_0, t8_2], h1⟩ := by kernel_rfl
theorem call51 (x0 x1 : Value) (h : Heap) : evC Try.prog 51 #[x0, x1] h = codeK Try.prog (evC Try.prog) loopL c51_0 ⟨#[x0, x1, undef, undef, undef, undef, undef, undef, undef], nm h⟩ (retK Try.f51 Try.prog h) :=
  (evC_call 51 Try.f51 c51_0 Try.func51 (by kernel_rfl) #[x0, x1] h).trans (by kernel_rfl)
theorem ret51 (x0 x1 x2 x3 x4 x5 x6 x7 x8 : Value) (h0 h : Heap) : retK Try.f51 Try.prog h0 .ret ⟨#[x0, x1, x2, x3, x4, x5, x6, x7, x8], h⟩ = fin h0 (some x4) h := by kernel_rfl
theorem retn51 (x0 x1 x2 x3 x4 x5 x6 x7 x8 : Value) (h0 h : Heap) : retK Try.f51 Try.prog h0 .normal ⟨#[x0, x1, x2, x3, x4, x5, x6, x7, x8], h⟩ = fin h0 (some x4) h := by kernel_rfl
end Go.Am
namespace Go.Am
open Go.Proofs
set_option maxRecDepth 100000
noncomputable def c101_0 : Code := bodyC Try.f101 []
theorem c101_0_eq {β : Type} (x0 x1 x2 x3 x4 x5 x6 x7 x8 x9 x10 x11 x12 x13 x14 x15 x16 x17 x18 : Value) (h : Heap) (k : Ex → St → Option β) : codeK Try.prog (evC Try.prog) loopL c101_0 ⟨#[x0, x1, x2, x3, x4, x5, x6, x7, x8, x9, x10, x11, x12, x13, x14, x15, x16, x17, x18], h⟩ k =
obH (evC Try.prog 107 #[x0] h) fun t8_0 h1 =>
obH (evC Try.prog 107 #[x1] h1) fun t10_2 h3 =>
(binV Try.prog .lss 46 (.tmp 12) (.tmp 13) t8_0 t10_2).bind fun t14_4 =>
cnd t14_4 (
k .ret ⟨#[x0, x1, x2, x3, (Go.Value.int Go.IntKind.i64 (-1)), t8_0, t10_2, x0, t8_0, x1, t10_2, t14_4, t8_0, t10_2, t14_4, x15, x16, x17, x18], h3⟩) (
(binV Try.prog .gtr 46 (.tmp 16) (.tmp 17) t8_0 t10_2).bind fun t18_5 =>
cnd t18_5 (
k .ret ⟨#[x0, x1, x2, x3, (Go.Value.int Go.IntKind.i64 1), t8_0, t10_2, x0, t8_0, x1, t10_2, t14_4, t8_0, t10_2, t14_4, t18_5, t8_0, t10_2, t18_5], h3⟩) (
k .ret ⟨#[x0, x1, x2, x3, (Go.Value.int Go.IntKind.i64 0), t8_0, t10_2, x0, t8_0, x1, t10_2, t14_4, t8_0, t10_2, t14_4, t18_5, t8_0, t10_2, t18_5], h3⟩)) := by kernel_rfl
theorem call101 (x0 x1 : Value) (h : Heap) : evC Try.prog 101 #[x0, x1] h = codeK Try.prog (evC Try.prog) loopL c101_0 ⟨#[x0, x1, undef, undef, undef, undef, undef, undef, undef, undef, undef, undef, undef, undef, undef, undef, undef, undef, undef], nm h⟩ (retK Try.f101 Try.prog h) :=
  (evC_call 101 Try.f101 c101_0 Try.func101 (by kernel_rfl) #[x0, x1] h).trans (by kernel_rfl)
theorem ret101 (x0 x1 x2 x3 x4 x5 x6 x7 x8 x9 x10 x11 x12 x13 x14 x15 x16 x17 x18 : Value) (h0 h : Heap) : retK Try.f101 Try.prog h0 .ret ⟨#[x0, x1, x2, x3, x4, x5, x6, x7, x8, x9, x10, x11, x12, x13, x14, x15, x16, x17, x18], h⟩ = fin h0 (some x4) h := by kernel_rfl
theorem retn101 (x0 x1 x2 x3 x4 x5 x6 x7 x8 x9 x10 x11 x12 x13 x14 x15 x16 x17 x18 : Value) (h0 h : Heap) : retK Try.f101 Try.prog h0 .normal ⟨#[x0, x1, x2, x3, x4, x5, x6, x7, x8, x9, x10, x11, x12, x13, x14, x15, x16, x17, x18], h⟩ = fin h0 (some x4) h := by kernel_rfl
end Go.Am
namespace Go.Am
open Go.Proofs
set_option maxRecDepth 100000
noncomputable def c125_0 : Code := bodyC Try.f125 []
theorem c125_0_eq {β : Type} (x0 x1 x2 x3 x4 x5 : Value) (h : Heap) (k : Ex → St → Option β) : codeK Try.prog (evC Try.prog) loopL c125_0 ⟨#[x0, x1, x2, x3, x4, x5], h⟩ k =
(binV Try.prog .neq 84 (.tmp 3) (.tmp 4) x0 x0).bind fun t5_0 =>
k .ret ⟨#[x0, x1, t5_0, x0, x0, t5_0], h⟩ := by kernel_rfl
theorem call125 (x0 : Value) (h : Heap) : evC Try.prog 125 #[x0] h = codeK Try.prog (evC Try.prog) loopL c125_0 ⟨#[x0, undef, undef, undef, undef, undef], nm h⟩ (retK Try.f125 Try.prog h) :=
  (evC_call 125 Try.f125 c125_0 Try.func125 (by kernel_rfl) #[x0] h).trans (by kernel_rfl)
theorem ret125 (x0 x1 x2 x3 x4 x5 : Value) (h0 h : Heap) : retK Try.f125 Try.prog h0 .ret ⟨#[x0, x1, x2, x3, x4, x5], h⟩ = fin h0 (some x2) h := by kernel_rfl
theorem retn125 (x0 x1 x2 x3 x4 x5 : Value) (h0 h : Heap) : retK Try.f125 Try.prog h0 .normal ⟨#[x0, x1, x2, x3, x4, x5], h⟩ = fin h0 (some x2) h := by kernel_rfl
end Go.Am
namespace Go.Am
open Go.Proofs
set_option maxRecDepth 100000
noncomputable def c76_0 : Code := bodyC Try.f76 []
theorem c76_0_eq {β : Type} (x0 x1 : Value) (h : Heap) (k : Ex → St → Option β) : codeK Try.prog (evC Try.prog) loopL c76_0 ⟨#[x0, x1], h⟩ k =
obH (callV Try.prog (evC Try.prog) (.func (.func 108) #[] #[]) #[(Go.Value.int Go.IntKind.u64 9221120237041090561)] h) fun t1_0 h1 =>
k .ret ⟨#[t1_0, t1_0], h1⟩ := by kernel_rfl
theorem call76 (h : Heap) : evC Try.prog 76 #[] h = codeK Try.prog (evC Try.prog) loopL c76_0 ⟨#[undef, undef], nm h⟩ (retK Try.f76 Try.prog h) :=
  (evC_call 76 Try.f76 c76_0 Try.func76 (by kernel_rfl) #[] h).trans (by kernel_rfl)
theorem ret76 (x0 x1 : Value) (h0 h : Heap) : retK Try.f76 Try.prog h0 .ret ⟨#[x0, x1], h⟩ = fin h0 (some x0) h := by kernel_rfl
theorem retn76 (x0 x1 : Value) (h0 h : Heap) : retK Try.f76 Try.prog h0 .normal ⟨#[x0, x1], h⟩ = fin h0 (some x0) h := by kernel_rfl
end Go.Am
namespace Go.Am
open Go.Proofs
set_option maxRecDepth 100000
noncomputable def c42_0 : Code := bodyC Try.f42 []
theorem c42_0_eq {β : Type} (x0 x1 x2 : Value) (h : Heap) (k : Ex → St → Option β) : codeK Try.prog (evC Try.prog) loopL c42_0 ⟨#[x0, x1, x2], h⟩ k =
(buildV Try.prog 146 #[]).bind fun t1_0 =>
obH (boxV Try.prog 146 t1_0 h) fun t2_1 h2 =>
k .ret ⟨#[t2_1, t1_0, t2_1], h2⟩ := by kernel_rfl
theorem call42 (h : Heap) : evC Try.prog 42 #[] h = codeK Try.prog (evC Try.prog) loopL c42_0 ⟨#[undef, undef, undef], nm h⟩ (retK Try.f42 Try.prog h) :=
  (evC_call 42 Try.f42 c42_0 Try.func42 (by kernel_rfl) #[] h).trans (by kernel_rfl)
theorem ret42 (x0 x1 x2 : Value) (h0 h : Heap) : retK Try.f42 Try.prog h0 .ret ⟨#[x0, x1, x2], h⟩ = fin h0 (some x0) h := by kernel_rfl
theorem retn42 (x0 x1 x2 : Value) (h0 h : Heap) : retK Try.f42 Try.prog h0 .normal ⟨#[x0, x1, x2], h⟩ = fin h0 (some x0) h := by kernel_rfl
end Go.Am
namespace Go.Am
open Go.Proofs
set_option maxRecDepth 100000
noncomputable def c43_0 : Code := bodyC Try.f43 []
theorem c43_0_eq {β : Type} (x0 x1 x2 x3 x4 x5 x6 x7 x8 x9 x10 x11 x12 : Value) (h : Heap) (k : Ex → St → Option β) : codeK Try.prog (evC Try.prog) loopL c43_0 ⟨#[x0, x1, x2, x3, x4, x5, x6, x7, x8, x9, x10, x11, x12], h⟩ k =
(nilCheckV x0).bind fun t6_0 =>
(fieldAddrV Try.prog 146 t6_0 0).bind fun t7_1 =>
(loadV Try.prog 23 t7_1 h).bind fun t8_2 =>
obH (evC Try.prog 94 #[t8_2, x1] h) fun t10_3 h4 =>
(nilCheckV x0).bind fun t11_5 =>
(fieldAddrV Try.prog 146 t11_5 0).bind fun t12_6 =>
(storeV Try.prog 23 t12_6 t10_3 h4).bind fun h7 =>
k .normal ⟨#[x0, x1, x2, x3, x0, x0, t6_0, t7_1, t8_2, x1, t10_3, t11_5, t12_6], h7⟩ := by kernel_rfl
theorem call43 (x0 x1 : Value) (h : Heap) : evC Try.prog 43 #[x0, x1] h = codeK Try.prog (evC Try.prog) loopL c43_0 ⟨#[x0, x1, undef, undef, undef, undef, undef, undef, undef, undef, undef, undef, undef], nm h⟩ (retK Try.f43 Try.prog h) :=
  (evC_call 43 Try.f43 c43_0 Try.func43 (by kernel_rfl) #[x0, x1] h).trans (by kernel_rfl)
theorem ret43 (x0 x1 x2 x3 x4 x5 x6 x7 x8 x9 x10 x11 x12 : Value) (h0 h : Heap) : retK Try.f43 Try.prog h0 .ret ⟨#[x0, x1, x2, x3, x4, x5, x6, x7, x8, x9, x10, x11, x12], h⟩ = fin h0 (some (.tuple #[])) h := by kernel_rfl
theorem retn43 (x0 x1 x2 x3 x4 x5 x6 x7 x8 x9 x10 x11 x12 : Value) (h0 h : Heap) : retK Try.f43 Try.prog h0 .normal ⟨#[x0, x1, x2, x3, x4, x5, x6, x7, x8, x9, x10, x11, x12], h⟩ = fin h0 (some (.tuple #[])) h := by kernel_rfl
end Go.Am
namespace Go.Am
open Go.Proofs
set_option maxRecDepth 100000
noncomputable def c61_0 : Code := bodyC Try.f61 []
theorem c61_0_eq {β : Type} (x0 x1 x2 x3 x4 x5 x6 x7 x8 x9 x10 x11 x12 x13 x14 x15 x16 x17 : Value) (h : Heap) (k : Ex → St → Option β) : codeK Try.prog (evC Try.prog) loopL c61_0 ⟨#[x0, x1, x2, x3, x4, x5, x6, x7, x8, x9, x10, x11, x12, x13, x14, x15, x16, x17], h⟩ k =
(lenV Try.prog 23 x1 h).bind fun t6_0 =>
obH (convV Try.prog 3 46 t6_0 h) fun t7_1 h2 =>
obH (evC Try.prog 43 #[x0, t7_1] h2) fun t8_3 h4 =>
(nilCheckV x0).bind fun t11_5 =>
(fieldAddrV Try.prog 146 t11_5 0).bind fun t12_6 =>
(loadV Try.prog 23 t12_6 h4).bind fun t13_7 =>
obH (appendV Try.prog 23 (some 23) t13_7 x1 h4) fun t15_8 h9 =>
(nilCheckV x0).bind fun t16_10 =>
(fieldAddrV Try.prog 146 t16_10 0).bind fun t17_11 =>
(storeV Try.prog 23 t17_11 t15_8 h9).bind fun h12 =>
k .normal ⟨#[x0, x1, x2, x3, x0, x1, t6_0, t7_1, t8_3, x0, x0, t11_5, t12_6, t13_7, x1, t15_8, t16_10, t17_11], h12⟩ := by kernel_rfl
theorem call61 (x0 x1 : Value) (h : Heap) : evC Try.prog 61 #[x0, x1] h = codeK Try.prog (evC Try.prog) loopL c61_0 ⟨#[x0, x1, undef, undef, undef, undef, undef, undef, undef, undef, undef, undef, undef, undef, undef, undef, undef, undef], nm h⟩ (retK Try.f61 Try.prog h) :=
  (evC_call 61 Try.f61 c61_0 Try.func61 (by kernel_rfl) #[x0, x1] h).trans (by kernel_rfl)
theorem ret61 (x0 x1 x2 x3 x4 x5 x6 x7 x8 x9 x10 x11 x12 x13 x14 x15 x16 x17 : Value) (h0 h : Heap) : retK Try.f61 Try.prog h0 .ret ⟨#[x0, x1, x2, x3, x4, x5, x6, x7, x8, x9, x10, x11, x12, x13, x14, x15, x16, x17], h⟩ = fin h0 (some (.tuple #[])) h := by kernel_rfl
theorem retn61 (x0 x1 x2 x3 x4 x5 x6 x7 x8 x9 x10 x11 x12 x13 x14 x15 x16 x17 : Value) (h0 h : Heap) : retK Try.f61 Try.prog h0 .normal ⟨#[x0, x1, x2, x3, x4, x5, x6, x7, x8, x9, x10, x11, x12, x13, x14, x15, x16, x17], h⟩ = fin h0 (some (.tuple #[])) h := by kernel_rfl
end Go.Am
namespace Go.Am
open Go.Proofs
set_option maxRecDepth 100000
noncomputable def c44_0 : Code := bodyC Try.f44 []
theorem c44_0_eq {β : Type} (x0 x1 x2 x3 x4 x5 x6 x7 : Value) (h : Heap) (k : Ex → St → Option β) : codeK Try.prog (evC Try.prog) loopL c44_0 ⟨#[x0, x1, x2, x3, x4, x5, x6, x7], h⟩ k =
(nilCheckV x0).bind fun t4_0 =>
(fieldAddrV Try.prog 146 t4_0 0).bind fun t5_1 =>
(loadV Try.prog 23 t5_1 h).bind fun t6_2 =>
obH (evC Try.prog 95 #[t6_2] h) fun t7_3 h4 =>
k .ret ⟨#[x0, x1, t7_3, x0, t4_0, t5_1, t6_2, t7_3], h4⟩ := by kernel_rfl
theorem call44 (x0 : Value) (h : Heap) : evC Try.prog 44 #[x0] h = codeK Try.prog (evC Try.prog) loopL c44_0 ⟨#[x0, undef, undef, undef, undef, undef, undef, undef], nm h⟩ (retK Try.f44 Try.prog h) :=
  (evC_call 44 Try.f44 c44_0 Try.func44 (by kernel_rfl) #[x0] h).trans (by kernel_rfl)
theorem ret44 (x0 x1 x2 x3 x4 x5 x6 x7 : Value) (h0 h : Heap) : retK Try.f44 Try.prog h0 .ret ⟨#[x0, x1, x2, x3, x4, x5, x6, x7], h⟩ = fin h0 (some x2) h := by kernel_rfl
theorem retn44 (x0 x1 x2 x3 x4 x5 x6 x7 : Value) (h0 h : Heap) : retK Try.f44 Try.prog h0 .normal ⟨#[x0, x1, x2, x3, x4, x5, x6, x7], h⟩ = fin h0 (some x2) h := by kernel_rfl
end Go.Am
namespace Go.Am
open Go.Proofs
set_option maxRecDepth 100000
noncomputable def c45_0 : Code := bodyC Try.f45 []
theorem c45_0_eq {β : Type} (x0 x1 x2 x3 x4 x5 x6 : Value) (h : Heap) (k : Ex → St → Option β) : codeK Try.prog (evC Try.prog) loopL c45_0 ⟨#[x0, x1, x2, x3, x4, x5, x6], h⟩ k =
obH (evC Try.prog 95 #[x0] h) fun t4_0 h1 =>
(buildV Try.prog 150 #[(0, t4_0)]).bind fun t5_2 =>
obH (boxV Try.prog 150 t5_2 h1) fun t6_3 h4 =>
k .ret ⟨#[x0, x1, t6_3, x0, t4_0, t5_2, t6_3], h4⟩ := by kernel_rfl
theorem call45 (x0 : Value) (h : Heap) : evC Try.prog 45 #[x0] h = codeK Try.prog (evC Try.prog) loopL c45_0 ⟨#[x0, undef, undef, undef, undef, undef, undef], nm h⟩ (retK Try.f45 Try.prog h) :=
  (evC_call 45 Try.f45 c45_0 Try.func45 (by kernel_rfl) #[x0] h).trans (by kernel_rfl)
theorem ret45 (x0 x1 x2 x3 x4 x5 x6 : Value) (h0 h : Heap) : retK Try.f45 Try.prog h0 .ret ⟨#[x0, x1, x2, x3, x4, x5, x6], h⟩ = fin h0 (some x2) h := by kernel_rfl
theorem retn45 (x0 x1 x2 x3 x4 x5 x6 : Value) (h0 h : Heap) : retK Try.f45 Try.prog h0 .normal ⟨#[x0, x1, x2, x3, x4, x5, x6], h⟩ = fin h0 (some x2) h := by kernel_rfl
end Go.Am
namespace Go.Am
open Go.Proofs
set_option maxRecDepth 100000
noncomputable def c46_0 : Code := bodyC Try.f46 []
theorem c46_0_eq {β : Type} (x0 x1 x2 x3 x4 x5 x6 x7 x8 x9 x10 x11 x12 x13 x14 x15 x16 x17 x18 x19 x20 x21 x22 x23 x24 x25 x26 x27 x28 x29 x30 x31 x32 x33 : Value) (h : Heap) (k : Ex → St → Option β) : codeK Try.prog (evC Try.prog) loopL c46_0 ⟨#[x0, x1, x2, x3, x4, x5, x6, x7, x8, x9, x10, x11, x12, x13, x14, x15, x16, x17, x18, x19, x20, x21, x22, x23, x24, x25, x26, x27, x28, x29, x30, x31, x32, x33], h⟩ k =
(nilCheckV x0).bind fun t9_0 =>
(fieldAddrV Try.prog 150 t9_0 0).bind fun t10_1 =>
(loadV Try.prog 23 t10_1 h).bind fun t11_2 =>
obH (evC Try.prog 96 #[t11_2] h) fun t12_3 h4 =>
(extractV t12_3 0).bind fun t13_5 =>
(extractV t12_3 1).bind fun t14_6 =>
(binV Try.prog .eql 3 (.tmp 16) (.const (Go.Value.int Go.IntKind.i64 0)) t14_6 (Go.Value.int Go.IntKind.i64 0)).bind fun t17_7 =>
(gd (wt t17_7 false) (binV Try.prog .gtr 46 (.tmp 19) (.tmp 20) (gdV (wt t17_7 false) t13_5) (gdV (wt t17_7 false) x1))).bind fun t21_8 =>
(pickV t17_7 (Go.Value.bool Bool.true) t21_8).bind fun t22_9 =>
obH (evC Try.prog 97 #[x0, t22_9] h4) fun t23_10 h11 =>
cnd t23_10 (
k .ret ⟨#[x0, x1, x2, x3, (Go.Value.int Go.IntKind.u64 0), t13_5, t14_6, t12_3, x0, t9_0, t10_1, t11_2, t12_3, t13_5, t14_6, x0, t14_6, t17_7, t17_7, (gdV (wt t17_7 false) t13_5), (gdV (wt t17_7 false) x1), t21_8, t22_9, t23_10, x24, x25, x26, x27, x28, x29, x30, x31, x32, x33], h11⟩) (
(nilCheckV x0).bind fun t26_12 =>
(fieldAddrV Try.prog 150 t26_12 0).bind fun t27_13 =>
(loadV Try.prog 23 t27_13 h11).bind fun t28_14 =>
(sliceV Try.prog 23 t28_14 (some t14_6) none none h11).bind fun t30_15 =>
(nilCheckV x0).bind fun t31_16 =>
(fieldAddrV Try.prog 150 t31_16 0).bind fun t32_17 =>
(storeV Try.prog 23 t32_17 t30_15 h11).bind fun h18 =>
k .ret ⟨#[x0, x1, x2, x3, t13_5, t13_5, t14_6, t12_3, x0, t9_0, t10_1, t11_2, t12_3, t13_5, t14_6, x0, t14_6, t17_7, t17_7, (gdV (wt t17_7 false) t13_5), (gdV (wt t17_7 false) x1), t21_8, t22_9, t23_10, x0, x0, t26_12, t27_13, t28_14, t14_6, t30_15, t31_16, t32_17, t13_5], h18⟩) := by kernel_rfl
theorem call46 (x0 x1 : Value) (h : Heap) : evC Try.prog 46 #[x0, x1] h = codeK Try.prog (evC Try.prog) loopL c46_0 ⟨#[x0, x1, undef, undef, undef, undef, undef, undef, undef, undef, undef, undef, undef, undef, undef, undef, undef, undef, undef, undef, undef, undef, undef, undef, undef, undef, undef, undef, undef, undef, undef, undef, undef, undef], nm h⟩ (retK Try.f46 Try.prog h) :=
  (evC_call 46 Try.f46 c46_0 Try.func46 (by kernel_rfl) #[x0, x1] h).trans (by kernel_rfl)
theorem ret46 (x0 x1 x2 x3 x4 x5 x6 x7 x8 x9 x10 x11 x12 x13 x14 x15 x16 x17 x18 x19 x20 x21 x22 x23 x24 x25 x26 x27 x28 x29 x30 x31 x32 x33 : Value) (h0 h : Heap) : retK Try.f46 Try.prog h0 .ret ⟨#[x0, x1, x2, x3, x4, x5, x6, x7, x8, x9, x10, x11, x12, x13, x14, x15, x16, x17, x18, x19, x20, x21, x22, x23, x24, x25, x26, x27, x28, x29, x30, x31, x32, x33], h⟩ = fin h0 (some x4) h := by kernel_rfl
theorem retn46 (x0 x1 x2 x3 x4 x5 x6 x7 x8 x9 x10 x11 x12 x13 x14 x15 x16 x17 x18 x19 x20 x21 x22 x23 x24 x25 x26 x27 x28 x29 x30 x31 x32 x33 : Value) (h0 h : Heap) : retK Try.f46 Try.prog h0 .normal ⟨#[x0, x1, x2, x3, x4, x5, x6, x7, x8, x9, x10, x11, x12, x13, x14, x15, x16, x17, x18, x19, x20, x21, x22, x23, x24, x25, x26, x27, x28, x29, x30, x31, x32, x33], h⟩ = fin h0 (some x4) h := by kernel_rfl
end Go.Am
namespace Go.Am
open Go.Proofs
set_option maxRecDepth 100000
noncomputable def c54_0 : Code := bodyC Try.f54 []
theorem c54_0_eq {β : Type} (x0 x1 x2 x3 x4 x5 x6 x7 x8 x9 x10 x11 x12 x13 x14 : Value) (h : Heap) (k : Ex → St → Option β) : codeK Try.prog (evC Try.prog) loopL c54_0 ⟨#[x0, x1, x2, x3, x4, x5, x6, x7, x8, x9, x10, x11, x12, x13, x14], h⟩ k =
obH (builtinV Try.prog .max #[3, 3] #[x1, (Go.Value.int Go.IntKind.i64 0)] h) fun t8_0 h1 =>
obH (convV Try.prog 3 46 t8_0 h1) fun t9_2 h3 =>
obH (evC Try.prog 46 #[x0, t9_2] h3) fun t10_4 h5 =>
obH (evC Try.prog 102 #[x0, t10_4] h5) fun t13_6 h7 =>
obH (evC Try.prog 95 #[t13_6] h7) fun t14_8 h9 =>
k .ret ⟨#[x0, x1, x2, x3, t14_8, t10_4, x0, x1, t8_0, t9_2, t10_4, x0, t10_4, t13_6, t14_8], h9⟩ := by kernel_rfl
theorem call54 (x0 x1 : Value) (h : Heap) : evC Try.prog 54 #[x0, x1] h = codeK Try.prog (evC Try.prog) loopL c54_0 ⟨#[x0, x1, undef, undef, undef, undef, undef, undef, undef, undef, undef, undef, undef, undef, undef], nm h⟩ (retK Try.f54 Try.prog h) :=
  (evC_call 54 Try.f54 c54_0 Try.func54 (by kernel_rfl) #[x0, x1] h).trans (by kernel_rfl)
theorem ret54 (x0 x1 x2 x3 x4 x5 x6 x7 x8 x9 x10 x11 x12 x13 x14 : Value) (h0 h : Heap) : retK Try.f54 Try.prog h0 .ret ⟨#[x0, x1, x2, x3, x4, x5, x6, x7, x8, x9, x10, x11, x12, x13, x14], h⟩ = fin h0 (some x4) h := by kernel_rfl
theorem retn54 (x0 x1 x2 x3 x4 x5 x6 x7 x8 x9 x10 x11 x12 x13 x14 : Value) (h0 h : Heap) : retK Try.f54 Try.prog h0 .normal ⟨#[x0, x1, x2, x3, x4, x5, x6, x7, x8, x9, x10, x11, x12, x13, x14], h⟩ = fin h0 (some x4) h := by kernel_rfl
end Go.Am
namespace Go.Am
open Go.Proofs
set_option maxRecDepth 100000
noncomputable def c47_0 : Code := bodyC Try.f47 []
theorem c47_0_eq {β : Type} (x0 x1 x2 x3 x4 x5 x6 x7 x8 x9 x10 x11 x12 x13 x14 x15 : Value) (h : Heap) (k : Ex → St → Option β) : codeK Try.prog (evC Try.prog) loopL c47_0 ⟨#[x0, x1, x2, x3, x4, x5, x6, x7, x8, x9, x10, x11, x12, x13, x14, x15], h⟩ k =
(nilCheckV x0).bind fun t4_0 =>
(fieldAddrV Try.prog 150 t4_0 1).bind fun t5_1 =>
(loadV Try.prog 4 t5_1 h).bind fun t6_2 =>
(unV Try.prog .not t6_2).bind fun t7_3 =>
(gd (wt t7_3 true) (nilCheckV (gdV (wt t7_3 true) x0))).bind fun t10_4 =>
(gd (wt t7_3 true) (fieldAddrV Try.prog 150 t10_4 0)).bind fun t11_5 =>
(gd (wt t7_3 true) (loadV Try.prog 23 t11_5 h)).bind fun t12_6 =>
(gd (wt t7_3 true) (lenV Try.prog 23 t12_6 h)).bind fun t13_7 =>
(gd (wt t7_3 true) (binV Try.prog .eql 3 (.tmp 13) (.const (Go.Value.int Go.IntKind.i64 0)) t13_7 (Go.Value.int Go.IntKind.i64 0))).bind fun t14_8 =>
(pickV t7_3 t14_8 (Go.Value.bool Bool.false)).bind fun t15_9 =>
k .ret ⟨#[x0, x1, t15_9, x0, t4_0, t5_1, t6_2, t7_3, t7_3, (gdV (wt t7_3 true) x0), t10_4, t11_5, t12_6, t13_7, t14_8, t15_9], h⟩ := by kernel_rfl
theorem call47 (x0 : Value) (h : Heap) : evC Try.prog 47 #[x0] h = codeK Try.prog (evC Try.prog) loopL c47_0 ⟨#[x0, undef, undef, undef, undef, undef, undef, undef, undef, undef, undef, undef, undef, undef, undef, undef], nm h⟩ (retK Try.f47 Try.prog h) :=
  (evC_call 47 Try.f47 c47_0 Try.func47 (by kernel_rfl) #[x0] h).trans (by kernel_rfl)
theorem ret47 (x0 x1 x2 x3 x4 x5 x6 x7 x8 x9 x10 x11 x12 x13 x14 x15 : Value) (h0 h : Heap) : retK Try.f47 Try.prog h0 .ret ⟨#[x0, x1, x2, x3, x4, x5, x6, x7, x8, x9, x10, x11, x12, x13, x14, x15], h⟩ = fin h0 (some x2) h := by kernel_rfl
theorem retn47 (x0 x1 x2 x3 x4 x5 x6 x7 x8 x9 x10 x11 x12 x13 x14 x15 : Value) (h0 h : Heap) : retK Try.f47 Try.prog h0 .normal ⟨#[x0, x1, x2, x3, x4, x5, x6, x7, x8, x9, x10, x11, x12, x13, x14, x15], h⟩ = fin h0 (some x2) h := by kernel_rfl
end Go.Am
namespace Go.Am
open Go.Proofs
set_option maxRecDepth 100000
noncomputable def c97_0 : Code := bodyC Try.f97 []
noncomputable def c97_1 : Code := bodyC Try.f97 [true, true]
theorem c97_0_eq {β : Type} (x0 x1 x2 x3 x4 x5 x6 x7 x8 x9 x10 x11 x12 x13 x14 x15 : Value) (h : Heap) (k : Ex → St → Option β) : codeK Try.prog (evC Try.prog) loopL c97_0 ⟨#[x0, x1, x2, x3, x4, x5, x6, x7, x8, x9, x10, x11, x12, x13, x14, x15], h⟩ k =
cnd x1 (
(nilCheckV x0).bind fun t8_0 =>
(fieldAddrV Try.prog 150 t8_0 0).bind fun t9_1 =>
(storeV Try.prog 23 t9_1 (Go.Value.slice Option.none 0 0) h).bind fun h2 =>
(nilCheckV x0).bind fun t10_3 =>
(fieldAddrV Try.prog 150 t10_3 1).bind fun t11_4 =>
(storeV Try.prog 4 t11_4 (Go.Value.bool Bool.true) h2).bind fun h5 =>
codeK Try.prog (evC Try.prog) loopL c97_1 ⟨#[x0, x1, x2, x3, (Go.Value.bool Bool.false), x1, x0, x0, t8_0, t9_1, t10_3, t11_4, x12, x13, x14, x15], h5⟩ k) (
codeK Try.prog (evC Try.prog) loopL c97_1 ⟨#[x0, x1, x2, x3, (Go.Value.bool Bool.false), x1, x6, x7, x8, x9, x10, x11, x12, x13, x14, x15], h⟩ k) := by kernel_rfl
theorem c97_1_eq {β : Type} (x0 x1 x2 x3 x4 x5 x6 x7 x8 x9 x10 x11 x12 x13 x14 x15 : Value) (h : Heap) (k : Ex → St → Option β) : codeK Try.prog (evC Try.prog) loopL c97_1 ⟨#[x0, x1, x2, x3, x4, x5, x6, x7, x8, x9, x10, x11, x12, x13, x14, x15], h⟩ k =
(nilCheckV x0).bind fun t13_6 =>
(fieldAddrV Try.prog 150 t13_6 1).bind fun t14_7 =>
(loadV Try.prog 4 t14_7 h).bind fun t15_8 =>
k .ret ⟨#[x0, x1, x2, x3, t15_8, x5, x6, x7, x8, x9, x10, x11, x0, t13_6, t14_7, t15_8], h⟩ := by kernel_rfl
theorem call97 (x0 x1 : Value) (h : Heap) : evC Try.prog 97 #[x0, x1] h = codeK Try.prog (evC Try.prog) loopL c97_0 ⟨#[x0, x1, undef, undef, undef, undef, undef, undef, undef, undef, undef, undef, undef, undef, undef, undef], nm h⟩ (retK Try.f97 Try.prog h) :=
  (evC_call 97 Try.f97 c97_0 Try.func97 (by kernel_rfl) #[x0, x1] h).trans (by kernel_rfl)
theorem ret97 (x0 x1 x2 x3 x4 x5 x6 x7 x8 x9 x10 x11 x12 x13 x14 x15 : Value) (h0 h : Heap) : retK Try.f97 Try.prog h0 .ret ⟨#[x0, x1, x2, x3, x4, x5, x6, x7, x8, x9, x10, x11, x12, x13, x14, x15], h⟩ = fin h0 (some x4) h := by kernel_rfl
theorem retn97 (x0 x1 x2 x3 x4 x5 x6 x7 x8 x9 x10 x11 x12 x13 x14 x15 : Value) (h0 h : Heap) : retK Try.f97 Try.prog h0 .normal ⟨#[x0, x1, x2, x3, x4, x5, x6, x7, x8, x9, x10, x11, x12, x13, x14, x15], h⟩ = fin h0 (some x4) h := by kernel_rfl
end Go.Am
namespace Go.Am
open Go.Proofs
set_option maxRecDepth 100000
noncomputable def c102_0 : Code := bodyC Try.f102 []
theorem c102_0_eq {β : Type} (x0 x1 x2 x3 x4 x5 x6 x7 x8 x9 x10 x11 x12 x13 x14 x15 x16 x17 x18 x19 x20 x21 x22 x23 x24 x25 x26 x27 x28 x29 x30 x31 : Value) (h : Heap) (k : Ex → St → Option β) : codeK Try.prog (evC Try.prog) loopL c102_0 ⟨#[x0, x1, x2, x3, x4, x5, x6, x7, x8, x9, x10, x11, x12, x13, x14, x15, x16, x17, x18, x19, x20, x21, x22, x23, x24, x25, x26, x27, x28, x29, x30, x31], h⟩ k =
(nilCheckV x0).bind fun t9_0 =>
(fieldAddrV Try.prog 150 t9_0 0).bind fun t10_1 =>
(loadV Try.prog 23 t10_1 h).bind fun t11_2 =>
(lenV Try.prog 23 t11_2 h).bind fun t12_3 =>
obH (convV Try.prog 3 46 t12_3 h) fun t13_4 h5 =>
(binV Try.prog .gtr 46 (.tmp 7) (.tmp 13) x1 t13_4).bind fun t14_6 =>
obH (evC Try.prog 97 #[x0, t14_6] h5) fun t15_7 h8 =>
cnd t15_7 (
k .ret ⟨#[x0, x1, x2, x3, (Go.Value.slice Option.none 0 0), x5, x0, x1, x0, t9_0, t10_1, t11_2, t12_3, t13_4, t14_6, t15_7, x16, x17, x18, x19, x20, x21, x22, x23, x24, x25, x26, x27, x28, x29, x30, x31], h8⟩) (
(nilCheckV x0).bind fun t17_9 =>
(fieldAddrV Try.prog 150 t17_9 0).bind fun t18_10 =>
(loadV Try.prog 23 t18_10 h8).bind fun t19_11 =>
(sliceV Try.prog 23 t19_11 none (some x1) none h8).bind fun t21_12 =>
(nilCheckV x0).bind fun t24_13 =>
(fieldAddrV Try.prog 150 t24_13 0).bind fun t25_14 =>
(loadV Try.prog 23 t25_14 h8).bind fun t26_15 =>
(sliceV Try.prog 23 t26_15 (some x1) none none h8).bind fun t28_16 =>
(nilCheckV x0).bind fun t29_17 =>
(fieldAddrV Try.prog 150 t29_17 0).bind fun t30_18 =>
(storeV Try.prog 23 t30_18 t28_16 h8).bind fun h19 =>
k .ret ⟨#[x0, x1, x2, x3, t21_12, t21_12, x0, x1, x0, t9_0, t10_1, t11_2, t12_3, t13_4, t14_6, t15_7, x0, t17_9, t18_10, t19_11, x1, t21_12, x0, x0, t24_13, t25_14, t26_15, x1, t28_16, t29_17, t30_18, t21_12], h19⟩) := by kernel_rfl
theorem call102 (x0 x1 : Value) (h : Heap) : evC Try.prog 102 #[x0, x1] h = codeK Try.prog (evC Try.prog) loopL c102_0 ⟨#[x0, x1, undef, undef, undef, undef, undef, undef, undef, undef, undef, undef, undef, undef, undef, undef, undef, undef, undef, undef, undef, undef, undef, undef, undef, undef, undef, undef, undef, undef, undef, undef], nm h⟩ (retK Try.f102 Try.prog h) :=
  (evC_call 102 Try.f102 c102_0 Try.func102 (by kernel_rfl) #[x0, x1] h).trans (by kernel_rfl)
theorem ret102 (x0 x1 x2 x3 x4 x5 x6 x7 x8 x9 x10 x11 x12 x13 x14 x15 x16 x17 x18 x19 x20 x21 x22 x23 x24 x25 x26 x27 x28 x29 x30 x31 : Value) (h0 h : Heap) : retK Try.f102 Try.prog h0 .ret ⟨#[x0, x1, x2, x3, x4, x5, x6, x7, x8, x9, x10, x11, x12, x13, x14, x15, x16, x17, x18, x19, x20, x21, x22, x23, x24, x25, x26, x27, x28, x29, x30, x31], h⟩ = fin h0 (some x4) h := by kernel_rfl
theorem retn102 (x0 x1 x2 x3 x4 x5 x6 x7 x8 x9 x10 x11 x12 x13 x14 x15 x16 x17 x18 x19 x20 x21 x22 x23 x24 x25 x26 x27 x28 x29 x30 x31 : Value) (h0 h : Heap) : retK Try.f102 Try.prog h0 .normal ⟨#[x0, x1, x2, x3, x4, x5, x6, x7, x8, x9, x10, x11, x12, x13, x14, x15, x16, x17, x18, x19, x20, x21, x22, x23, x24, x25, x26, x27, x28, x29, x30, x31], h⟩ = fin h0 (some x4) h := by kernel_rfl
end Go.Am
namespace Go.Am
open Go.Proofs
set_option maxRecDepth 100000
noncomputable def c106_0 : Code := bodyC Try.f106 []
noncomputable def c106_1 : Code := bodyC Try.f106 [true, true, false, false, false]
noncomputable def c106_2 : Code := bodyC Try.f106 [true, true, true]
theorem c106_0_eq {β : Type} (x0 x1 x2 x3 x4 x5 x6 x7 x8 x9 x10 x11 x12 x13 x14 x15 x16 x17 x18 x19 x20 x21 x22 x23 : Value) (h : Heap) (k : Ex → St → Option β) : codeK Try.prog (evC Try.prog) loopL c106_0 ⟨#[x0, x1, x2, x3, x4, x5, x6, x7, x8, x9, x10, x11, x12, x13, x14, x15, x16, x17, x18, x19, x20, x21, x22, x23], h⟩ k =
obH (buildSliceV Try.prog 23 0 #[] h) fun t5_0 h1 =>
obH (appendV Try.prog 23 (some 23) t5_0 x0 h1) fun t7_2 h3 =>
loopK Try.prog (evC Try.prog) c106_1 ⟨#[t7_2, x1, x2, x3, (Go.Value.slice Option.none 0 0), t5_0, x0, t7_2, x8, x9, x10, x11, x12, x13, x14, x15, x16, x17, x18, x19, x20, x21, x22, x23], h3⟩ (blockK 0 (seqK Try.prog (evC Try.prog) c106_2 k)) := by kernel_rfl
theorem c106_1_eq {β : Type} (x0 x1 x2 x3 x4 x5 x6 x7 x8 x9 x10 x11 x12 x13 x14 x15 x16 x17 x18 x19 x20 x21 x22 x23 : Value) (h : Heap) (k : Ex → St → Option β) : codeK Try.prog (evC Try.prog) loopL c106_1 ⟨#[x0, x1, x2, x3, x4, x5, x6, x7, x8, x9, x10, x11, x12, x13, x14, x15, x16, x17, x18, x19, x20, x21, x22, x23], h⟩ k =
(binV Try.prog .geq 46 (.tmp 8) (.const (Go.Value.int Go.IntKind.u64 128)) x1 (Go.Value.int Go.IntKind.u64 128)).bind fun t9_4 =>
cnd t9_4 (
(binV Try.prog .rem 46 (.tmp 11) (.const (Go.Value.int Go.IntKind.u64 128)) x1 (Go.Value.int Go.IntKind.u64 128)).bind fun t12_5 =>
obH (convV Try.prog 46 5 t12_5 h) fun t13_6 h7 =>
(binV Try.prog .add 5 (.tmp 13) (.const (Go.Value.int Go.IntKind.u8 128)) t13_6 (Go.Value.int Go.IntKind.u8 128)).bind fun t14_8 =>
obH (buildSliceV Try.prog 23 1 #[(0, t14_8)] h7) fun t15_9 h10 =>
obH (appendV Try.prog 23 (some 23) x0 t15_9 h10) fun t16_11 h12 =>
(binV Try.prog .quo 46 (.tmp 17) (.const (Go.Value.int Go.IntKind.u64 128)) x1 (Go.Value.int Go.IntKind.u64 128)).bind fun t18_13 =>
k .normal ⟨#[t16_11, t18_13, x2, x3, x4, x5, x6, x7, x1, t9_4, x0, x1, t12_5, t13_6, t14_8, t15_9, t16_11, x1, t18_13, x19, x20, x21, x22, x23], h12⟩) (
k (.exit 0) ⟨#[x0, x1, x2, x3, x4, x5, x6, x7, x1, t9_4, x10, x11, x12, x13, x14, x15, x16, x17, x18, x19, x20, x21, x22, x23], h⟩) := by kernel_rfl
theorem c106_2_eq {β : Type} (x0 x1 x2 x3 x4 x5 x6 x7 x8 x9 x10 x11 x12 x13 x14 x15 x16 x17 x18 x19 x20 x21 x22 x23 : Value) (h : Heap) (k : Ex → St → Option β) : codeK Try.prog (evC Try.prog) loopL c106_2 ⟨#[x0, x1, x2, x3, x4, x5, x6, x7, x8, x9, x10, x11, x12, x13, x14, x15, x16, x17, x18, x19, x20, x21, x22, x23], h⟩ k =
obH (convV Try.prog 46 5 x1 h) fun t21_14 h15 =>
obH (buildSliceV Try.prog 23 1 #[(0, t21_14)] h15) fun t22_16 h17 =>
obH (appendV Try.prog 23 (some 23) x0 t22_16 h17) fun t23_18 h19 =>
k .ret ⟨#[x0, x1, x2, x3, t23_18, x5, x6, x7, x8, x9, x10, x11, x12, x13, x14, x15, x16, x17, x18, x0, x1, t21_14, t22_16, t23_18], h19⟩ := by kernel_rfl
theorem call106 (x0 x1 : Value) (h : Heap) : evC Try.prog 106 #[x0, x1] h = codeK Try.prog (evC Try.prog) loopL c106_0 ⟨#[x0, x1, undef, undef, undef, undef, undef, undef, undef, undef, undef, undef, undef, undef, undef, undef, undef, undef, undef, undef, undef, undef, undef, undef], nm h⟩ (retK Try.f106 Try.prog h) :=
  (evC_call 106 Try.f106 c106_0 Try.func106 (by kernel_rfl) #[x0, x1] h).trans (by kernel_rfl)
theorem ret106 (x0 x1 x2 x3 x4 x5 x6 x7 x8 x9 x10 x11 x12 x13 x14 x15 x16 x17 x18 x19 x20 x21 x22 x23 : Value) (h0 h : Heap) : retK Try.f106 Try.prog h0 .ret ⟨#[x0, x1, x2, x3, x4, x5, x6, x7, x8, x9, x10, x11, x12, x13, x14, x15, x16, x17, x18, x19, x20, x21, x22, x23], h⟩ = fin h0 (some x4) h := by kernel_rfl
theorem retn106 (x0 x1 x2 x3 x4 x5 x6 x7 x8 x9 x10 x11 x12 x13 x14 x15 x16 x17 x18 x19 x20 x21 x22 x23 : Value) (h0 h : Heap) : retK Try.f106 Try.prog h0 .normal ⟨#[x0, x1, x2, x3, x4, x5, x6, x7, x8, x9, x10, x11, x12, x13, x14, x15, x16, x17, x18, x19, x20, x21, x22, x23], h⟩ = fin h0 (some x4) h := by kernel_rfl
end Go.Am
namespace Go.Am
open Go.Proofs
set_option maxRecDepth 100000
noncomputable def c98_0 : Code := bodyC Try.f98 []
noncomputable def c98_1 : Code := bodyC Try.f98 [true, true, false, true, false, false]
noncomputable def c98_2 : Code := bodyC Try.f98 [true, true, true]
theorem c98_0_eq {β : Type} (x0 x1 x2 x3 x4 x5 x6 x7 x8 x9 x10 x11 x12 x13 x14 x15 x16 x17 x18 x19 x20 x21 x22 x23 x24 x25 x26 x27 x28 x29 x30 x31 x32 x33 x34 x35 x36 x37 x38 x39 x40 x41 x42 x43 x44 x45 x46 : Value) (h : Heap) (k : Ex → St → Option β) : codeK Try.prog (evC Try.prog) loopL c98_0 ⟨#[x0, x1, x2, x3, x4, x5, x6, x7, x8, x9, x10, x11, x12, x13, x14, x15, x16, x17, x18, x19, x20, x21, x22, x23, x24, x25, x26, x27, x28, x29, x30, x31, x32, x33, x34, x35, x36, x37, x38, x39, x40, x41, x42, x43, x44, x45, x46], h⟩ k =
loopK Try.prog (evC Try.prog) c98_1 ⟨#[x0, x1, (Go.Value.int Go.IntKind.u64 0), (Go.Value.int Go.IntKind.i64 0), (Go.Value.int Go.IntKind.u64 0), (Go.Value.int Go.IntKind.i64 0), x6, x7, x8, x9, x10, x11, x12, x13, x14, x15, x16, x17, x18, x19, x20, x21, x22, x23, x24, x25, x26, x27, x28, x29, x30, x31, x32, x33, x34, x35, x36, x37, x38, x39, x40, x41, x42, x43, x44, x45, x46], h⟩ (blockK 0 (seqK Try.prog (evC Try.prog) c98_2 k)) := by kernel_rfl
theorem c98_1_eq {β : Type} (x0 x1 x2 x3 x4 x5 x6 x7 x8 x9 x10 x11 x12 x13 x14 x15 x16 x17 x18 x19 x20 x21 x22 x23 x24 x25 x26 x27 x28 x29 x30 x31 x32 x33 x34 x35 x36 x37 x38 x39 x40 x41 x42 x43 x44 x45 x46 : Value) (h : Heap) (k : Ex → St → Option β) : codeK Try.prog (evC Try.prog) loopL c98_1 ⟨#[x0, x1, x2, x3, x4, x5, x6, x7, x8, x9, x10, x11, x12, x13, x14, x15, x16, x17, x18, x19, x20, x21, x22, x23, x24, x25, x26, x27, x28, x29, x30, x31, x32, x33, x34, x35, x36, x37, x38, x39, x40, x41, x42, x43, x44, x45, x46], h⟩ k =
(lenV Try.prog 23 x0 h).bind fun t9_0 =>
(binV Try.prog .lss 3 (.tmp 7) (.tmp 9) x5 t9_0).bind fun t10_1 =>
(gd (wt t10_1 true) (binV Try.prog .lss 3 (.tmp 12) (.const (Go.Value.int Go.IntKind.i64 10)) (gdV (wt t10_1 true) x5) (Go.Value.int Go.IntKind.i64 10))).bind fun t13_2 =>
(pickV t10_1 t13_2 (Go.Value.bool Bool.false)).bind fun t14_3 =>
cnd t14_3 (
(indexAddrV Try.prog 23 x0 x5).bind fun t19_4 =>
(loadV Try.prog 5 t19_4 h).bind fun t20_5 =>
(binV Try.prog .eql 3 (.tmp 21) (.const (Go.Value.int Go.IntKind.i64 9)) x5 (Go.Value.int Go.IntKind.i64 9)).bind fun t22_6 =>
(gd (wt t22_6 true) (binV Try.prog .gtr 5 (.tmp 24) (.const (Go.Value.int Go.IntKind.u8 1)) (gdV (wt t22_6 true) t20_5) (Go.Value.int Go.IntKind.u8 1))).bind fun t25_7 =>
(pickV t22_6 t25_7 (Go.Value.bool Bool.false)).bind fun t26_8 =>
cnd t26_8 (
k .ret ⟨#[x0, x1, (Go.Value.int Go.IntKind.u64 0), (Go.Value.int Go.IntKind.i64 0), x4, x5, t20_5, x5, x0, t9_0, t10_1, t10_1, (gdV (wt t10_1 true) x5), t13_2, t14_3, x15, x16, x0, x5, t19_4, t20_5, x5, t22_6, t22_6, (gdV (wt t22_6 true) t20_5), t25_7, t26_8, x27, x28, x29, x30, x31, x32, x33, x34, x35, x36, x37, x38, x39, x40, x41, x42, x43, x44, x45, x46], h⟩) (
(binV Try.prog .and 5 (.tmp 28) (.const (Go.Value.int Go.IntKind.u8 127)) t20_5 (Go.Value.int Go.IntKind.u8 127)).bind fun t29_9 =>
obH (convV Try.prog 5 46 t29_9 h) fun t30_10 h11 =>
(binV Try.prog .mul 3 (.const (Go.Value.int Go.IntKind.i64 7)) (.tmp 31) (Go.Value.int Go.IntKind.i64 7) x5).bind fun t32_12 =>
obH (convV Try.prog 3 138 t32_12 h11) fun t33_13 h14 =>
(binV Try.prog .shl 46 (.tmp 30) (.tmp 33) t30_10 t33_13).bind fun t34_15 =>
(binV Try.prog .or 46 (.tmp 27) (.tmp 34) x4 t34_15).bind fun t35_16 =>
(binV Try.prog .lss 5 (.tmp 36) (.const (Go.Value.int Go.IntKind.u8 128)) t20_5 (Go.Value.int Go.IntKind.u8 128)).bind fun t37_17 =>
cnd t37_17 (
(binV Try.prog .eql 5 (.tmp 38) (.const (Go.Value.int Go.IntKind.u8 0)) t20_5 (Go.Value.int Go.IntKind.u8 0)).bind fun t39_18 =>
(gd (wt t39_18 true) (binV Try.prog .gtr 3 (.tmp 41) (.const (Go.Value.int Go.IntKind.i64 0)) (gdV (wt t39_18 true) x5) (Go.Value.int Go.IntKind.i64 0))).bind fun t42_19 =>
(pickV t39_18 t42_19 (Go.Value.bool Bool.false)).bind fun t43_20 =>
cnd t43_20 (
k .ret ⟨#[x0, x1, (Go.Value.int Go.IntKind.u64 0), (Go.Value.int Go.IntKind.i64 0), t35_16, x5, t20_5, x5, x0, t9_0, t10_1, t10_1, (gdV (wt t10_1 true) x5), t13_2, t14_3, x15, x16, x0, x5, t19_4, t20_5, x5, t22_6, t22_6, (gdV (wt t22_6 true) t20_5), t25_7, t26_8, x4, t20_5, t29_9, t30_10, x5, t32_12, t33_13, t34_15, t35_16, t20_5, t37_17, t20_5, t39_18, t39_18, (gdV (wt t39_18 true) x5), t42_19, t43_20, x44, x45, x46], h14⟩) (
(binV Try.prog .add 3 (.tmp 45) (.const (Go.Value.int Go.IntKind.i64 1)) x5 (Go.Value.int Go.IntKind.i64 1)).bind fun t46_21 =>
k .ret ⟨#[x0, x1, t35_16, t46_21, t35_16, x5, t20_5, x5, x0, t9_0, t10_1, t10_1, (gdV (wt t10_1 true) x5), t13_2, t14_3, x15, x16, x0, x5, t19_4, t20_5, x5, t22_6, t22_6, (gdV (wt t22_6 true) t20_5), t25_7, t26_8, x4, t20_5, t29_9, t30_10, x5, t32_12, t33_13, t34_15, t35_16, t20_5, t37_17, t20_5, t39_18, t39_18, (gdV (wt t39_18 true) x5), t42_19, t43_20, t35_16, x5, t46_21], h14⟩)) (
(binV Try.prog .add 3 (.tmp 15) (.const (Go.Value.int Go.IntKind.i64 1)) x5 (Go.Value.int Go.IntKind.i64 1)).bind fun t16_22 =>
k .normal ⟨#[x0, x1, x2, x3, t35_16, t16_22, t20_5, x5, x0, t9_0, t10_1, t10_1, (gdV (wt t10_1 true) x5), t13_2, t14_3, x5, t16_22, x0, x5, t19_4, t20_5, x5, t22_6, t22_6, (gdV (wt t22_6 true) t20_5), t25_7, t26_8, x4, t20_5, t29_9, t30_10, x5, t32_12, t33_13, t34_15, t35_16, t20_5, t37_17, x38, x39, x40, x41, x42, x43, x44, x45, x46], h14⟩))) (
k (.exit 0) ⟨#[x0, x1, x2, x3, x4, x5, x6, x5, x0, t9_0, t10_1, t10_1, (gdV (wt t10_1 true) x5), t13_2, t14_3, x15, x16, x17, x18, x19, x20, x21, x22, x23, x24, x25, x26, x27, x28, x29, x30, x31, x32, x33, x34, x35, x36, x37, x38, x39, x40, x41, x42, x43, x44, x45, x46], h⟩) := by kernel_rfl
theorem c98_2_eq {β : Type} (x0 x1 x2 x3 x4 x5 x6 x7 x8 x9 x10 x11 x12 x13 x14 x15 x16 x17 x18 x19 x20 x21 x22 x23 x24 x25 x26 x27 x28 x29 x30 x31 x32 x33 x34 x35 x36 x37 x38 x39 x40 x41 x42 x43 x44 x45 x46 : Value) (h : Heap) (k : Ex → St → Option β) : codeK Try.prog (evC Try.prog) loopL c98_2 ⟨#[x0, x1, x2, x3, x4, x5, x6, x7, x8, x9, x10, x11, x12, x13, x14, x15, x16, x17, x18, x19, x20, x21, x22, x23, x24, x25, x26, x27, x28, x29, x30, x31, x32, x33, x34, x35, x36, x37, x38, x39, x40, x41, x42, x43, x44, x45, x46], h⟩ k =
k .ret ⟨#[x0, x1, (Go.Value.int Go.IntKind.u64 0), (Go.Value.int Go.IntKind.i64 0), x4, x5, x6, x7, x8, x9, x10, x11, x12, x13, x14, x15, x16, x17, x18, x19, x20, x21, x22, x23, x24, x25, x26, x27, x28, x29, x30, x31, x32, x33, x34, x35, x36, x37, x38, x39, x40, x41, x42, x43, x44, x45, x46], h⟩ := by kernel_rfl
theorem call98 (x0 : Value) (h : Heap) : evC Try.prog 98 #[x0] h = codeK Try.prog (evC Try.prog) loopL c98_0 ⟨#[x0, undef, undef, undef, undef, undef, undef, undef, undef, undef, undef, undef, undef, undef, undef, undef, undef, undef, undef, undef, undef, undef, undef, undef, undef, undef, undef, undef, undef, undef, undef, undef, undef, undef, undef, undef, undef, undef, undef, undef, undef, undef, undef, undef, undef, undef, undef], nm h⟩ (retK Try.f98 Try.prog h) :=
  (evC_call 98 Try.f98 c98_0 Try.func98 (by kernel_rfl) #[x0] h).trans (by kernel_rfl)
theorem ret98 (x0 x1 x2 x3 x4 x5 x6 x7 x8 x9 x10 x11 x12 x13 x14 x15 x16 x17 x18 x19 x20 x21 x22 x23 x24 x25 x26 x27 x28 x29 x30 x31 x32 x33 x34 x35 x36 x37 x38 x39 x40 x41 x42 x43 x44 x45 x46 : Value) (h0 h : Heap) : retK Try.f98 Try.prog h0 .ret ⟨#[x0, x1, x2, x3, x4, x5, x6, x7, x8, x9, x10, x11, x12, x13, x14, x15, x16, x17, x18, x19, x20, x21, x22, x23, x24, x25, x26, x27, x28, x29, x30, x31, x32, x33, x34, x35, x36, x37, x38, x39, x40, x41, x42, x43, x44, x45, x46], h⟩ = fin h0 (some (.tuple #[x2, x3])) h := by kernel_rfl
theorem retn98 (x0 x1 x2 x3 x4 x5 x6 x7 x8 x9 x10 x11 x12 x13 x14 x15 x16 x17 x18 x19 x20 x21 x22 x23 x24 x25 x26 x27 x28 x29 x30 x31 x32 x33 x34 x35 x36 x37 x38 x39 x40 x41 x42 x43 x44 x45 x46 : Value) (h0 h : Heap) : retK Try.f98 Try.prog h0 .normal ⟨#[x0, x1, x2, x3, x4, x5, x6, x7, x8, x9, x10, x11, x12, x13, x14, x15, x16, x17, x18, x19, x20, x21, x22, x23, x24, x25, x26, x27, x28, x29, x30, x31, x32, x33, x34, x35, x36, x37, x38, x39, x40, x41, x42, x43, x44, x45, x46], h⟩ = fin h0 (some (.tuple #[x2, x3])) h := by kernel_rfl
end Go.Am
namespace Go.Am
open Go.Proofs
set_option maxRecDepth 100000
noncomputable def c58_0 : Code := bodyC Try.f58 []
theorem c58_0_eq {β : Type} (x0 x1 x2 x3 x4 x5 x6 x7 x8 x9 x10 x11 x12 : Value) (h : Heap) (k : Ex → St → Option β) : codeK Try.prog (evC Try.prog) loopL c58_0 ⟨#[x0, x1, x2, x3, x4, x5, x6, x7, x8, x9, x10, x11, x12], h⟩ k =
(nilCheckV x0).bind fun t6_0 =>
(fieldAddrV Try.prog 97 t6_0 0).bind fun t7_1 =>
(loadV Try.prog 23 t7_1 h).bind fun t8_2 =>
obH (evC Try.prog 106 #[t8_2, x1] h) fun t10_3 h4 =>
(nilCheckV x0).bind fun t11_5 =>
(fieldAddrV Try.prog 97 t11_5 0).bind fun t12_6 =>
(storeV Try.prog 23 t12_6 t10_3 h4).bind fun h7 =>
k .normal ⟨#[x0, x1, x2, x3, x0, x0, t6_0, t7_1, t8_2, x1, t10_3, t11_5, t12_6], h7⟩ := by kernel_rfl
theorem call58 (x0 x1 : Value) (h : Heap) : evC Try.prog 58 #[x0, x1] h = codeK Try.prog (evC Try.prog) loopL c58_0 ⟨#[x0, x1, undef, undef, undef, undef, undef, undef, undef, undef, undef, undef, undef], nm h⟩ (retK Try.f58 Try.prog h) :=
  (evC_call 58 Try.f58 c58_0 Try.func58 (by kernel_rfl) #[x0, x1] h).trans (by kernel_rfl)
theorem ret58 (x0 x1 x2 x3 x4 x5 x6 x7 x8 x9 x10 x11 x12 : Value) (h0 h : Heap) : retK Try.f58 Try.prog h0 .ret ⟨#[x0, x1, x2, x3, x4, x5, x6, x7, x8, x9, x10, x11, x12], h⟩ = fin h0 (some (.tuple #[])) h := by kernel_rfl
theorem retn58 (x0 x1 x2 x3 x4 x5 x6 x7 x8 x9 x10 x11 x12 : Value) (h0 h : Heap) : retK Try.f58 Try.prog h0 .normal ⟨#[x0, x1, x2, x3, x4, x5, x6, x7, x8, x9, x10, x11, x12], h⟩ = fin h0 (some (.tuple #[])) h := by kernel_rfl
end Go.Am
namespace Go.Am
open Go.Proofs
set_option maxRecDepth 100000
noncomputable def c62_0 : Code := bodyC Try.f62 []
theorem c62_0_eq {β : Type} (x0 x1 x2 x3 x4 x5 x6 x7 x8 x9 x10 x11 x12 x13 x14 x15 x16 x17 : Value) (h : Heap) (k : Ex → St → Option β) : codeK Try.prog (evC Try.prog) loopL c62_0 ⟨#[x0, x1, x2, x3, x4, x5, x6, x7, x8, x9, x10, x11, x12, x13, x14, x15, x16, x17], h⟩ k =
(lenV Try.prog 23 x1 h).bind fun t6_0 =>
obH (convV Try.prog 3 46 t6_0 h) fun t7_1 h2 =>
obH (evC Try.prog 58 #[x0, t7_1] h2) fun t8_3 h4 =>
(nilCheckV x0).bind fun t11_5 =>
(fieldAddrV Try.prog 97 t11_5 0).bind fun t12_6 =>
(loadV Try.prog 23 t12_6 h4).bind fun t13_7 =>
obH (appendV Try.prog 23 (some 23) t13_7 x1 h4) fun t15_8 h9 =>
(nilCheckV x0).bind fun t16_10 =>
(fieldAddrV Try.prog 97 t16_10 0).bind fun t17_11 =>
(storeV Try.prog 23 t17_11 t15_8 h9).bind fun h12 =>
k .normal ⟨#[x0, x1, x2, x3, x0, x1, t6_0, t7_1, t8_3, x0, x0, t11_5, t12_6, t13_7, x1, t15_8, t16_10, t17_11], h12⟩ := by kernel_rfl
theorem call62 (x0 x1 : Value) (h : Heap) : evC Try.prog 62 #[x0, x1] h = codeK Try.prog (evC Try.prog) loopL c62_0 ⟨#[x0, x1, undef, undef, undef, undef, undef, undef, undef, undef, undef, undef, undef, undef, undef, undef, undef, undef], nm h⟩ (retK Try.f62 Try.prog h) :=
  (evC_call 62 Try.f62 c62_0 Try.func62 (by kernel_rfl) #[x0, x1] h).trans (by kernel_rfl)
theorem ret62 (x0 x1 x2 x3 x4 x5 x6 x7 x8 x9 x10 x11 x12 x13 x14 x15 x16 x17 : Value) (h0 h : Heap) : retK Try.f62 Try.prog h0 .ret ⟨#[x0, x1, x2, x3, x4, x5, x6, x7, x8, x9, x10, x11, x12, x13, x14, x15, x16, x17], h⟩ = fin h0 (some (.tuple #[])) h := by kernel_rfl
theorem retn62 (x0 x1 x2 x3 x4 x5 x6 x7 x8 x9 x10 x11 x12 x13 x14 x15 x16 x17 : Value) (h0 h : Heap) : retK Try.f62 Try.prog h0 .normal ⟨#[x0, x1, x2, x3, x4, x5, x6, x7, x8, x9, x10, x11, x12, x13, x14, x15, x16, x17], h⟩ = fin h0 (some (.tuple #[])) h := by kernel_rfl
end Go.Am
namespace Go.Am
open Go.Proofs
set_option maxRecDepth 100000
noncomputable def c48_0 : Code := bodyC Try.f48 []
theorem c48_0_eq {β : Type} (x0 x1 x2 x3 x4 x5 x6 x7 x8 x9 x10 x11 x12 x13 x14 x15 x16 x17 x18 x19 x20 x21 x22 x23 x24 x25 x26 x27 x28 x29 x30 x31 x32 x33 x34 x35 x36 x37 x38 x39 : Value) (h : Heap) (k : Ex → St → Option β) : codeK Try.prog (evC Try.prog) loopL c48_0 ⟨#[x0, x1, x2, x3, x4, x5, x6, x7, x8, x9, x10, x11, x12, x13, x14, x15, x16, x17, x18, x19, x20, x21, x22, x23, x24, x25, x26, x27, x28, x29, x30, x31, x32, x33, x34, x35, x36, x37, x38, x39], h⟩ k =
(nilCheckV x0).bind fun t9_0 =>
(fieldAddrV Try.prog 83 t9_0 0).bind fun t10_1 =>
(loadV Try.prog 23 t10_1 h).bind fun t11_2 =>
obH (evC Try.prog 98 #[t11_2] h) fun t12_3 h4 =>
(extractV t12_3 0).bind fun t13_5 =>
(extractV t12_3 1).bind fun t14_6 =>
(nilCheckV x0).bind fun t16_7 =>
(fieldAddrV Try.prog 83 t16_7 1).bind fun t17_8 =>
(loadV Try.prog 4 t17_8 h4).bind fun t18_9 =>
(gd (wt t18_9 false) (binV Try.prog .eql 3 (.tmp 20) (.const (Go.Value.int Go.IntKind.i64 0)) (gdV (wt t18_9 false) t14_6) (Go.Value.int Go.IntKind.i64 0))).bind fun t21_10 =>
(pickV t18_9 (Go.Value.bool Bool.true) t21_10).bind fun t22_11 =>
(gd (wt t22_11 false) (binV Try.prog .gtr 46 (.tmp 24) (.tmp 25) (gdV (wt t22_11 false) t13_5) (gdV (wt t22_11 false) x1))).bind fun t26_12 =>
(pickV t22_11 (Go.Value.bool Bool.true) t26_12).bind fun t27_13 =>
cnd t27_13 (
obH (evC Try.prog 99 #[x0] h4) fun t29_14 h15 =>
k .ret ⟨#[x0, x1, x2, x3, (Go.Value.int Go.IntKind.u64 0), t13_5, t14_6, t12_3, x0, t9_0, t10_1, t11_2, t12_3, t13_5, t14_6, x0, t16_7, t17_8, t18_9, t18_9, (gdV (wt t18_9 false) t14_6), t21_10, t22_11, t22_11, (gdV (wt t22_11 false) t13_5), (gdV (wt t22_11 false) x1), t26_12, t27_13, x0, t29_14, x30, x31, x32, x33, x34, x35, x36, x37, x38, x39], h15⟩) (
(nilCheckV x0).bind fun t32_16 =>
(fieldAddrV Try.prog 83 t32_16 0).bind fun t33_17 =>
(loadV Try.prog 23 t33_17 h4).bind fun t34_18 =>
(sliceV Try.prog 23 t34_18 (some t14_6) none none h4).bind fun t36_19 =>
(nilCheckV x0).bind fun t37_20 =>
(fieldAddrV Try.prog 83 t37_20 0).bind fun t38_21 =>
(storeV Try.prog 23 t38_21 t36_19 h4).bind fun h22 =>
k .ret ⟨#[x0, x1, x2, x3, t13_5, t13_5, t14_6, t12_3, x0, t9_0, t10_1, t11_2, t12_3, t13_5, t14_6, x0, t16_7, t17_8, t18_9, t18_9, (gdV (wt t18_9 false) t14_6), t21_10, t22_11, t22_11, (gdV (wt t22_11 false) t13_5), (gdV (wt t22_11 false) x1), t26_12, t27_13, x28, x29, x0, x0, t32_16, t33_17, t34_18, t14_6, t36_19, t37_20, t38_21, t13_5], h22⟩) := by kernel_rfl
theorem call48 (x0 x1 : Value) (h : Heap) : evC Try.prog 48 #[x0, x1] h = codeK Try.prog (evC Try.prog) loopL c48_0 ⟨#[x0, x1, undef, undef, undef, undef, undef, undef, undef, undef, undef, undef, undef, undef, undef, undef, undef, undef, undef, undef, undef, undef, undef, undef, undef, undef, undef, undef, undef, undef, undef, undef, undef, undef, undef, undef, undef, undef, undef, undef], nm h⟩ (retK Try.f48 Try.prog h) :=
  (evC_call 48 Try.f48 c48_0 Try.func48 (by kernel_rfl) #[x0, x1] h).trans (by kernel_rfl)
theorem ret48 (x0 x1 x2 x3 x4 x5 x6 x7 x8 x9 x10 x11 x12 x13 x14 x15 x16 x17 x18 x19 x20 x21 x22 x23 x24 x25 x26 x27 x28 x29 x30 x31 x32 x33 x34 x35 x36 x37 x38 x39 : Value) (h0 h : Heap) : retK Try.f48 Try.prog h0 .ret ⟨#[x0, x1, x2, x3, x4, x5, x6, x7, x8, x9, x10, x11, x12, x13, x14, x15, x16, x17, x18, x19, x20, x21, x22, x23, x24, x25, x26, x27, x28, x29, x30, x31, x32, x33, x34, x35, x36, x37, x38, x39], h⟩ = fin h0 (some x4) h := by kernel_rfl
theorem retn48 (x0 x1 x2 x3 x4 x5 x6 x7 x8 x9 x10 x11 x12 x13 x14 x15 x16 x17 x18 x19 x20 x21 x22 x23 x24 x25 x26 x27 x28 x29 x30 x31 x32 x33 x34 x35 x36 x37 x38 x39 : Value) (h0 h : Heap) : retK Try.f48 Try.prog h0 .normal ⟨#[x0, x1, x2, x3, x4, x5, x6, x7, x8, x9, x10, x11, x12, x13, x14, x15, x16, x17, x18, x19, x20, x21, x22, x23, x24, x25, x26, x27, x28, x29, x30, x31, x32, x33, x34, x35, x36, x37, x38, x39], h⟩ = fin h0 (some x4) h := by kernel_rfl
end Go.Am
namespace Go.Am
open Go.Proofs
set_option maxRecDepth 100000
noncomputable def c55_0 : Code := bodyC Try.f55 []
theorem c55_0_eq {β : Type} (x0 x1 x2 x3 x4 x5 x6 x7 x8 x9 x10 x11 x12 x13 x14 x15 x16 x17 x18 x19 x20 x21 x22 x23 x24 x25 x26 x27 x28 x29 x30 x31 x32 x33 x34 x35 x36 x37 x38 x39 x40 x41 x42 x43 x44 x45 x46 x47 x48 x49 x50 x51 x52 x53 x54 x55 x56 x57 x58 x59 x60 x61 x62 x63 x64 x65 x66 x67 x68 x69 x70 x71 x72 x73 x74 x75 x76 x77 x78 x79 x80 x81 x82 x83 x84 x85 x86 x87 x88 x89 x90 x91 x92 x93 x94 : Value) (h : Heap) (k : Ex → St → Option β) : codeK Try.prog (evC Try.prog) loopL c55_0 ⟨#[x0, x1, x2, x3, x4, x5, x6, x7, x8, x9, x10, x11, x12, x13, x14, x15, x16, x17, x18, x19, x20, x21, x22, x23, x24, x25, x26, x27, x28, x29, x30, x31, x32, x33, x34, x35, x36, x37, x38, x39, x40, x41, x42, x43, x44, x45, x46, x47, x48, x49, x50, x51, x52, x53, x54, x55, x56, x57, x58, x59, x60, x61, x62, x63, x64, x65, x66, x67, x68, x69, x70, x71, x72, x73, x74, x75, x76, x77, x78, x79, x80, x81, x82, x83, x84, x85, x86, x87, x88, x89, x90, x91, x92, x93, x94], h⟩ k =
(nilCheckV x0).bind fun t10_0 =>
(fieldAddrV Try.prog 83 t10_0 0).bind fun t11_1 =>
(loadV Try.prog 23 t11_1 h).bind fun t12_2 =>
obH (evC Try.prog 98 #[t12_2] h) fun t13_3 h4 =>
(extractV t13_3 0).bind fun t14_5 =>
(extractV t13_3 1).bind fun t15_6 =>
(nilCheckV x0).bind fun t17_7 =>
(fieldAddrV Try.prog 83 t17_7 1).bind fun t18_8 =>
(loadV Try.prog 4 t18_8 h4).bind fun t19_9 =>
(gd (wt t19_9 false) (binV Try.prog .eql 3 (.tmp 21) (.const (Go.Value.int Go.IntKind.i64 0)) (gdV (wt t19_9 false) t15_6) (Go.Value.int Go.IntKind.i64 0))).bind fun t22_10 =>
(pickV t19_9 (Go.Value.bool Bool.true) t22_10).bind fun t23_11 =>
(gd (wt t23_11 false) (binV Try.prog .lss 3 (.tmp 25) (.const (Go.Value.int Go.IntKind.i64 0)) (gdV (wt t23_11 false) x1) (Go.Value.int Go.IntKind.i64 0))).bind fun t26_12 =>
(pickV t23_11 (Go.Value.bool Bool.true) t26_12).bind fun t27_13 =>
obH (gdH (wt t27_13 false) h4 (convV Try.prog 3 46 (gdV (wt t27_13 false) x1) h4)) fun t31_14 h15 =>
(gd (wt t27_13 false) (binV Try.prog .gtr 46 (.tmp 29) (.tmp 31) (gdV (wt t27_13 false) t14_5) t31_14)).bind fun t32_16 =>
(pickV t27_13 (Go.Value.bool Bool.true) t32_16).bind fun t33_17 =>
(gd (wt t33_17 false) (nilCheckV (gdV (wt t33_17 false) x0))).bind fun t37_18 =>
(gd (wt t33_17 false) (fieldAddrV Try.prog 83 t37_18 0)).bind fun t38_19 =>
(gd (wt t33_17 false) (loadV Try.prog 23 t38_19 h15)).bind fun t39_20 =>
(gd (wt t33_17 false) (lenV Try.prog 23 t39_20 h15)).bind fun t40_21 =>
(gd (wt t33_17 false) (binV Try.prog .sub 3 (.tmp 40) (.tmp 41) t40_21 (gdV (wt t33_17 false) t15_6))).bind fun t42_22 =>
obH (gdH (wt t33_17 false) h15 (convV Try.prog 3 46 t42_22 h15)) fun t43_23 h24 =>
(gd (wt t33_17 false) (binV Try.prog .gtr 46 (.tmp 35) (.tmp 43) (gdV (wt t33_17 false) t14_5) t43_23)).bind fun t44_25 =>
(pickV t33_17 (Go.Value.bool Bool.true) t44_25).bind fun t45_26 =>
cnd t45_26 (
(nilCheckV x0).bind fun t47_27 =>
(fieldAddrV Try.prog 83 t47_27 1).bind fun t48_28 =>
(loadV Try.prog 4 t48_28 h24).bind fun t49_29 =>
(unV Try.prog .not t49_29).bind fun t50_30 =>
(gd (wt t50_30 true) (binV Try.prog .gtr 3 (.tmp 52) (.const (Go.Value.int Go.IntKind.i64 0)) (gdV (wt t50_30 true) t15_6) (Go.Value.int Go.IntKind.i64 0))).bind fun t53_31 =>
(pickV t50_30 t53_31 (Go.Value.bool Bool.false)).bind fun t54_32 =>
(gd (wt t54_32 true) (binV Try.prog .eql 46 (.tmp 56) (.const (Go.Value.int Go.IntKind.u64 0)) (gdV (wt t54_32 true) t14_5) (Go.Value.int Go.IntKind.u64 0))).bind fun t57_33 =>
(pickV t54_32 t57_33 (Go.Value.bool Bool.false)).bind fun t58_34 =>
cnd t58_34 (
(nilCheckV x0).bind fun t61_35 =>
(fieldAddrV Try.prog 83 t61_35 0).bind fun t62_36 =>
(loadV Try.prog 23 t62_36 h24).bind fun t63_37 =>
(sliceV Try.prog 23 t63_37 (some t15_6) none none h24).bind fun t65_38 =>
(nilCheckV x0).bind fun t66_39 =>
(fieldAddrV Try.prog 83 t66_39 0).bind fun t67_40 =>
(storeV Try.prog 23 t67_40 t65_38 h24).bind fun h41 =>
k .ret ⟨#[x0, x1, x2, x3, (Go.Value.slice Option.none 0 0), t14_5, t15_6, x7, t13_3, x0, t10_0, t11_1, t12_2, t13_3, t14_5, t15_6, x0, t17_7, t18_8, t19_9, t19_9, (gdV (wt t19_9 false) t15_6), t22_10, t23_11, t23_11, (gdV (wt t23_11 false) x1), t26_12, t27_13, t27_13, (gdV (wt t27_13 false) t14_5), (gdV (wt t27_13 false) x1), t31_14, t32_16, t33_17, t33_17, (gdV (wt t33_17 false) t14_5), (gdV (wt t33_17 false) x0), t37_18, t38_19, t39_20, t40_21, (gdV (wt t33_17 false) t15_6), t42_22, t43_23, t44_25, t45_26, x0, t47_27, t48_28, t49_29, t50_30, t50_30, (gdV (wt t50_30 true) t15_6), t53_31, t54_32, t54_32, (gdV (wt t54_32 true) t14_5), t57_33, t58_34, x0, x0, t61_35, t62_36, t63_37, t15_6, t65_38, t66_39, t67_40, x68, x69, x70, x71, x72, x73, x74, x75, x76, x77, x78, x79, x80, x81, x82, x83, x84, x85, x86, x87, x88, x89, x90, x91, x92, x93, x94], h41⟩) (
obH (evC Try.prog 99 #[x0] h24) fun t69_42 h43 =>
k .ret ⟨#[x0, x1, x2, x3, (Go.Value.slice Option.none 0 0), t14_5, t15_6, x7, t13_3, x0, t10_0, t11_1, t12_2, t13_3, t14_5, t15_6, x0, t17_7, t18_8, t19_9, t19_9, (gdV (wt t19_9 false) t15_6), t22_10, t23_11, t23_11, (gdV (wt t23_11 false) x1), t26_12, t27_13, t27_13, (gdV (wt t27_13 false) t14_5), (gdV (wt t27_13 false) x1), t31_14, t32_16, t33_17, t33_17, (gdV (wt t33_17 false) t14_5), (gdV (wt t33_17 false) x0), t37_18, t38_19, t39_20, t40_21, (gdV (wt t33_17 false) t15_6), t42_22, t43_23, t44_25, t45_26, x0, t47_27, t48_28, t49_29, t50_30, t50_30, (gdV (wt t50_30 true) t15_6), t53_31, t54_32, t54_32, (gdV (wt t54_32 true) t14_5), t57_33, t58_34, x59, x60, x61, x62, x63, x64, x65, x66, x67, x0, t69_42, x70, x71, x72, x73, x74, x75, x76, x77, x78, x79, x80, x81, x82, x83, x84, x85, x86, x87, x88, x89, x90, x91, x92, x93, x94], h43⟩)) (
obH (buildSliceV Try.prog 23 0 #[] h24) fun t70_44 h45 =>
(nilCheckV x0).bind fun t72_46 =>
(fieldAddrV Try.prog 83 t72_46 0).bind fun t73_47 =>
(loadV Try.prog 23 t73_47 h45).bind fun t74_48 =>
obH (convV Try.prog 46 3 t14_5 h45) fun t78_49 h50 =>
(binV Try.prog .add 3 (.tmp 76) (.tmp 78) t15_6 t78_49).bind fun t79_51 =>
(sliceV Try.prog 23 t74_48 (some t15_6) (some t79_51) none h50).bind fun t80_52 =>
obH (appendV Try.prog 23 (some 23) t70_44 t80_52 h50) fun t81_53 h54 =>
(nilCheckV x0).bind fun t84_55 =>
(fieldAddrV Try.prog 83 t84_55 0).bind fun t85_56 =>
(loadV Try.prog 23 t85_56 h54).bind fun t86_57 =>
obH (convV Try.prog 46 3 t14_5 h54) fun t89_58 h59 =>
(binV Try.prog .add 3 (.tmp 87) (.tmp 89) t15_6 t89_58).bind fun t90_60 =>
(sliceV Try.prog 23 t86_57 (some t90_60) none none h59).bind fun t91_61 =>
(nilCheckV x0).bind fun t92_62 =>
(fieldAddrV Try.prog 83 t92_62 0).bind fun t93_63 =>
(storeV Try.prog 23 t93_63 t91_61 h59).bind fun h64 =>
k .ret ⟨#[x0, x1, x2, x3, t81_53, t14_5, t15_6, t81_53, t13_3, x0, t10_0, t11_1, t12_2, t13_3, t14_5, t15_6, x0, t17_7, t18_8, t19_9, t19_9, (gdV (wt t19_9 false) t15_6), t22_10, t23_11, t23_11, (gdV (wt t23_11 false) x1), t26_12, t27_13, t27_13, (gdV (wt t27_13 false) t14_5), (gdV (wt t27_13 false) x1), t31_14, t32_16, t33_17, t33_17, (gdV (wt t33_17 false) t14_5), (gdV (wt t33_17 false) x0), t37_18, t38_19, t39_20, t40_21, (gdV (wt t33_17 false) t15_6), t42_22, t43_23, t44_25, t45_26, x46, x47, x48, x49, x50, x51, x52, x53, x54, x55, x56, x57, x58, x59, x60, x61, x62, x63, x64, x65, x66, x67, x68, x69, t70_44, x0, t72_46, t73_47, t74_48, t15_6, t15_6, t14_5, t78_49, t79_51, t80_52, t81_53, x0, x0, t84_55, t85_56, t86_57, t15_6, t14_5, t89_58, t90_60, t91_61, t92_62, t93_63, t81_53], h64⟩) := by kernel_rfl
theorem call55 (x0 x1 : Value) (h : Heap) : evC Try.prog 55 #[x0, x1] h = codeK Try.prog (evC Try.prog) loopL c55_0 ⟨#[x0, x1, undef, undef, undef, undef, undef, undef, undef, undef, undef, undef, undef, undef, undef, undef, undef, undef, undef, undef, undef, undef, undef, undef, undef, undef, undef, undef, undef, undef, undef, undef, undef, undef, undef, undef, undef, undef, undef, undef, undef, undef, undef, undef, undef, undef, undef, undef, undef, undef, undef, undef, undef, undef, undef, undef, undef, undef, undef, undef, undef, undef, undef, undef, undef, undef, undef, undef, undef, undef, undef, undef, undef, undef, undef, undef, undef, undef, undef, undef, undef, undef, undef, undef, undef, undef, undef, undef, undef, undef, undef, undef, undef, undef, undef], nm h⟩ (retK Try.f55 Try.prog h) :=
  (evC_call 55 Try.f55 c55_0 Try.func55 (by kernel_rfl) #[x0, x1] h).trans (by kernel_rfl)
theorem ret55 (x0 x1 x2 x3 x4 x5 x6 x7 x8 x9 x10 x11 x12 x13 x14 x15 x16 x17 x18 x19 x20 x21 x22 x23 x24 x25 x26 x27 x28 x29 x30 x31 x32 x33 x34 x35 x36 x37 x38 x39 x40 x41 x42 x43 x44 x45 x46 x47 x48 x49 x50 x51 x52 x53 x54 x55 x56 x57 x58 x59 x60 x61 x62 x63 x64 x65 x66 x67 x68 x69 x70 x71 x72 x73 x74 x75 x76 x77 x78 x79 x80 x81 x82 x83 x84 x85 x86 x87 x88 x89 x90 x91 x92 x93 x94 : Value) (h0 h : Heap) : retK Try.f55 Try.prog h0 .ret ⟨#[x0, x1, x2, x3, x4, x5, x6, x7, x8, x9, x10, x11, x12, x13, x14, x15, x16, x17, x18, x19, x20, x21, x22, x23, x24, x25, x26, x27, x28, x29, x30, x31, x32, x33, x34, x35, x36, x37, x38, x39, x40, x41, x42, x43, x44, x45, x46, x47, x48, x49, x50, x51, x52, x53, x54, x55, x56, x57, x58, x59, x60, x61, x62, x63, x64, x65, x66, x67, x68, x69, x70, x71, x72, x73, x74, x75, x76, x77, x78, x79, x80, x81, x82, x83, x84, x85, x86, x87, x88, x89, x90, x91, x92, x93, x94], h⟩ = fin h0 (some x4) h := by kernel_rfl
theorem retn55 (x0 x1 x2 x3 x4 x5 x6 x7 x8 x9 x10 x11 x12 x13 x14 x15 x16 x17 x18 x19 x20 x21 x22 x23 x24 x25 x26 x27 x28 x29 x30 x31 x32 x33 x34 x35 x36 x37 x38 x39 x40 x41 x42 x43 x44 x45 x46 x47 x48 x49 x50 x51 x52 x53 x54 x55 x56 x57 x58 x59 x60 x61 x62 x63 x64 x65 x66 x67 x68 x69 x70 x71 x72 x73 x74 x75 x76 x77 x78 x79 x80 x81 x82 x83 x84 x85 x86 x87 x88 x89 x90 x91 x92 x93 x94 : Value) (h0 h : Heap) : retK Try.f55 Try.prog h0 .normal ⟨#[x0, x1, x2, x3, x4, x5, x6, x7, x8, x9, x10, x11, x12, x13, x14, x15, x16, x17, x18, x19, x20, x21, x22, x23, x24, x25, x26, x27, x28, x29, x30, x31, x32, x33, x34, x35, x36, x37, x38, x39, x40, x41, x42, x43, x44, x45, x46, x47, x48, x49, x50, x51, x52, x53, x54, x55, x56, x57, x58, x59, x60, x61, x62, x63, x64, x65, x66, x67, x68, x69, x70, x71, x72, x73, x74, x75, x76, x77, x78, x79, x80, x81, x82, x83, x84, x85, x86, x87, x88, x89, x90, x91, x92, x93, x94], h⟩ = fin h0 (some x4) h := by kernel_rfl
end Go.Am
namespace Go.Am
open Go.Proofs
set_option maxRecDepth 100000
noncomputable def c56_0 : Code := bodyC Try.f56 []
theorem c56_0_eq {β : Type} (x0 x1 x2 x3 x4 x5 x6 x7 x8 x9 x10 x11 x12 x13 x14 x15 : Value) (h : Heap) (k : Ex → St → Option β) : codeK Try.prog (evC Try.prog) loopL c56_0 ⟨#[x0, x1, x2, x3, x4, x5, x6, x7, x8, x9, x10, x11, x12, x13, x14, x15], h⟩ k =
(nilCheckV x0).bind fun t4_0 =>
(fieldAddrV Try.prog 83 t4_0 1).bind fun t5_1 =>
(loadV Try.prog 4 t5_1 h).bind fun t6_2 =>
(unV Try.prog .not t6_2).bind fun t7_3 =>
(gd (wt t7_3 true) (nilCheckV (gdV (wt t7_3 true) x0))).bind fun t10_4 =>
(gd (wt t7_3 true) (fieldAddrV Try.prog 83 t10_4 0)).bind fun t11_5 =>
(gd (wt t7_3 true) (loadV Try.prog 23 t11_5 h)).bind fun t12_6 =>
(gd (wt t7_3 true) (lenV Try.prog 23 t12_6 h)).bind fun t13_7 =>
(gd (wt t7_3 true) (binV Try.prog .eql 3 (.tmp 13) (.const (Go.Value.int Go.IntKind.i64 0)) t13_7 (Go.Value.int Go.IntKind.i64 0))).bind fun t14_8 =>
(pickV t7_3 t14_8 (Go.Value.bool Bool.false)).bind fun t15_9 =>
k .ret ⟨#[x0, x1, t15_9, x0, t4_0, t5_1, t6_2, t7_3, t7_3, (gdV (wt t7_3 true) x0), t10_4, t11_5, t12_6, t13_7, t14_8, t15_9], h⟩ := by kernel_rfl
theorem call56 (x0 : Value) (h : Heap) : evC Try.prog 56 #[x0] h = codeK Try.prog (evC Try.prog) loopL c56_0 ⟨#[x0, undef, undef, undef, undef, undef, undef, undef, undef, undef, undef, undef, undef, undef, undef, undef], nm h⟩ (retK Try.f56 Try.prog h) :=
  (evC_call 56 Try.f56 c56_0 Try.func56 (by kernel_rfl) #[x0] h).trans (by kernel_rfl)
theorem ret56 (x0 x1 x2 x3 x4 x5 x6 x7 x8 x9 x10 x11 x12 x13 x14 x15 : Value) (h0 h : Heap) : retK Try.f56 Try.prog h0 .ret ⟨#[x0, x1, x2, x3, x4, x5, x6, x7, x8, x9, x10, x11, x12, x13, x14, x15], h⟩ = fin h0 (some x2) h := by kernel_rfl
theorem retn56 (x0 x1 x2 x3 x4 x5 x6 x7 x8 x9 x10 x11 x12 x13 x14 x15 : Value) (h0 h : Heap) : retK Try.f56 Try.prog h0 .normal ⟨#[x0, x1, x2, x3, x4, x5, x6, x7, x8, x9, x10, x11, x12, x13, x14, x15], h⟩ = fin h0 (some x2) h := by kernel_rfl
end Go.Am
namespace Go.Am
open Go.Proofs
set_option maxRecDepth 100000
noncomputable def c99_0 : Code := bodyC Try.f99 []
theorem c99_0_eq {β : Type} (x0 x1 x2 x3 x4 x5 x6 x7 : Value) (h : Heap) (k : Ex → St → Option β) : codeK Try.prog (evC Try.prog) loopL c99_0 ⟨#[x0, x1, x2, x3, x4, x5, x6, x7], h⟩ k =
(nilCheckV x0).bind fun t4_0 =>
(fieldAddrV Try.prog 83 t4_0 1).bind fun t5_1 =>
(storeV Try.prog 4 t5_1 (Go.Value.bool Bool.true) h).bind fun h2 =>
(nilCheckV x0).bind fun t6_3 =>
(fieldAddrV Try.prog 83 t6_3 0).bind fun t7_4 =>
(storeV Try.prog 23 t7_4 (Go.Value.slice Option.none 0 0) h2).bind fun h5 =>
k .normal ⟨#[x0, x1, x0, x0, t4_0, t5_1, t6_3, t7_4], h5⟩ := by kernel_rfl
theorem call99 (x0 : Value) (h : Heap) : evC Try.prog 99 #[x0] h = codeK Try.prog (evC Try.prog) loopL c99_0 ⟨#[x0, undef, undef, undef, undef, undef, undef, undef], nm h⟩ (retK Try.f99 Try.prog h) :=
  (evC_call 99 Try.f99 c99_0 Try.func99 (by kernel_rfl) #[x0] h).trans (by kernel_rfl)
theorem ret99 (x0 x1 x2 x3 x4 x5 x6 x7 : Value) (h0 h : Heap) : retK Try.f99 Try.prog h0 .ret ⟨#[x0, x1, x2, x3, x4, x5, x6, x7], h⟩ = fin h0 (some (.tuple #[])) h := by kernel_rfl
theorem retn99 (x0 x1 x2 x3 x4 x5 x6 x7 : Value) (h0 h : Heap) : retK Try.f99 Try.prog h0 .normal ⟨#[x0, x1, x2, x3, x4, x5, x6, x7], h⟩ = fin h0 (some (.tuple #[])) h := by kernel_rfl
end Go.Am
namespace Go.Am
open Go.Proofs
set_option maxRecDepth 100000
noncomputable def c49_0 : Code := bodyC Try.f49 []
theorem c49_0_eq {β : Type} (x0 x1 x2 x3 x4 x5 x6 x7 x8 x9 x10 x11 x12 x13 x14 x15 x16 x17 x18 x19 x20 x21 x22 x23 x24 x25 x26 x27 x28 x29 x30 x31 x32 x33 x34 : Value) (h : Heap) (k : Ex → St → Option β) : codeK Try.prog (evC Try.prog) loopL c49_0 ⟨#[x0, x1, x2, x3, x4, x5, x6, x7, x8, x9, x10, x11, x12, x13, x14, x15, x16, x17, x18, x19, x20, x21, x22, x23, x24, x25, x26, x27, x28, x29, x30, x31, x32, x33, x34], h⟩ k =
(nilCheckV x0).bind fun t9_0 =>
(fieldAddrV Try.prog 150 t9_0 0).bind fun t10_1 =>
(loadV Try.prog 23 t10_1 h).bind fun t11_2 =>
obH (evC Try.prog 96 #[t11_2] h) fun t12_3 h4 =>
(extractV t12_3 0).bind fun t13_5 =>
(extractV t12_3 1).bind fun t14_6 =>
(binV Try.prog .eql 3 (.tmp 16) (.const (Go.Value.int Go.IntKind.i64 0)) t14_6 (Go.Value.int Go.IntKind.i64 0)).bind fun t17_7 =>
obH (gdH (wt t17_7 false) h4 (evC Try.prog 100 #[(gdV (wt t17_7 false) t13_5), (gdV (wt t17_7 false) x1)] h4)) fun t21_8 h9 =>
(gd (wt t17_7 false) (unV Try.prog .not t21_8)).bind fun t22_10 =>
(pickV t17_7 (Go.Value.bool Bool.true) t22_10).bind fun t23_11 =>
obH (evC Try.prog 97 #[x0, t23_11] h9) fun t24_12 h13 =>
cnd t24_12 (
k .ret ⟨#[x0, x1, x2, x3, (Go.Value.int Go.IntKind.u64 0), t13_5, t14_6, t12_3, x0, t9_0, t10_1, t11_2, t12_3, t13_5, t14_6, x0, t14_6, t17_7, t17_7, (gdV (wt t17_7 false) t13_5), (gdV (wt t17_7 false) x1), t21_8, t22_10, t23_11, t24_12, x25, x26, x27, x28, x29, x30, x31, x32, x33, x34], h13⟩) (
(nilCheckV x0).bind fun t27_14 =>
(fieldAddrV Try.prog 150 t27_14 0).bind fun t28_15 =>
(loadV Try.prog 23 t28_15 h13).bind fun t29_16 =>
(sliceV Try.prog 23 t29_16 (some t14_6) none none h13).bind fun t31_17 =>
(nilCheckV x0).bind fun t32_18 =>
(fieldAddrV Try.prog 150 t32_18 0).bind fun t33_19 =>
(storeV Try.prog 23 t33_19 t31_17 h13).bind fun h20 =>
k .ret ⟨#[x0, x1, x2, x3, t13_5, t13_5, t14_6, t12_3, x0, t9_0, t10_1, t11_2, t12_3, t13_5, t14_6, x0, t14_6, t17_7, t17_7, (gdV (wt t17_7 false) t13_5), (gdV (wt t17_7 false) x1), t21_8, t22_10, t23_11, t24_12, x0, x0, t27_14, t28_15, t29_16, t14_6, t31_17, t32_18, t33_19, t13_5], h20⟩) := by kernel_rfl
theorem call49 (x0 x1 : Value) (h : Heap) : evC Try.prog 49 #[x0, x1] h = codeK Try.prog (evC Try.prog) loopL c49_0 ⟨#[x0, x1, undef, undef, undef, undef, undef, undef, undef, undef, undef, undef, undef, undef, undef, undef, undef, undef, undef, undef, undef, undef, undef, undef, undef, undef, undef, undef, undef, undef, undef, undef, undef, undef, undef], nm h⟩ (retK Try.f49 Try.prog h) :=
  (evC_call 49 Try.f49 c49_0 Try.func49 (by kernel_rfl) #[x0, x1] h).trans (by kernel_rfl)
theorem ret49 (x0 x1 x2 x3 x4 x5 x6 x7 x8 x9 x10 x11 x12 x13 x14 x15 x16 x17 x18 x19 x20 x21 x22 x23 x24 x25 x26 x27 x28 x29 x30 x31 x32 x33 x34 : Value) (h0 h : Heap) : retK Try.f49 Try.prog h0 .ret ⟨#[x0, x1, x2, x3, x4, x5, x6, x7, x8, x9, x10, x11, x12, x13, x14, x15, x16, x17, x18, x19, x20, x21, x22, x23, x24, x25, x26, x27, x28, x29, x30, x31, x32, x33, x34], h⟩ = fin h0 (some x4) h := by kernel_rfl
theorem retn49 (x0 x1 x2 x3 x4 x5 x6 x7 x8 x9 x10 x11 x12 x13 x14 x15 x16 x17 x18 x19 x20 x21 x22 x23 x24 x25 x26 x27 x28 x29 x30 x31 x32 x33 x34 : Value) (h0 h : Heap) : retK Try.f49 Try.prog h0 .normal ⟨#[x0, x1, x2, x3, x4, x5, x6, x7, x8, x9, x10, x11, x12, x13, x14, x15, x16, x17, x18, x19, x20, x21, x22, x23, x24, x25, x26, x27, x28, x29, x30, x31, x32, x33, x34], h⟩ = fin h0 (some x4) h := by kernel_rfl
end Go.Am
namespace Go.Am
open Go.Proofs
set_option maxRecDepth 100000
noncomputable def c52_0 : Code := bodyC Try.f52 []
noncomputable def c52_1 : Code := bodyC Try.f52 [true, true, true, false, true, false, false]
noncomputable def c52_2 : Code := bodyC Try.f52 [true, true, true, true]
theorem c52_0_eq {β : Type} (x0 x1 x2 x3 x4 x5 x6 x7 x8 x9 x10 x11 x12 x13 x14 x15 x16 x17 x18 x19 x20 x21 x22 x23 x24 x25 x26 x27 x28 x29 x30 x31 x32 : Value) (h : Heap) (k : Ex → St → Option β) : codeK Try.prog (evC Try.prog) loopL c52_0 ⟨#[x0, x1, x2, x3, x4, x5, x6, x7, x8, x9, x10, x11, x12, x13, x14, x15, x16, x17, x18, x19, x20, x21, x22, x23, x24, x25, x26, x27, x28, x29, x30, x31, x32], h⟩ k =
obH (evC Try.prog 102 #[x0, (Go.Value.int Go.IntKind.u64 8)] h) fun t10_0 h1 =>
(lenV Try.prog 23 t10_0 h1).bind fun t12_2 =>
loopK Try.prog (evC Try.prog) c52_1 ⟨#[x0, x1, (Go.Value.float Go.FloatKind.f64 0), (Go.Value.int Go.IntKind.u64 0), t10_0, x5, x6, x7, x8, x0, t10_0, t10_0, t12_2, (Go.Value.int Go.IntKind.i64 0), x14, x15, x16, x17, x18, x19, x20, x21, x22, x23, x24, x25, x26, x27, x28, x29, x30, x31, x32], h1⟩ (blockK 0 (seqK Try.prog (evC Try.prog) c52_2 k)) := by kernel_rfl
theorem c52_1_eq {β : Type} (x0 x1 x2 x3 x4 x5 x6 x7 x8 x9 x10 x11 x12 x13 x14 x15 x16 x17 x18 x19 x20 x21 x22 x23 x24 x25 x26 x27 x28 x29 x30 x31 x32 : Value) (h : Heap) (k : Ex → St → Option β) : codeK Try.prog (evC Try.prog) loopL c52_1 ⟨#[x0, x1, x2, x3, x4, x5, x6, x7, x8, x9, x10, x11, x12, x13, x14, x15, x16, x17, x18, x19, x20, x21, x22, x23, x24, x25, x26, x27, x28, x29, x30, x31, x32], h⟩ k =
(binV Try.prog .lss 3 (.tmp 13) (.tmp 12) x13 x12).bind fun t14_3 =>
cnd t14_3 (
(indexAddrV Try.prog 23 x11 x13).bind fun t15_4 =>
(loadV Try.prog 5 t15_4 h).bind fun t16_5 =>
(binV Try.prog .shl 46 (.tmp 17) (.const (Go.Value.int Go.IntKind.u64 8)) x3 (Go.Value.int Go.IntKind.u64 8)).bind fun t18_6 =>
obH (convV Try.prog 5 46 t16_5 h) fun t20_7 h8 =>
(binV Try.prog .or 46 (.tmp 18) (.tmp 20) t18_6 t20_7).bind fun t21_9 =>
(binV Try.prog .add 3 (.tmp 13) (.const (Go.Value.int Go.IntKind.i64 1)) x13 (Go.Value.int Go.IntKind.i64 1)).bind fun t22_10 =>
k .normal ⟨#[x0, x1, x2, t21_9, x4, x5, t16_5, x7, x8, x9, x10, x11, x12, t22_10, t14_3, t15_4, t16_5, x3, t18_6, t16_5, t20_7, t21_9, t22_10, x23, x24, x25, x26, x27, x28, x29, x30, x31, x32], h8⟩) (
k (.exit 0) ⟨#[x0, x1, x2, x3, x4, x5, x6, x7, x8, x9, x10, x11, x12, x13, t14_3, x15, x16, x17, x18, x19, x20, x21, x22, x23, x24, x25, x26, x27, x28, x29, x30, x31, x32], h⟩) := by kernel_rfl
theorem c52_2_eq {β : Type} (x0 x1 x2 x3 x4 x5 x6 x7 x8 x9 x10 x11 x12 x13 x14 x15 x16 x17 x18 x19 x20 x21 x22 x23 x24 x25 x26 x27 x28 x29 x30 x31 x32 : Value) (h : Heap) (k : Ex → St → Option β) : codeK Try.prog (evC Try.prog) loopL c52_2 ⟨#[x0, x1, x2, x3, x4, x5, x6, x7, x8, x9, x10, x11, x12, x13, x14, x15, x16, x17, x18, x19, x20, x21, x22, x23, x24, x25, x26, x27, x28, x29, x30, x31, x32], h⟩ k =
obH (evC Try.prog 103 #[x3] h) fun t25_11 h12 =>
(extractV t25_11 0).bind fun t26_13 =>
(extractV t25_11 1).bind fun t27_14 =>
(unV Try.prog .not t27_14).bind fun t30_15 =>
obH (evC Try.prog 97 #[x0, t30_15] h12) fun t31_16 h17 =>
cnd t31_16 (
k .ret ⟨#[x0, x1, (Go.Value.float Go.FloatKind.f64 0), x3, x4, x5, x6, t26_13, t27_14, x9, x10, x11, x12, x13, x14, x15, x16, x17, x18, x19, x20, x21, x22, t25_11, x3, t25_11, t26_13, t27_14, x0, t27_14, t30_15, t31_16, x32], h17⟩) (
k .ret ⟨#[x0, x1, t26_13, x3, x4, x5, x6, t26_13, t27_14, x9, x10, x11, x12, x13, x14, x15, x16, x17, x18, x19, x20, x21, x22, t25_11, x3, t25_11, t26_13, t27_14, x0, t27_14, t30_15, t31_16, t26_13], h17⟩) := by kernel_rfl
theorem call52 (x0 : Value) (h : Heap) : evC Try.prog 52 #[x0] h = codeK Try.prog (evC Try.prog) loopL c52_0 ⟨#[x0, undef, undef, undef, undef, undef, undef, undef, undef, undef, undef, undef, undef, undef, undef, undef, undef, undef, undef, undef, undef, undef, undef, undef, undef, undef, undef, undef, undef, undef, undef, undef, undef], nm h⟩ (retK Try.f52 Try.prog h) :=
  (evC_call 52 Try.f52 c52_0 Try.func52 (by kernel_rfl) #[x0] h).trans (by kernel_rfl)
theorem ret52 (x0 x1 x2 x3 x4 x5 x6 x7 x8 x9 x10 x11 x12 x13 x14 x15 x16 x17 x18 x19 x20 x21 x22 x23 x24 x25 x26 x27 x28 x29 x30 x31 x32 : Value) (h0 h : Heap) : retK Try.f52 Try.prog h0 .ret ⟨#[x0, x1, x2, x3, x4, x5, x6, x7, x8, x9, x10, x11, x12, x13, x14, x15, x16, x17, x18, x19, x20, x21, x22, x23, x24, x25, x26, x27, x28, x29, x30, x31, x32], h⟩ = fin h0 (some x2) h := by kernel_rfl
theorem retn52 (x0 x1 x2 x3 x4 x5 x6 x7 x8 x9 x10 x11 x12 x13 x14 x15 x16 x17 x18 x19 x20 x21 x22 x23 x24 x25 x26 x27 x28 x29 x30 x31 x32 : Value) (h0 h : Heap) : retK Try.f52 Try.prog h0 .normal ⟨#[x0, x1, x2, x3, x4, x5, x6, x7, x8, x9, x10, x11, x12, x13, x14, x15, x16, x17, x18, x19, x20, x21, x22, x23, x24, x25, x26, x27, x28, x29, x30, x31, x32], h⟩ = fin h0 (some x2) h := by kernel_rfl
end Go.Am
namespace Go.Am
open Go.Proofs
set_option maxRecDepth 100000
noncomputable def c57_0 : Code := bodyC Try.f57 []
noncomputable def c57_1 : Code := bodyC Try.f57 [true, true, false, false]
theorem c57_0_eq {β : Type} (x0 x1 x2 x3 x4 x5 x6 x7 x8 x9 x10 x11 x12 x13 x14 x15 x16 x17 x18 x19 x20 x21 x22 x23 x24 x25 : Value) (h : Heap) (k : Ex → St → Option β) : codeK Try.prog (evC Try.prog) loopL c57_0 ⟨#[x0, x1, x2, x3, x4, x5, x6, x7, x8, x9, x10, x11, x12, x13, x14, x15, x16, x17, x18, x19, x20, x21, x22, x23, x24, x25], h⟩ k =
obH (evC Try.prog 105 #[x1] h) fun t7_0 h1 =>
loopK Try.prog (evC Try.prog) c57_1 ⟨#[x0, x1, x2, x3, t7_0, (Go.Value.int Go.IntKind.i64 7), x1, t7_0, x8, x9, x10, x11, x12, x13, x14, x15, x16, x17, x18, x19, x20, x21, x22, x23, x24, x25], h1⟩ (blockK 0 k) := by kernel_rfl
theorem c57_1_eq {β : Type} (x0 x1 x2 x3 x4 x5 x6 x7 x8 x9 x10 x11 x12 x13 x14 x15 x16 x17 x18 x19 x20 x21 x22 x23 x24 x25 : Value) (h : Heap) (k : Ex → St → Option β) : codeK Try.prog (evC Try.prog) loopL c57_1 ⟨#[x0, x1, x2, x3, x4, x5, x6, x7, x8, x9, x10, x11, x12, x13, x14, x15, x16, x17, x18, x19, x20, x21, x22, x23, x24, x25], h⟩ k =
(binV Try.prog .geq 3 (.tmp 8) (.const (Go.Value.int Go.IntKind.i64 0)) x5 (Go.Value.int Go.IntKind.i64 0)).bind fun t9_2 =>
cnd t9_2 (
(nilCheckV x0).bind fun t14_3 =>
(fieldAddrV Try.prog 146 t14_3 0).bind fun t15_4 =>
(loadV Try.prog 23 t15_4 h).bind fun t16_5 =>
(binV Try.prog .mul 3 (.const (Go.Value.int Go.IntKind.i64 8)) (.tmp 18) (Go.Value.int Go.IntKind.i64 8) x5).bind fun t19_6 =>
(binV Try.prog .shr 46 (.tmp 17) (.tmp 19) x4 t19_6).bind fun t20_7 =>
obH (convV Try.prog 46 5 t20_7 h) fun t21_8 h9 =>
obH (buildSliceV Try.prog 23 1 #[(0, t21_8)] h9) fun t22_10 h11 =>
obH (appendV Try.prog 23 (some 23) t16_5 t22_10 h11) fun t23_12 h13 =>
(nilCheckV x0).bind fun t24_14 =>
(fieldAddrV Try.prog 146 t24_14 0).bind fun t25_15 =>
(storeV Try.prog 23 t25_15 t23_12 h13).bind fun h16 =>
(binV Try.prog .sub 3 (.tmp 10) (.const (Go.Value.int Go.IntKind.i64 1)) x5 (Go.Value.int Go.IntKind.i64 1)).bind fun t11_17 =>
k .normal ⟨#[x0, x1, x2, x3, x4, t11_17, x6, x7, x5, t9_2, x5, t11_17, x0, x0, t14_3, t15_4, t16_5, x4, x5, t19_6, t20_7, t21_8, t22_10, t23_12, t24_14, t25_15], h16⟩) (
k (.exit 0) ⟨#[x0, x1, x2, x3, x4, x5, x6, x7, x5, t9_2, x10, x11, x12, x13, x14, x15, x16, x17, x18, x19, x20, x21, x22, x23, x24, x25], h⟩) := by kernel_rfl
theorem call57 (x0 x1 : Value) (h : Heap) : evC Try.prog 57 #[x0, x1] h = codeK Try.prog (evC Try.prog) loopL c57_0 ⟨#[x0, x1, undef, undef, undef, undef, undef, undef, undef, undef, undef, undef, undef, undef, undef, undef, undef, undef, undef, undef, undef, undef, undef, undef, undef, undef], nm h⟩ (retK Try.f57 Try.prog h) :=
  (evC_call 57 Try.f57 c57_0 Try.func57 (by kernel_rfl) #[x0, x1] h).trans (by kernel_rfl)
theorem ret57 (x0 x1 x2 x3 x4 x5 x6 x7 x8 x9 x10 x11 x12 x13 x14 x15 x16 x17 x18 x19 x20 x21 x22 x23 x24 x25 : Value) (h0 h : Heap) : retK Try.f57 Try.prog h0 .ret ⟨#[x0, x1, x2, x3, x4, x5, x6, x7, x8, x9, x10, x11, x12, x13, x14, x15, x16, x17, x18, x19, x20, x21, x22, x23, x24, x25], h⟩ = fin h0 (some (.tuple #[])) h := by kernel_rfl
theorem retn57 (x0 x1 x2 x3 x4 x5 x6 x7 x8 x9 x10 x11 x12 x13 x14 x15 x16 x17 x18 x19 x20 x21 x22 x23 x24 x25 : Value) (h0 h : Heap) : retK Try.f57 Try.prog h0 .normal ⟨#[x0, x1, x2, x3, x4, x5, x6, x7, x8, x9, x10, x11, x12, x13, x14, x15, x16, x17, x18, x19, x20, x21, x22, x23, x24, x25], h⟩ = fin h0 (some (.tuple #[])) h := by kernel_rfl
end Go.Am
namespace Go.Am
open Go.Proofs
set_option maxRecDepth 100000
noncomputable def c59_0 : Code := bodyC Try.f59 []
theorem c59_0_eq {β : Type} (x0 x1 x2 x3 x4 x5 x6 : Value) (h : Heap) (k : Ex → St → Option β) : codeK Try.prog (evC Try.prog) loopL c59_0 ⟨#[x0, x1, x2, x3, x4, x5, x6], h⟩ k =
obH (evC Try.prog 43 #[x0, x1] h) fun t6_0 h1 =>
k .normal ⟨#[x0, x1, x2, x3, x0, x1, t6_0], h1⟩ := by kernel_rfl
theorem call59 (x0 x1 : Value) (h : Heap) : evC Try.prog 59 #[x0, x1] h = codeK Try.prog (evC Try.prog) loopL c59_0 ⟨#[x0, x1, undef, undef, undef, undef, undef], nm h⟩ (retK Try.f59 Try.prog h) :=
  (evC_call 59 Try.f59 c59_0 Try.func59 (by kernel_rfl) #[x0, x1] h).trans (by kernel_rfl)
theorem ret59 (x0 x1 x2 x3 x4 x5 x6 : Value) (h0 h : Heap) : retK Try.f59 Try.prog h0 .ret ⟨#[x0, x1, x2, x3, x4, x5, x6], h⟩ = fin h0 (some (.tuple #[])) h := by kernel_rfl
theorem retn59 (x0 x1 x2 x3 x4 x5 x6 : Value) (h0 h : Heap) : retK Try.f59 Try.prog h0 .normal ⟨#[x0, x1, x2, x3, x4, x5, x6], h⟩ = fin h0 (some (.tuple #[])) h := by kernel_rfl
end Go.Am
namespace Go.Am
open Go.Proofs
set_option maxRecDepth 100000
noncomputable def c50_0 : Code := bodyC Try.f50 []
theorem c50_0_eq {β : Type} (x0 x1 x2 x3 x4 x5 x6 x7 x8 x9 x10 x11 x12 x13 x14 x15 x16 x17 x18 x19 x20 x21 x22 x23 x24 x25 x26 x27 x28 x29 x30 x31 x32 x33 x34 x35 x36 x37 x38 x39 x40 : Value) (h : Heap) (k : Ex → St → Option β) : codeK Try.prog (evC Try.prog) loopL c50_0 ⟨#[x0, x1, x2, x3, x4, x5, x6, x7, x8, x9, x10, x11, x12, x13, x14, x15, x16, x17, x18, x19, x20, x21, x22, x23, x24, x25, x26, x27, x28, x29, x30, x31, x32, x33, x34, x35, x36, x37, x38, x39, x40], h⟩ k =
(nilCheckV x0).bind fun t9_0 =>
(fieldAddrV Try.prog 83 t9_0 0).bind fun t10_1 =>
(loadV Try.prog 23 t10_1 h).bind fun t11_2 =>
obH (evC Try.prog 98 #[t11_2] h) fun t12_3 h4 =>
(extractV t12_3 0).bind fun t13_5 =>
(extractV t12_3 1).bind fun t14_6 =>
(nilCheckV x0).bind fun t16_7 =>
(fieldAddrV Try.prog 83 t16_7 1).bind fun t17_8 =>
(loadV Try.prog 4 t17_8 h4).bind fun t18_9 =>
(gd (wt t18_9 false) (binV Try.prog .eql 3 (.tmp 20) (.const (Go.Value.int Go.IntKind.i64 0)) (gdV (wt t18_9 false) t14_6) (Go.Value.int Go.IntKind.i64 0))).bind fun t21_10 =>
(pickV t18_9 (Go.Value.bool Bool.true) t21_10).bind fun t22_11 =>
(gd (wt t22_11 false) (binV Try.prog .andNot 46 (.tmp 24) (.tmp 25) (gdV (wt t22_11 false) t13_5) (gdV (wt t22_11 false) x1))).bind fun t26_12 =>
(gd (wt t22_11 false) (binV Try.prog .neq 46 (.tmp 26) (.const (Go.Value.int Go.IntKind.u64 0)) t26_12 (Go.Value.int Go.IntKind.u64 0))).bind fun t27_13 =>
(pickV t22_11 (Go.Value.bool Bool.true) t27_13).bind fun t28_14 =>
cnd t28_14 (
obH (evC Try.prog 99 #[x0] h4) fun t30_15 h16 =>
k .ret ⟨#[x0, x1, x2, x3, (Go.Value.int Go.IntKind.u64 0), t13_5, t14_6, t12_3, x0, t9_0, t10_1, t11_2, t12_3, t13_5, t14_6, x0, t16_7, t17_8, t18_9, t18_9, (gdV (wt t18_9 false) t14_6), t21_10, t22_11, t22_11, (gdV (wt t22_11 false) t13_5), (gdV (wt t22_11 false) x1), t26_12, t27_13, t28_14, x0, t30_15, x31, x32, x33, x34, x35, x36, x37, x38, x39, x40], h16⟩) (
(nilCheckV x0).bind fun t33_17 =>
(fieldAddrV Try.prog 83 t33_17 0).bind fun t34_18 =>
(loadV Try.prog 23 t34_18 h4).bind fun t35_19 =>
(sliceV Try.prog 23 t35_19 (some t14_6) none none h4).bind fun t37_20 =>
(nilCheckV x0).bind fun t38_21 =>
(fieldAddrV Try.prog 83 t38_21 0).bind fun t39_22 =>
(storeV Try.prog 23 t39_22 t37_20 h4).bind fun h23 =>
k .ret ⟨#[x0, x1, x2, x3, t13_5, t13_5, t14_6, t12_3, x0, t9_0, t10_1, t11_2, t12_3, t13_5, t14_6, x0, t16_7, t17_8, t18_9, t18_9, (gdV (wt t18_9 false) t14_6), t21_10, t22_11, t22_11, (gdV (wt t22_11 false) t13_5), (gdV (wt t22_11 false) x1), t26_12, t27_13, t28_14, x29, x30, x0, x0, t33_17, t34_18, t35_19, t14_6, t37_20, t38_21, t39_22, t13_5], h23⟩) := by kernel_rfl
theorem call50 (x0 x1 : Value) (h : Heap) : evC Try.prog 50 #[x0, x1] h = codeK Try.prog (evC Try.prog) loopL c50_0 ⟨#[x0, x1, undef, undef, undef, undef, undef, undef, undef, undef, undef, undef, undef, undef, undef, undef, undef, undef, undef, undef, undef, undef, undef, undef, undef, undef, undef, undef, undef, undef, undef, undef, undef, undef, undef, undef, undef, undef, undef, undef, undef], nm h⟩ (retK Try.f50 Try.prog h) :=
  (evC_call 50 Try.f50 c50_0 Try.func50 (by kernel_rfl) #[x0, x1] h).trans (by kernel_rfl)
theorem ret50 (x0 x1 x2 x3 x4 x5 x6 x7 x8 x9 x10 x11 x12 x13 x14 x15 x16 x17 x18 x19 x20 x21 x22 x23 x24 x25 x26 x27 x28 x29 x30 x31 x32 x33 x34 x35 x36 x37 x38 x39 x40 : Value) (h0 h : Heap) : retK Try.f50 Try.prog h0 .ret ⟨#[x0, x1, x2, x3, x4, x5, x6, x7, x8, x9, x10, x11, x12, x13, x14, x15, x16, x17, x18, x19, x20, x21, x22, x23, x24, x25, x26, x27, x28, x29, x30, x31, x32, x33, x34, x35, x36, x37, x38, x39, x40], h⟩ = fin h0 (some x4) h := by kernel_rfl
theorem retn50 (x0 x1 x2 x3 x4 x5 x6 x7 x8 x9 x10 x11 x12 x13 x14 x15 x16 x17 x18 x19 x20 x21 x22 x23 x24 x25 x26 x27 x28 x29 x30 x31 x32 x33 x34 x35 x36 x37 x38 x39 x40 : Value) (h0 h : Heap) : retK Try.f50 Try.prog h0 .normal ⟨#[x0, x1, x2, x3, x4, x5, x6, x7, x8, x9, x10, x11, x12, x13, x14, x15, x16, x17, x18, x19, x20, x21, x22, x23, x24, x25, x26, x27, x28, x29, x30, x31, x32, x33, x34, x35, x36, x37, x38, x39, x40], h⟩ = fin h0 (some x4) h := by kernel_rfl
end Go.Am
namespace Go.Am
open Go.Proofs
set_option maxRecDepth 100000
noncomputable def c53_0 : Code := bodyC Try.f53 []
noncomputable def c53_1 : Code := bodyC Try.f53 [true, true, true, false, true, false, false]
noncomputable def c53_2 : Code := bodyC Try.f53 [true, true, true, true]
theorem c53_0_eq {β : Type} (x0 x1 x2 x3 x4 x5 x6 x7 x8 x9 x10 x11 x12 x13 x14 x15 x16 x17 x18 x19 x20 x21 x22 x23 x24 x25 x26 x27 x28 x29 x30 x31 x32 x33 x34 x35 x36 x37 x38 x39 x40 x41 x42 x43 x44 x45 x46 x47 x48 x49 x50 x51 x52 x53 : Value) (h : Heap) (k : Ex → St → Option β) : codeK Try.prog (evC Try.prog) loopL c53_0 ⟨#[x0, x1, x2, x3, x4, x5, x6, x7, x8, x9, x10, x11, x12, x13, x14, x15, x16, x17, x18, x19, x20, x21, x22, x23, x24, x25, x26, x27, x28, x29, x30, x31, x32, x33, x34, x35, x36, x37, x38, x39, x40, x41, x42, x43, x44, x45, x46, x47, x48, x49, x50, x51, x52, x53], h⟩ k =
(nilCheckV x0).bind fun t8_0 =>
(fieldAddrV Try.prog 83 t8_0 1).bind fun t9_1 =>
(loadV Try.prog 4 t9_1 h).bind fun t10_2 =>
(gd (wt t10_2 false) (nilCheckV (gdV (wt t10_2 false) x0))).bind fun t13_3 =>
(gd (wt t10_2 false) (fieldAddrV Try.prog 83 t13_3 0)).bind fun t14_4 =>
(gd (wt t10_2 false) (loadV Try.prog 23 t14_4 h)).bind fun t15_5 =>
(gd (wt t10_2 false) (lenV Try.prog 23 t15_5 h)).bind fun t16_6 =>
(gd (wt t10_2 false) (binV Try.prog .lss 3 (.tmp 16) (.const (Go.Value.int Go.IntKind.i64 8)) t16_6 (Go.Value.int Go.IntKind.i64 8))).bind fun t17_7 =>
(pickV t10_2 (Go.Value.bool Bool.true) t17_7).bind fun t18_8 =>
cnd t18_8 (
obH (evC Try.prog 99 #[x0] h) fun t20_9 h10 =>
k .ret ⟨#[x0, x1, (Go.Value.float Go.FloatKind.f64 0), x3, x4, x5, x6, x0, t8_0, t9_1, t10_2, t10_2, (gdV (wt t10_2 false) x0), t13_3, t14_4, t15_5, t16_6, t17_7, t18_8, x0, t20_9, x21, x22, x23, x24, x25, x26, x27, x28, x29, x30, x31, x32, x33, x34, x35, x36, x37, x38, x39, x40, x41, x42, x43, x44, x45, x46, x47, x48, x49, x50, x51, x52, x53], h10⟩) (
loopK Try.prog (evC Try.prog) c53_1 ⟨#[x0, x1, (Go.Value.float Go.FloatKind.f64 0), (Go.Value.int Go.IntKind.u64 0), (Go.Value.int Go.IntKind.i64 0), x5, x6, x0, t8_0, t9_1, t10_2, t10_2, (gdV (wt t10_2 false) x0), t13_3, t14_4, t15_5, t16_6, t17_7, t18_8, x19, x20, x21, x22, x23, x24, x25, x26, x27, x28, x29, x30, x31, x32, x33, x34, x35, x36, x37, x38, x39, x40, x41, x42, x43, x44, x45, x46, x47, x48, x49, x50, x51, x52, x53], h⟩ (blockK 0 (seqK Try.prog (evC Try.prog) c53_2 k))) := by kernel_rfl
theorem c53_1_eq {β : Type} (x0 x1 x2 x3 x4 x5 x6 x7 x8 x9 x10 x11 x12 x13 x14 x15 x16 x17 x18 x19 x20 x21 x22 x23 x24 x25 x26 x27 x28 x29 x30 x31 x32 x33 x34 x35 x36 x37 x38 x39 x40 x41 x42 x43 x44 x45 x46 x47 x48 x49 x50 x51 x52 x53 : Value) (h : Heap) (k : Ex → St → Option β) : codeK Try.prog (evC Try.prog) loopL c53_1 ⟨#[x0, x1, x2, x3, x4, x5, x6, x7, x8, x9, x10, x11, x12, x13, x14, x15, x16, x17, x18, x19, x20, x21, x22, x23, x24, x25, x26, x27, x28, x29, x30, x31, x32, x33, x34, x35, x36, x37, x38, x39, x40, x41, x42, x43, x44, x45, x46, x47, x48, x49, x50, x51, x52, x53], h⟩ k =
(binV Try.prog .lss 3 (.tmp 21) (.const (Go.Value.int Go.IntKind.i64 8)) x4 (Go.Value.int Go.IntKind.i64 8)).bind fun t22_11 =>
cnd t22_11 (
(binV Try.prog .shl 46 (.tmp 25) (.const (Go.Value.int Go.IntKind.u64 8)) x3 (Go.Value.int Go.IntKind.u64 8)).bind fun t26_12 =>
(nilCheckV x0).bind fun t28_13 =>
(fieldAddrV Try.prog 83 t28_13 0).bind fun t29_14 =>
(loadV Try.prog 23 t29_14 h).bind fun t30_15 =>
(indexAddrV Try.prog 23 t30_15 x4).bind fun t32_16 =>
(loadV Try.prog 5 t32_16 h).bind fun t33_17 =>
obH (convV Try.prog 5 46 t33_17 h) fun t34_18 h19 =>
(binV Try.prog .or 46 (.tmp 26) (.tmp 34) t26_12 t34_18).bind fun t35_20 =>
(binV Try.prog .add 3 (.tmp 23) (.const (Go.Value.int Go.IntKind.i64 1)) x4 (Go.Value.int Go.IntKind.i64 1)).bind fun t24_21 =>
k .normal ⟨#[x0, x1, x2, t35_20, t24_21, x5, x6, x7, x8, x9, x10, x11, x12, x13, x14, x15, x16, x17, x18, x19, x20, x4, t22_11, x4, t24_21, x3, t26_12, x0, t28_13, t29_14, t30_15, x4, t32_16, t33_17, t34_18, t35_20, x36, x37, x38, x39, x40, x41, x42, x43, x44, x45, x46, x47, x48, x49, x50, x51, x52, x53], h19⟩) (
k (.exit 0) ⟨#[x0, x1, x2, x3, x4, x5, x6, x7, x8, x9, x10, x11, x12, x13, x14, x15, x16, x17, x18, x19, x20, x4, t22_11, x23, x24, x25, x26, x27, x28, x29, x30, x31, x32, x33, x34, x35, x36, x37, x38, x39, x40, x41, x42, x43, x44, x45, x46, x47, x48, x49, x50, x51, x52, x53], h⟩) := by kernel_rfl
theorem c53_2_eq {β : Type} (x0 x1 x2 x3 x4 x5 x6 x7 x8 x9 x10 x11 x12 x13 x14 x15 x16 x17 x18 x19 x20 x21 x22 x23 x24 x25 x26 x27 x28 x29 x30 x31 x32 x33 x34 x35 x36 x37 x38 x39 x40 x41 x42 x43 x44 x45 x46 x47 x48 x49 x50 x51 x52 x53 : Value) (h : Heap) (k : Ex → St → Option β) : codeK Try.prog (evC Try.prog) loopL c53_2 ⟨#[x0, x1, x2, x3, x4, x5, x6, x7, x8, x9, x10, x11, x12, x13, x14, x15, x16, x17, x18, x19, x20, x21, x22, x23, x24, x25, x26, x27, x28, x29, x30, x31, x32, x33, x34, x35, x36, x37, x38, x39, x40, x41, x42, x43, x44, x45, x46, x47, x48, x49, x50, x51, x52, x53], h⟩ k =
obH (evC Try.prog 104 #[x3] h) fun t38_22 h23 =>
(extractV t38_22 0).bind fun t39_24 =>
(extractV t38_22 1).bind fun t40_25 =>
(unV Try.prog .not t40_25).bind fun t42_26 =>
cnd t42_26 (
obH (evC Try.prog 99 #[x0] h23) fun t44_27 h28 =>
k .ret ⟨#[x0, x1, (Go.Value.float Go.FloatKind.f64 0), x3, x4, t39_24, t40_25, x7, x8, x9, x10, x11, x12, x13, x14, x15, x16, x17, x18, x19, x20, x21, x22, x23, x24, x25, x26, x27, x28, x29, x30, x31, x32, x33, x34, x35, t38_22, x3, t38_22, t39_24, t40_25, t40_25, t42_26, x0, t44_27, x45, x46, x47, x48, x49, x50, x51, x52, x53], h28⟩) (
(nilCheckV x0).bind fun t47_29 =>
(fieldAddrV Try.prog 83 t47_29 0).bind fun t48_30 =>
(loadV Try.prog 23 t48_30 h23).bind fun t49_31 =>
(sliceV Try.prog 23 t49_31 (some (Go.Value.int Go.IntKind.i64 8)) none none h23).bind fun t50_32 =>
(nilCheckV x0).bind fun t51_33 =>
(fieldAddrV Try.prog 83 t51_33 0).bind fun t52_34 =>
(storeV Try.prog 23 t52_34 t50_32 h23).bind fun h35 =>
k .ret ⟨#[x0, x1, t39_24, x3, x4, t39_24, t40_25, x7, x8, x9, x10, x11, x12, x13, x14, x15, x16, x17, x18, x19, x20, x21, x22, x23, x24, x25, x26, x27, x28, x29, x30, x31, x32, x33, x34, x35, t38_22, x3, t38_22, t39_24, t40_25, t40_25, t42_26, x43, x44, x0, x0, t47_29, t48_30, t49_31, t50_32, t51_33, t52_34, t39_24], h35⟩) := by kernel_rfl
theorem call53 (x0 : Value) (h : Heap) : evC Try.prog 53 #[x0] h = codeK Try.prog (evC Try.prog) loopL c53_0 ⟨#[x0, undef, undef, undef, undef, undef, undef, undef, undef, undef, undef, undef, undef, undef, undef, undef, undef, undef, undef, undef, undef, undef, undef, undef, undef, undef, undef, undef, undef, undef, undef, undef, undef, undef, undef, undef, undef, undef, undef, undef, undef, undef, undef, undef, undef, undef, undef, undef, undef, undef, undef, undef, undef, undef], nm h⟩ (retK Try.f53 Try.prog h) :=
  (evC_call 53 Try.f53 c53_0 Try.func53 (by kernel_rfl) #[x0] h).trans (by kernel_rfl)
theorem ret53 (x0 x1 x2 x3 x4 x5 x6 x7 x8 x9 x10 x11 x12 x13 x14 x15 x16 x17 x18 x19 x20 x21 x22 x23 x24 x25 x26 x27 x28 x29 x30 x31 x32 x33 x34 x35 x36 x37 x38 x39 x40 x41 x42 x43 x44 x45 x46 x47 x48 x49 x50 x51 x52 x53 : Value) (h0 h : Heap) : retK Try.f53 Try.prog h0 .ret ⟨#[x0, x1, x2, x3, x4, x5, x6, x7, x8, x9, x10, x11, x12, x13, x14, x15, x16, x17, x18, x19, x20, x21, x22, x23, x24, x25, x26, x27, x28, x29, x30, x31, x32, x33, x34, x35, x36, x37, x38, x39, x40, x41, x42, x43, x44, x45, x46, x47, x48, x49, x50, x51, x52, x53], h⟩ = fin h0 (some x2) h := by kernel_rfl
theorem retn53 (x0 x1 x2 x3 x4 x5 x6 x7 x8 x9 x10 x11 x12 x13 x14 x15 x16 x17 x18 x19 x20 x21 x22 x23 x24 x25 x26 x27 x28 x29 x30 x31 x32 x33 x34 x35 x36 x37 x38 x39 x40 x41 x42 x43 x44 x45 x46 x47 x48 x49 x50 x51 x52 x53 : Value) (h0 h : Heap) : retK Try.f53 Try.prog h0 .normal ⟨#[x0, x1, x2, x3, x4, x5, x6, x7, x8, x9, x10, x11, x12, x13, x14, x15, x16, x17, x18, x19, x20, x21, x22, x23, x24, x25, x26, x27, x28, x29, x30, x31, x32, x33, x34, x35, x36, x37, x38, x39, x40, x41, x42, x43, x44, x45, x46, x47, x48, x49, x50, x51, x52, x53], h⟩ = fin h0 (some x2) h := by kernel_rfl
end Go.Am
namespace Go.Am
open Go.Proofs
set_option maxRecDepth 100000
noncomputable def c60_0 : Code := bodyC Try.f60 []
noncomputable def c60_1 : Code := bodyC Try.f60 [true, true, false, false]
theorem c60_0_eq {β : Type} (x0 x1 x2 x3 x4 x5 x6 x7 x8 x9 x10 x11 x12 x13 x14 x15 x16 x17 x18 x19 x20 x21 x22 x23 x24 x25 x26 x27 : Value) (h : Heap) (k : Ex → St → Option β) : codeK Try.prog (evC Try.prog) loopL c60_0 ⟨#[x0, x1, x2, x3, x4, x5, x6, x7, x8, x9, x10, x11, x12, x13, x14, x15, x16, x17, x18, x19, x20, x21, x22, x23, x24, x25, x26, x27], h⟩ k =
obH (evC Try.prog 107 #[x1] h) fun t7_0 h1 =>
loopK Try.prog (evC Try.prog) c60_1 ⟨#[x0, x1, x2, x3, t7_0, (Go.Value.int Go.IntKind.i64 0), x1, t7_0, x8, x9, x10, x11, x12, x13, x14, x15, x16, x17, x18, x19, x20, x21, x22, x23, x24, x25, x26, x27], h1⟩ (blockK 0 k) := by kernel_rfl
theorem c60_1_eq {β : Type} (x0 x1 x2 x3 x4 x5 x6 x7 x8 x9 x10 x11 x12 x13 x14 x15 x16 x17 x18 x19 x20 x21 x22 x23 x24 x25 x26 x27 : Value) (h : Heap) (k : Ex → St → Option β) : codeK Try.prog (evC Try.prog) loopL c60_1 ⟨#[x0, x1, x2, x3, x4, x5, x6, x7, x8, x9, x10, x11, x12, x13, x14, x15, x16, x17, x18, x19, x20, x21, x22, x23, x24, x25, x26, x27], h⟩ k =
(binV Try.prog .lss 3 (.tmp 8) (.const (Go.Value.int Go.IntKind.i64 8)) x5 (Go.Value.int Go.IntKind.i64 8)).bind fun t9_2 =>
cnd t9_2 (
(nilCheckV x0).bind fun t14_3 =>
(fieldAddrV Try.prog 97 t14_3 0).bind fun t15_4 =>
(loadV Try.prog 23 t15_4 h).bind fun t16_5 =>
(binV Try.prog .mul 3 (.const (Go.Value.int Go.IntKind.i64 8)) (.tmp 18) (Go.Value.int Go.IntKind.i64 8) x5).bind fun t19_6 =>
(binV Try.prog .sub 3 (.const (Go.Value.int Go.IntKind.i64 56)) (.tmp 19) (Go.Value.int Go.IntKind.i64 56) t19_6).bind fun t20_7 =>
obH (convV Try.prog 3 138 t20_7 h) fun t21_8 h9 =>
(binV Try.prog .shr 46 (.tmp 17) (.tmp 21) x4 t21_8).bind fun t22_10 =>
obH (convV Try.prog 46 5 t22_10 h9) fun t23_11 h12 =>
obH (buildSliceV Try.prog 23 1 #[(0, t23_11)] h12) fun t24_13 h14 =>
obH (appendV Try.prog 23 (some 23) t16_5 t24_13 h14) fun t25_15 h16 =>
(nilCheckV x0).bind fun t26_17 =>
(fieldAddrV Try.prog 97 t26_17 0).bind fun t27_18 =>
(storeV Try.prog 23 t27_18 t25_15 h16).bind fun h19 =>
(binV Try.prog .add 3 (.tmp 10) (.const (Go.Value.int Go.IntKind.i64 1)) x5 (Go.Value.int Go.IntKind.i64 1)).bind fun t11_20 =>
k .normal ⟨#[x0, x1, x2, x3, x4, t11_20, x6, x7, x5, t9_2, x5, t11_20, x0, x0, t14_3, t15_4, t16_5, x4, x5, t19_6, t20_7, t21_8, t22_10, t23_11, t24_13, t25_15, t26_17, t27_18], h19⟩) (
k (.exit 0) ⟨#[x0, x1, x2, x3, x4, x5, x6, x7, x5, t9_2, x10, x11, x12, x13, x14, x15, x16, x17, x18, x19, x20, x21, x22, x23, x24, x25, x26, x27], h⟩) := by kernel_rfl
theorem call60 (x0 x1 : Value) (h : Heap) : evC Try.prog 60 #[x0, x1] h = codeK Try.prog (evC Try.prog) loopL c60_0 ⟨#[x0, x1, undef, undef, undef, undef, undef, undef, undef, undef, undef, undef, undef, undef, undef, undef, undef, undef, undef, undef, undef, undef, undef, undef, undef, undef, undef, undef], nm h⟩ (retK Try.f60 Try.prog h) :=
  (evC_call 60 Try.f60 c60_0 Try.func60 (by kernel_rfl) #[x0, x1] h).trans (by kernel_rfl)
theorem ret60 (x0 x1 x2 x3 x4 x5 x6 x7 x8 x9 x10 x11 x12 x13 x14 x15 x16 x17 x18 x19 x20 x21 x22 x23 x24 x25 x26 x27 : Value) (h0 h : Heap) : retK Try.f60 Try.prog h0 .ret ⟨#[x0, x1, x2, x3, x4, x5, x6, x7, x8, x9, x10, x11, x12, x13, x14, x15, x16, x17, x18, x19, x20, x21, x22, x23, x24, x25, x26, x27], h⟩ = fin h0 (some (.tuple #[])) h := by kernel_rfl
theorem retn60 (x0 x1 x2 x3 x4 x5 x6 x7 x8 x9 x10 x11 x12 x13 x14 x15 x16 x17 x18 x19 x20 x21 x22 x23 x24 x25 x26 x27 : Value) (h0 h : Heap) : retK Try.f60 Try.prog h0 .normal ⟨#[x0, x1, x2, x3, x4, x5, x6, x7, x8, x9, x10, x11, x12, x13, x14, x15, x16, x17, x18, x19, x20, x21, x22, x23, x24, x25, x26, x27], h⟩ = fin h0 (some (.tuple #[])) h := by kernel_rfl
end Go.Am
namespace Go.Am
open Go.Proofs
set_option maxRecDepth 100000
noncomputable def c100_0 : Code := bodyC Try.f100 []
theorem c100_0_eq {β : Type} (x0 x1 x2 x3 x4 x5 x6 x7 x8 : Value) (h : Heap) (k : Ex → St → Option β) : codeK Try.prog (evC Try.prog) loopL c100_0 ⟨#[x0, x1, x2, x3, x4, x5, x6, x7, x8], h⟩ k =
(binV Try.prog .andNot 47 (.tmp 5) (.tmp 6) x0 x1).bind fun t7_0 =>
(binV Try.prog .eql 47 (.tmp 7) (.const (Go.Value.int Go.IntKind.u64 0)) t7_0 (Go.Value.int Go.IntKind.u64 0)).bind fun t8_1 =>
k .ret ⟨#[x0, x1, x2, x3, t8_1, x0, x1, t7_0, t8_1], h⟩ := by kernel_rfl
theorem call100 (x0 x1 : Value) (h : Heap) : evC Try.prog 100 #[x0, x1] h = codeK Try.prog (evC Try.prog) loopL c100_0 ⟨#[x0, x1, undef, undef, undef, undef, undef, undef, undef], nm h⟩ (retK Try.f100 Try.prog h) :=
  (evC_call 100 Try.f100 c100_0 Try.func100 (by kernel_rfl) #[x0, x1] h).trans (by kernel_rfl)
theorem ret100 (x0 x1 x2 x3 x4 x5 x6 x7 x8 : Value) (h0 h : Heap) : retK Try.f100 Try.prog h0 .ret ⟨#[x0, x1, x2, x3, x4, x5, x6, x7, x8], h⟩ = fin h0 (some x4) h := by kernel_rfl
theorem retn100 (x0 x1 x2 x3 x4 x5 x6 x7 x8 : Value) (h0 h : Heap) : retK Try.f100 Try.prog h0 .normal ⟨#[x0, x1, x2, x3, x4, x5, x6, x7, x8], h⟩ = fin h0 (some x4) h := by kernel_rfl
end Go.Am
namespace Go.Am
open Go.Proofs
set_option maxRecDepth 100000
noncomputable def c126_0 : Code := bodyC Try.f126 []
theorem c126_0_eq {β : Type} (x0 x1 x2 x3 x4 x5 x6 x7 x8 : Value) (h : Heap) (k : Ex → St → Option β) : codeK Try.prog (evC Try.prog) loopL c126_0 ⟨#[x0, x1, x2, x3, x4, x5, x6, x7, x8], h⟩ k =
obH (evC Try.prog 128 #[x0, x1] h) fun t7_0 h1 =>
(binV Try.prog .eql 3 (.tmp 7) (.const (Go.Value.int Go.IntKind.i64 0)) t7_0 (Go.Value.int Go.IntKind.i64 0)).bind fun t8_2 =>
k .ret ⟨#[x0, x1, x2, x3, t8_2, x0, x1, t7_0, t8_2], h1⟩ := by kernel_rfl
theorem call126 (x0 x1 : Value) (h : Heap) : evC Try.prog 126 #[x0, x1] h = codeK Try.prog (evC Try.prog) loopL c126_0 ⟨#[x0, x1, undef, undef, undef, undef, undef, undef, undef], nm h⟩ (retK Try.f126 Try.prog h) :=
  (evC_call 126 Try.f126 c126_0 Try.func126 (by kernel_rfl) #[x0, x1] h).trans (by kernel_rfl)
theorem ret126 (x0 x1 x2 x3 x4 x5 x6 x7 x8 : Value) (h0 h : Heap) : retK Try.f126 Try.prog h0 .ret ⟨#[x0, x1, x2, x3, x4, x5, x6, x7, x8], h⟩ = fin h0 (some x4) h := by kernel_rfl
theorem retn126 (x0 x1 x2 x3 x4 x5 x6 x7 x8 : Value) (h0 h : Heap) : retK Try.f126 Try.prog h0 .normal ⟨#[x0, x1, x2, x3, x4, x5, x6, x7, x8], h⟩ = fin h0 (some x4) h := by kernel_rfl
end Go.Am
namespace Go.Am
open Go.Proofs
set_option maxRecDepth 100000
noncomputable def c128_0 : Code := bodyC Try.f128 []
theorem c128_0_eq {β : Type} (x0 x1 x2 x3 x4 x5 x6 x7 x8 x9 : Value) (h : Heap) (k : Ex → St → Option β) : codeK Try.prog (evC Try.prog) loopL c128_0 ⟨#[x0, x1, x2, x3, x4, x5, x6, x7, x8, x9], h⟩ k =
obH (evC Try.prog 105 #[x0] h) fun t6_0 h1 =>
obH (evC Try.prog 105 #[x1] h1) fun t8_2 h3 =>
obH (evC Try.prog 129 #[t6_0, t8_2] h3) fun t9_4 h5 =>
k .ret ⟨#[x0, x1, x2, x3, t9_4, x0, t6_0, x1, t8_2, t9_4], h5⟩ := by kernel_rfl
theorem call128 (x0 x1 : Value) (h : Heap) : evC Try.prog 128 #[x0, x1] h = codeK Try.prog (evC Try.prog) loopL c128_0 ⟨#[x0, x1, undef, undef, undef, undef, undef, undef, undef, undef], nm h⟩ (retK Try.f128 Try.prog h) :=
  (evC_call 128 Try.f128 c128_0 Try.func128 (by kernel_rfl) #[x0, x1] h).trans (by kernel_rfl)
theorem ret128 (x0 x1 x2 x3 x4 x5 x6 x7 x8 x9 : Value) (h0 h : Heap) : retK Try.f128 Try.prog h0 .ret ⟨#[x0, x1, x2, x3, x4, x5, x6, x7, x8, x9], h⟩ = fin h0 (some x4) h := by kernel_rfl
theorem retn128 (x0 x1 x2 x3 x4 x5 x6 x7 x8 x9 : Value) (h0 h : Heap) : retK Try.f128 Try.prog h0 .normal ⟨#[x0, x1, x2, x3, x4, x5, x6, x7, x8, x9], h⟩ = fin h0 (some x4) h := by kernel_rfl
end Go.Am
namespace Go.Am
open Go.Proofs
set_option maxRecDepth 100000
noncomputable def c129_0 : Code := bodyC Try.f129 []
theorem c129_0_eq {β : Type} (x0 x1 x2 x3 x4 x5 x6 x7 x8 x9 x10 x11 x12 x13 x14 x15 x16 x17 x18 x19 : Value) (h : Heap) (k : Ex → St → Option β) : codeK Try.prog (evC Try.prog) loopL c129_0 ⟨#[x0, x1, x2, x3, x4, x5, x6, x7, x8, x9, x10, x11, x12, x13, x14, x15, x16, x17, x18, x19], h⟩ k =
obH (evC Try.prog 130 #[x0] h) fun t8_0 h1 =>
obH (evC Try.prog 130 #[x1] h1) fun t10_2 h3 =>
cnd t8_0 (
cnd t10_2 (
k .ret ⟨#[x0, x1, x2, x3, (Go.Value.int Go.IntKind.i64 0), t8_0, t10_2, x0, t8_0, x1, t10_2, t8_0, t10_2, x13, x14, x15, x16, x17, x18, x19], h3⟩) (
k .ret ⟨#[x0, x1, x2, x3, (Go.Value.int Go.IntKind.i64 (-1)), t8_0, t10_2, x0, t8_0, x1, t10_2, t8_0, t10_2, x13, x14, x15, x16, x17, x18, x19], h3⟩)) (
cnd t10_2 (
k .ret ⟨#[x0, x1, x2, x3, (Go.Value.int Go.IntKind.i64 1), t8_0, t10_2, x0, t8_0, x1, t10_2, t8_0, x12, t10_2, x14, x15, x16, x17, x18, x19], h3⟩) (
(binV Try.prog .lss 46 (.tmp 14) (.tmp 15) x0 x1).bind fun t16_4 =>
cnd t16_4 (
k .ret ⟨#[x0, x1, x2, x3, (Go.Value.int Go.IntKind.i64 (-1)), t8_0, t10_2, x0, t8_0, x1, t10_2, t8_0, x12, t10_2, x0, x1, t16_4, x17, x18, x19], h3⟩) (
(binV Try.prog .gtr 46 (.tmp 17) (.tmp 18) x0 x1).bind fun t19_5 =>
cnd t19_5 (
k .ret ⟨#[x0, x1, x2, x3, (Go.Value.int Go.IntKind.i64 1), t8_0, t10_2, x0, t8_0, x1, t10_2, t8_0, x12, t10_2, x0, x1, t16_4, x0, x1, t19_5], h3⟩) (
k .ret ⟨#[x0, x1, x2, x3, (Go.Value.int Go.IntKind.i64 0), t8_0, t10_2, x0, t8_0, x1, t10_2, t8_0, x12, t10_2, x0, x1, t16_4, x0, x1, t19_5], h3⟩)))) := by kernel_rfl
theorem call129 (x0 x1 : Value) (h : Heap) : evC Try.prog 129 #[x0, x1] h = codeK Try.prog (evC Try.prog) loopL c129_0 ⟨#[x0, x1, undef, undef, undef, undef, undef, undef, undef, undef, undef, undef, undef, undef, undef, undef, undef, undef, undef, undef], nm h⟩ (retK Try.f129 Try.prog h) :=
  (evC_call 129 Try.f129 c129_0 Try.func129 (by kernel_rfl) #[x0, x1] h).trans (by kernel_rfl)
theorem ret129 (x0 x1 x2 x3 x4 x5 x6 x7 x8 x9 x10 x11 x12 x13 x14 x15 x16 x17 x18 x19 : Value) (h0 h : Heap) : retK Try.f129 Try.prog h0 .ret ⟨#[x0, x1, x2, x3, x4, x5, x6, x7, x8, x9, x10, x11, x12, x13, x14, x15, x16, x17, x18, x19], h⟩ = fin h0 (some x4) h := by kernel_rfl
theorem retn129 (x0 x1 x2 x3 x4 x5 x6 x7 x8 x9 x10 x11 x12 x13 x14 x15 x16 x17 x18 x19 : Value) (h0 h : Heap) : retK Try.f129 Try.prog h0 .normal ⟨#[x0, x1, x2, x3, x4, x5, x6, x7, x8, x9, x10, x11, x12, x13, x14, x15, x16, x17, x18, x19], h⟩ = fin h0 (some x4) h := by kernel_rfl
end Go.Am
namespace Go.Am
open Go.Proofs
set_option maxRecDepth 100000
noncomputable def c130_0 : Code := bodyC Try.f130 []
theorem c130_0_eq {β : Type} (x0 x1 x2 x3 x4 x5 : Value) (h : Heap) (k : Ex → St → Option β) : codeK Try.prog (evC Try.prog) loopL c130_0 ⟨#[x0, x1, x2, x3, x4, x5], h⟩ k =
(binV Try.prog .neq 46 (.tmp 3) (.tmp 4) x0 x0).bind fun t5_0 =>
k .ret ⟨#[x0, x1, t5_0, x0, x0, t5_0], h⟩ := by kernel_rfl
theorem call130 (x0 : Value) (h : Heap) : evC Try.prog 130 #[x0] h = codeK Try.prog (evC Try.prog) loopL c130_0 ⟨#[x0, undef, undef, undef, undef, undef], nm h⟩ (retK Try.f130 Try.prog h) :=
  (evC_call 130 Try.f130 c130_0 Try.func130 (by kernel_rfl) #[x0] h).trans (by kernel_rfl)
theorem ret130 (x0 x1 x2 x3 x4 x5 : Value) (h0 h : Heap) : retK Try.f130 Try.prog h0 .ret ⟨#[x0, x1, x2, x3, x4, x5], h⟩ = fin h0 (some x2) h := by kernel_rfl
theorem retn130 (x0 x1 x2 x3 x4 x5 : Value) (h0 h : Heap) : retK Try.f130 Try.prog h0 .normal ⟨#[x0, x1, x2, x3, x4, x5], h⟩ = fin h0 (some x2) h := by kernel_rfl
end Go.Am
namespace Go.Am
open Go.Proofs
set_option maxRecDepth 100000
noncomputable def c111_0 : Code := bodyC Try.f111 []
theorem c111_0_eq {β : Type} (x0 x1 x2 x3 x4 x5 x6 x7 x8 x9 x10 x11 x12 x13 x14 : Value) (h : Heap) (k : Ex → St → Option β) : codeK Try.prog (evC Try.prog) loopL c111_0 ⟨#[x0, x1, x2, x3, x4, x5, x6, x7, x8, x9, x10, x11, x12, x13, x14], h⟩ k =
(binV Try.prog .geq 3 (.tmp 7) (.tmp 8) x0 x1).bind fun t9_0 =>
(gd (wt t9_0 true) (binV Try.prog .leq 3 (.tmp 11) (.tmp 12) (gdV (wt t9_0 true) x0) (gdV (wt t9_0 true) x2))).bind fun t13_1 =>
(pickV t9_0 t13_1 (Go.Value.bool Bool.false)).bind fun t14_2 =>
k .ret ⟨#[x0, x1, x2, x3, x4, x5, t14_2, x0, x1, t9_0, t9_0, (gdV (wt t9_0 true) x0), (gdV (wt t9_0 true) x2), t13_1, t14_2], h⟩ := by kernel_rfl
theorem call111 (x0 x1 x2 : Value) (h : Heap) : evC Try.prog 111 #[x0, x1, x2] h = codeK Try.prog (evC Try.prog) loopL c111_0 ⟨#[x0, x1, x2, undef, undef, undef, undef, undef, undef, undef, undef, undef, undef, undef, undef], nm h⟩ (retK Try.f111 Try.prog h) :=
  (evC_call 111 Try.f111 c111_0 Try.func111 (by kernel_rfl) #[x0, x1, x2] h).trans (by kernel_rfl)
theorem ret111 (x0 x1 x2 x3 x4 x5 x6 x7 x8 x9 x10 x11 x12 x13 x14 : Value) (h0 h : Heap) : retK Try.f111 Try.prog h0 .ret ⟨#[x0, x1, x2, x3, x4, x5, x6, x7, x8, x9, x10, x11, x12, x13, x14], h⟩ = fin h0 (some x6) h := by kernel_rfl
theorem retn111 (x0 x1 x2 x3 x4 x5 x6 x7 x8 x9 x10 x11 x12 x13 x14 : Value) (h0 h : Heap) : retK Try.f111 Try.prog h0 .normal ⟨#[x0, x1, x2, x3, x4, x5, x6, x7, x8, x9, x10, x11, x12, x13, x14], h⟩ = fin h0 (some x6) h := by kernel_rfl
end Go.Am
