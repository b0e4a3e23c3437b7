/- What the texts of functions come to in the machine (printed by a program of this seat; Lean checks it). -/
import Derived.Test.YtojjjicjpimhoaaKB
import Derived.Test.YtojjjicjpimhoaaChecked
import Derived.KernelRfl
set_option linter.all false
namespace Go.Am
open Go.Proofs
set_option maxRecDepth 100000
noncomputable def c124_0 : Code := bodyC Try.f124 []
noncomputable def c124_1 : Code := bodyC Try.f124 [true, true, false, false, false]
noncomputable def c124_2 : Code := bodyC Try.f124 [true, true, true]
theorem c124_0_eq {β : Type} (x0 x1 x2 x3 x4 x5 x6 x7 x8 x9 x10 : Value) (h : Heap) (k : Ex → St → Option β) : codeK Try.prog (evC Try.prog) loopL c124_0 ⟨#[x0, x1, x2, x3, x4, x5, x6, x7, x8, x9, x10], h⟩ k =
loopK Try.prog (evC Try.prog) c124_1 ⟨#[x0, x1, (Go.Value.int Go.IntKind.i64 0), (Go.Value.int Go.IntKind.i64 1), x4, x5, x6, x7, x8, x9, x10], h⟩ (blockK 0 (seqK Try.prog (evC Try.prog) c124_2 k)) := by kernel_rfl
theorem c124_1_eq {β : Type} (x0 x1 x2 x3 x4 x5 x6 x7 x8 x9 x10 : Value) (h : Heap) (k : Ex → St → Option β) : codeK Try.prog (evC Try.prog) loopL c124_1 ⟨#[x0, x1, x2, x3, x4, x5, x6, x7, x8, x9, x10], h⟩ k =
(binV Try.prog .geq 46 (.tmp 4) (.const (Go.Value.int Go.IntKind.u64 128)) x0 (Go.Value.int Go.IntKind.u64 128)).bind fun t5_0 =>
cnd t5_0 (
(binV Try.prog .shr 46 (.tmp 6) (.const (Go.Value.int Go.IntKind.u64 7)) x0 (Go.Value.int Go.IntKind.u64 7)).bind fun t7_1 =>
(binV Try.prog .add 3 (.tmp 8) (.const (Go.Value.int Go.IntKind.i64 1)) x3 (Go.Value.int Go.IntKind.i64 1)).bind fun t9_2 =>
k .normal ⟨#[t7_1, x1, x2, t9_2, x0, t5_0, x0, t7_1, x3, t9_2, x10], h⟩) (
k (.exit 0) ⟨#[x0, x1, x2, x3, x0, t5_0, x6, x7, x8, x9, x10], h⟩) := by kernel_rfl
theorem c124_2_eq {β : Type} (x0 x1 x2 x3 x4 x5 x6 x7 x8 x9 x10 : Value) (h : Heap) (k : Ex → St → Option β) : codeK Try.prog (evC Try.prog) loopL c124_2 ⟨#[x0, x1, x2, x3, x4, x5, x6, x7, x8, x9, x10], h⟩ k =
k .ret ⟨#[x0, x1, x3, x3, x4, x5, x6, x7, x8, x9, x3], h⟩ := by kernel_rfl
theorem call124 (x0 : Value) (h : Heap) : evC Try.prog 124 #[x0] h = codeK Try.prog (evC Try.prog) loopL c124_0 ⟨#[x0, undef, undef, undef, undef, undef, undef, undef, undef, undef, undef], nm h⟩ (retK Try.f124 Try.prog h) :=
  (evC_call 124 Try.f124 c124_0 Try.func124 (by kernel_rfl) #[x0] h).trans (by kernel_rfl)
theorem ret124 (x0 x1 x2 x3 x4 x5 x6 x7 x8 x9 x10 : Value) (h0 h : Heap) : retK Try.f124 Try.prog h0 .ret ⟨#[x0, x1, x2, x3, x4, x5, x6, x7, x8, x9, x10], h⟩ = fin h0 (some x2) h := by kernel_rfl
theorem retn124 (x0 x1 x2 x3 x4 x5 x6 x7 x8 x9 x10 : Value) (h0 h : Heap) : retK Try.f124 Try.prog h0 .normal ⟨#[x0, x1, x2, x3, x4, x5, x6, x7, x8, x9, x10], h⟩ = fin h0 (some x2) h := by kernel_rfl
end Go.Am
namespace Go.Am
open Go.Proofs
set_option maxRecDepth 100000
noncomputable def c94_0 : Code := bodyC Try.f94 []
noncomputable def c94_1 : Code := bodyC Try.f94 [true, true, false, false, false]
noncomputable def c94_2 : Code := bodyC Try.f94 [true, true, true]
theorem c94_0_eq {β : Type} (x0 x1 x2 x3 x4 x5 x6 x7 x8 x9 x10 x11 x12 x13 x14 x15 x16 x17 x18 x19 x20 x21 x22 : Value) (h : Heap) (k : Ex → St → Option β) : codeK Try.prog (evC Try.prog) loopL c94_0 ⟨#[x0, x1, x2, x3, x4, x5, x6, x7, x8, x9, x10, x11, x12, x13, x14, x15, x16, x17, x18, x19, x20, x21, x22], h⟩ k =
obH (appendV Try.prog 23 (some 23) (Go.Value.slice Option.none 0 0) x0 h) fun t7_0 h1 =>
loopK Try.prog (evC Try.prog) c94_1 ⟨#[x0, x1, x2, x3, (Go.Value.slice Option.none 0 0), t7_0, x0, t7_0, x8, x9, x10, x11, x12, x13, x14, x15, x16, x17, x18, x19, x20, x21, x22], h1⟩ (blockK 0 (seqK Try.prog (evC Try.prog) c94_2 k)) := by kernel_rfl
theorem c94_1_eq {β : Type} (x0 x1 x2 x3 x4 x5 x6 x7 x8 x9 x10 x11 x12 x13 x14 x15 x16 x17 x18 x19 x20 x21 x22 : Value) (h : Heap) (k : Ex → St → Option β) : codeK Try.prog (evC Try.prog) loopL c94_1 ⟨#[x0, x1, x2, x3, x4, x5, x6, x7, x8, x9, x10, x11, x12, x13, x14, x15, x16, x17, x18, x19, x20, x21, x22], h⟩ k =
(binV Try.prog .geq 46 (.tmp 8) (.const (Go.Value.int Go.IntKind.u64 128)) x1 (Go.Value.int Go.IntKind.u64 128)).bind fun t9_2 =>
cnd t9_2 (
obH (convV Try.prog 46 5 x1 h) fun t12_3 h4 =>
(binV Try.prog .or 5 (.tmp 12) (.const (Go.Value.int Go.IntKind.u8 128)) t12_3 (Go.Value.int Go.IntKind.u8 128)).bind fun t13_5 =>
obH (buildSliceV Try.prog 23 1 #[(0, t13_5)] h4) fun t14_6 h7 =>
obH (appendV Try.prog 23 (some 23) x5 t14_6 h7) fun t15_8 h9 =>
(binV Try.prog .shr 46 (.tmp 16) (.const (Go.Value.int Go.IntKind.u64 7)) x1 (Go.Value.int Go.IntKind.u64 7)).bind fun t17_10 =>
k .normal ⟨#[x0, t17_10, x2, x3, x4, t15_8, x6, x7, x1, t9_2, x5, x1, t12_3, t13_5, t14_6, t15_8, x1, t17_10, x18, x19, x20, x21, x22], h9⟩) (
k (.exit 0) ⟨#[x0, x1, x2, x3, x4, x5, x6, x7, x1, t9_2, x10, x11, x12, x13, x14, x15, x16, x17, x18, x19, x20, x21, x22], h⟩) := by kernel_rfl
theorem c94_2_eq {β : Type} (x0 x1 x2 x3 x4 x5 x6 x7 x8 x9 x10 x11 x12 x13 x14 x15 x16 x17 x18 x19 x20 x21 x22 : Value) (h : Heap) (k : Ex → St → Option β) : codeK Try.prog (evC Try.prog) loopL c94_2 ⟨#[x0, x1, x2, x3, x4, x5, x6, x7, x8, x9, x10, x11, x12, x13, x14, x15, x16, x17, x18, x19, x20, x21, x22], h⟩ k =
obH (convV Try.prog 46 5 x1 h) fun t20_11 h12 =>
obH (buildSliceV Try.prog 23 1 #[(0, t20_11)] h12) fun t21_13 h14 =>
obH (appendV Try.prog 23 (some 23) x5 t21_13 h14) fun t22_15 h16 =>
k .ret ⟨#[x0, x1, x2, x3, t22_15, x5, x6, x7, x8, x9, x10, x11, x12, x13, x14, x15, x16, x17, x5, x1, t20_11, t21_13, t22_15], h16⟩ := by kernel_rfl
theorem call94 (x0 x1 : Value) (h : Heap) : evC Try.prog 94 #[x0, x1] h = codeK Try.prog (evC Try.prog) loopL c94_0 ⟨#[x0, x1, undef, undef, undef, undef, undef, undef, undef, undef, undef, undef, undef, undef, undef, undef, undef, undef, undef, undef, undef, undef, undef], nm h⟩ (retK Try.f94 Try.prog h) :=
  (evC_call 94 Try.f94 c94_0 Try.func94 (by kernel_rfl) #[x0, x1] h).trans (by kernel_rfl)
theorem ret94 (x0 x1 x2 x3 x4 x5 x6 x7 x8 x9 x10 x11 x12 x13 x14 x15 x16 x17 x18 x19 x20 x21 x22 : Value) (h0 h : Heap) : retK Try.f94 Try.prog h0 .ret ⟨#[x0, x1, x2, x3, x4, x5, x6, x7, x8, x9, x10, x11, x12, x13, x14, x15, x16, x17, x18, x19, x20, x21, x22], h⟩ = fin h0 (some x4) h := by kernel_rfl
theorem retn94 (x0 x1 x2 x3 x4 x5 x6 x7 x8 x9 x10 x11 x12 x13 x14 x15 x16 x17 x18 x19 x20 x21 x22 : Value) (h0 h : Heap) : retK Try.f94 Try.prog h0 .normal ⟨#[x0, x1, x2, x3, x4, x5, x6, x7, x8, x9, x10, x11, x12, x13, x14, x15, x16, x17, x18, x19, x20, x21, x22], h⟩ = fin h0 (some x4) h := by kernel_rfl
end Go.Am
namespace Go.Am
open Go.Proofs
set_option maxRecDepth 100000
noncomputable def c96_0 : Code := bodyC Try.f96 []
noncomputable def c96_1 : Code := bodyC Try.f96 [true, false, true, false, false]
noncomputable def c96_2 : Code := bodyC Try.f96 [true, true]
theorem c96_0_eq {β : Type} (x0 x1 x2 x3 x4 x5 x6 x7 x8 x9 x10 x11 x12 x13 x14 x15 x16 x17 x18 x19 x20 x21 x22 x23 x24 x25 x26 x27 x28 x29 x30 x31 x32 x33 x34 x35 x36 x37 x38 x39 x40 x41 : Value) (h : Heap) (k : Ex → St → Option β) : codeK Try.prog (evC Try.prog) loopL c96_0 ⟨#[x0, x1, x2, x3, x4, x5, x6, x7, x8, x9, x10, x11, x12, x13, x14, x15, x16, x17, x18, x19, x20, x21, x22, x23, x24, x25, x26, x27, x28, x29, x30, x31, x32, x33, x34, x35, x36, x37, x38, x39, x40, x41], h⟩ k =
(lenV Try.prog 23 x0 h).bind fun t7_0 =>
loopK Try.prog (evC Try.prog) c96_1 ⟨#[x0, x1, (Go.Value.int Go.IntKind.u64 0), (Go.Value.int Go.IntKind.i64 0), x4, x5, x0, t7_0, (Go.Value.int Go.IntKind.i64 0), x9, x10, x11, x12, x13, x14, x15, x16, x17, x18, x19, x20, x21, x22, x23, x24, x25, x26, x27, x28, x29, x30, x31, x32, x33, x34, x35, x36, x37, x38, x39, x40, x41], h⟩ (blockK 0 (seqK Try.prog (evC Try.prog) c96_2 k)) := by kernel_rfl
theorem c96_1_eq {β : Type} (x0 x1 x2 x3 x4 x5 x6 x7 x8 x9 x10 x11 x12 x13 x14 x15 x16 x17 x18 x19 x20 x21 x22 x23 x24 x25 x26 x27 x28 x29 x30 x31 x32 x33 x34 x35 x36 x37 x38 x39 x40 x41 : Value) (h : Heap) (k : Ex → St → Option β) : codeK Try.prog (evC Try.prog) loopL c96_1 ⟨#[x0, x1, x2, x3, x4, x5, x6, x7, x8, x9, x10, x11, x12, x13, x14, x15, x16, x17, x18, x19, x20, x21, x22, x23, x24, x25, x26, x27, x28, x29, x30, x31, x32, x33, x34, x35, x36, x37, x38, x39, x40, x41], h⟩ k =
(binV Try.prog .lss 3 (.tmp 8) (.tmp 7) x8 x7).bind fun t9_1 =>
cnd t9_1 (
(indexAddrV Try.prog 23 x6 x8).bind fun t11_2 =>
(loadV Try.prog 5 t11_2 h).bind fun t12_3 =>
(binV Try.prog .eql 3 (.tmp 13) (.const (Go.Value.int Go.IntKind.i64 10)) x8 (Go.Value.int Go.IntKind.i64 10)).bind fun t14_4 =>
cnd t14_4 (
k (.exit 0) ⟨#[x0, x1, x2, x3, x8, t12_3, x6, x7, x8, t9_1, x8, t11_2, t12_3, x8, t14_4, x15, x16, x17, x18, x19, x20, x21, x22, x23, x24, x25, x26, x27, x28, x29, x30, x31, x32, x33, x34, x35, x36, x37, x38, x39, x40, x41], h⟩) (
(binV Try.prog .and 5 (.tmp 16) (.const (Go.Value.int Go.IntKind.u8 127)) t12_3 (Go.Value.int Go.IntKind.u8 127)).bind fun t17_5 =>
obH (convV Try.prog 5 46 t17_5 h) fun t18_6 h7 =>
(binV Try.prog .mul 3 (.const (Go.Value.int Go.IntKind.i64 7)) (.tmp 19) (Go.Value.int Go.IntKind.i64 7) x8).bind fun t20_8 =>
(binV Try.prog .shl 46 (.tmp 18) (.tmp 20) t18_6 t20_8).bind fun t21_9 =>
(binV Try.prog .or 46 (.tmp 15) (.tmp 21) x2 t21_9).bind fun t22_10 =>
(binV Try.prog .lss 5 (.tmp 23) (.const (Go.Value.int Go.IntKind.u8 128)) t12_3 (Go.Value.int Go.IntKind.u8 128)).bind fun t24_11 =>
cnd t24_11 (
obH (evC Try.prog 124 #[t22_10] h7) fun t26_12 h13 =>
(binV Try.prog .add 3 (.tmp 27) (.const (Go.Value.int Go.IntKind.i64 1)) x8 (Go.Value.int Go.IntKind.i64 1)).bind fun t28_14 =>
(binV Try.prog .neq 3 (.tmp 26) (.tmp 28) t26_12 t28_14).bind fun t29_15 =>
(gd (wt t29_15 false) (binV Try.prog .eql 3 (.tmp 31) (.const (Go.Value.int Go.IntKind.i64 9)) (gdV (wt t29_15 false) x8) (Go.Value.int Go.IntKind.i64 9))).bind fun t32_16 =>
(gd (wt (gdV (wt t29_15 false) t32_16) true) (binV Try.prog .gtr 5 (.tmp 34) (.const (Go.Value.int Go.IntKind.u8 1)) (gdV (wt (gdV (wt t29_15 false) t32_16) true) t12_3) (Go.Value.int Go.IntKind.u8 1))).bind fun t35_17 =>
(gd (wt t29_15 false) (pickV (gdV (wt t29_15 false) t32_16) t35_17 (Go.Value.bool Bool.false))).bind fun t36_18 =>
(pickV t29_15 (Go.Value.bool Bool.true) t36_18).bind fun t37_19 =>
cnd t37_19 (
k (.exit 0) ⟨#[x0, x1, t22_10, x3, x8, t12_3, x6, x7, x8, t9_1, x8, t11_2, t12_3, x8, t14_4, x2, t12_3, t17_5, t18_6, x8, t20_8, t21_9, t22_10, t12_3, t24_11, t22_10, t26_12, x8, t28_14, t29_15, t29_15, (gdV (wt t29_15 false) x8), t32_16, (gdV (wt t29_15 false) t32_16), (gdV (wt (gdV (wt t29_15 false) t32_16) true) t12_3), t35_17, t36_18, t37_19, x38, x39, x40, x41], h13⟩) (
(binV Try.prog .add 3 (.tmp 39) (.const (Go.Value.int Go.IntKind.i64 1)) x8 (Go.Value.int Go.IntKind.i64 1)).bind fun t40_20 =>
k .ret ⟨#[x0, x1, t22_10, t40_20, x8, t12_3, x6, x7, x8, t9_1, x8, t11_2, t12_3, x8, t14_4, x2, t12_3, t17_5, t18_6, x8, t20_8, t21_9, t22_10, t12_3, t24_11, t22_10, t26_12, x8, t28_14, t29_15, t29_15, (gdV (wt t29_15 false) x8), t32_16, (gdV (wt t29_15 false) t32_16), (gdV (wt (gdV (wt t29_15 false) t32_16) true) t12_3), t35_17, t36_18, t37_19, t22_10, x8, t40_20, x41], h13⟩)) (
(binV Try.prog .add 3 (.tmp 8) (.const (Go.Value.int Go.IntKind.i64 1)) x8 (Go.Value.int Go.IntKind.i64 1)).bind fun t41_21 =>
k .normal ⟨#[x0, x1, t22_10, x3, x8, t12_3, x6, x7, t41_21, t9_1, x8, t11_2, t12_3, x8, t14_4, x2, t12_3, t17_5, t18_6, x8, t20_8, t21_9, t22_10, t12_3, t24_11, x25, x26, x27, x28, x29, x30, x31, x32, x33, x34, x35, x36, x37, x38, x39, x40, t41_21], h7⟩))) (
k (.exit 0) ⟨#[x0, x1, x2, x3, x4, x5, x6, x7, x8, t9_1, x10, x11, x12, x13, x14, x15, x16, x17, x18, x19, x20, x21, x22, x23, x24, x25, x26, x27, x28, x29, x30, x31, x32, x33, x34, x35, x36, x37, x38, x39, x40, x41], h⟩) := by kernel_rfl
theorem c96_2_eq {β : Type} (x0 x1 x2 x3 x4 x5 x6 x7 x8 x9 x10 x11 x12 x13 x14 x15 x16 x17 x18 x19 x20 x21 x22 x23 x24 x25 x26 x27 x28 x29 x30 x31 x32 x33 x34 x35 x36 x37 x38 x39 x40 x41 : Value) (h : Heap) (k : Ex → St → Option β) : codeK Try.prog (evC Try.prog) loopL c96_2 ⟨#[x0, x1, x2, x3, x4, x5, x6, x7, x8, x9, x10, x11, x12, x13, x14, x15, x16, x17, x18, x19, x20, x21, x22, x23, x24, x25, x26, x27, x28, x29, x30, x31, x32, x33, x34, x35, x36, x37, x38, x39, x40, x41], h⟩ k =
k .ret ⟨#[x0, x1, (Go.Value.int Go.IntKind.u64 0), (Go.Value.int Go.IntKind.i64 0), x4, x5, x6, x7, x8, x9, x10, x11, x12, x13, x14, x15, x16, x17, x18, x19, x20, x21, x22, x23, x24, x25, x26, x27, x28, x29, x30, x31, x32, x33, x34, x35, x36, x37, x38, x39, x40, x41], h⟩ := by kernel_rfl
theorem call96 (x0 : Value) (h : Heap) : evC Try.prog 96 #[x0] h = codeK Try.prog (evC Try.prog) loopL c96_0 ⟨#[x0, undef, undef, undef, undef, undef, undef, undef, undef, undef, undef, undef, undef, undef, undef, undef, undef, undef, undef, undef, undef, undef, undef, undef, undef, undef, undef, undef, undef, undef, undef, undef, undef, undef, undef, undef, undef, undef, undef, undef, undef, undef], nm h⟩ (retK Try.f96 Try.prog h) :=
  (evC_call 96 Try.f96 c96_0 Try.func96 (by kernel_rfl) #[x0] h).trans (by kernel_rfl)
theorem ret96 (x0 x1 x2 x3 x4 x5 x6 x7 x8 x9 x10 x11 x12 x13 x14 x15 x16 x17 x18 x19 x20 x21 x22 x23 x24 x25 x26 x27 x28 x29 x30 x31 x32 x33 x34 x35 x36 x37 x38 x39 x40 x41 : Value) (h0 h : Heap) : retK Try.f96 Try.prog h0 .ret ⟨#[x0, x1, x2, x3, x4, x5, x6, x7, x8, x9, x10, x11, x12, x13, x14, x15, x16, x17, x18, x19, x20, x21, x22, x23, x24, x25, x26, x27, x28, x29, x30, x31, x32, x33, x34, x35, x36, x37, x38, x39, x40, x41], h⟩ = fin h0 (some (.tuple #[x2, x3])) h := by kernel_rfl
theorem retn96 (x0 x1 x2 x3 x4 x5 x6 x7 x8 x9 x10 x11 x12 x13 x14 x15 x16 x17 x18 x19 x20 x21 x22 x23 x24 x25 x26 x27 x28 x29 x30 x31 x32 x33 x34 x35 x36 x37 x38 x39 x40 x41 : Value) (h0 h : Heap) : retK Try.f96 Try.prog h0 .normal ⟨#[x0, x1, x2, x3, x4, x5, x6, x7, x8, x9, x10, x11, x12, x13, x14, x15, x16, x17, x18, x19, x20, x21, x22, x23, x24, x25, x26, x27, x28, x29, x30, x31, x32, x33, x34, x35, x36, x37, x38, x39, x40, x41], h⟩ = fin h0 (some (.tuple #[x2, x3])) h := by kernel_rfl
end Go.Am
namespace Go.Am
open Go.Proofs
set_option maxRecDepth 100000
noncomputable def c95_0 : Code := bodyC Try.f95 []
theorem c95_0_eq {β : Type} (x0 x1 x2 x3 x4 x5 x6 x7 : Value) (h : Heap) (k : Ex → St → Option β) : codeK Try.prog (evC Try.prog) loopL c95_0 ⟨#[x0, x1, x2, x3, x4, x5, x6, x7], h⟩ k =
(binV Try.prog .eql 23 (.tmp 3) (.const (Go.Value.slice Option.none 0 0)) x0 (Go.Value.slice Option.none 0 0)).bind fun t4_0 =>
cnd t4_0 (
k .ret ⟨#[x0, x1, (Go.Value.slice Option.none 0 0), x0, t4_0, x5, x6, x7], h⟩) (
obH (buildSliceV Try.prog 23 0 #[] h) fun t5_1 h2 =>
obH (appendV Try.prog 23 (some 23) t5_1 x0 h2) fun t7_3 h4 =>
k .ret ⟨#[x0, x1, t7_3, x0, t4_0, t5_1, x0, t7_3], h4⟩) := by kernel_rfl
theorem call95 (x0 : Value) (h : Heap) : evC Try.prog 95 #[x0] h = codeK Try.prog (evC Try.prog) loopL c95_0 ⟨#[x0, undef, undef, undef, undef, undef, undef, undef], nm h⟩ (retK Try.f95 Try.prog h) :=
  (evC_call 95 Try.f95 c95_0 Try.func95 (by kernel_rfl) #[x0] h).trans (by kernel_rfl)
theorem ret95 (x0 x1 x2 x3 x4 x5 x6 x7 : Value) (h0 h : Heap) : retK Try.f95 Try.prog h0 .ret ⟨#[x0, x1, x2, x3, x4, x5, x6, x7], h⟩ = fin h0 (some x2) h := by kernel_rfl
theorem retn95 (x0 x1 x2 x3 x4 x5 x6 x7 : Value) (h0 h : Heap) : retK Try.f95 Try.prog h0 .normal ⟨#[x0, x1, x2, x3, x4, x5, x6, x7], h⟩ = fin h0 (some x2) h := by kernel_rfl
end Go.Am
namespace Go.Am
open Go.Proofs
set_option maxRecDepth 100000
noncomputable def c105_0 : Code := bodyC Try.f105 []
theorem c105_0_eq {β : Type} (x0 x1 x2 x3 x4 x5 x6 x7 x8 x9 x10 x11 x12 x13 x14 x15 x16 : Value) (h : Heap) (k : Ex → St → Option β) : codeK Try.prog (evC Try.prog) loopL c105_0 ⟨#[x0, x1, x2, x3, x4, x5, x6, x7, x8, x9, x10, x11, x12, x13, x14, x15, x16], h⟩ k =
obH (callV Try.prog (evC Try.prog) (.func (.func 109) #[] #[]) #[x0] h) fun t5_0 h1 =>
obH (evC Try.prog 125 #[x0] h1) fun t8_2 h3 =>
cnd t8_2 (
k .ret ⟨#[x0, x1, (Go.Value.int Go.IntKind.u64 18446744073709551615), t5_0, x0, t5_0, t8_2, x0, t8_2, x9, x10, x11, x12, x13, x14, x15, x16], h3⟩) (
(binV Try.prog .and 46 (.tmp 10) (.const (Go.Value.int Go.IntKind.u64 9223372036854775808)) t5_0 (Go.Value.int Go.IntKind.u64 9223372036854775808)).bind fun t11_4 =>
(binV Try.prog .eql 46 (.tmp 11) (.const (Go.Value.int Go.IntKind.u64 0)) t11_4 (Go.Value.int Go.IntKind.u64 0)).bind fun t12_5 =>
cnd t12_5 (
(binV Try.prog .or 46 (.tmp 13) (.const (Go.Value.int Go.IntKind.u64 9223372036854775808)) t5_0 (Go.Value.int Go.IntKind.u64 9223372036854775808)).bind fun t14_6 =>
k .ret ⟨#[x0, x1, t14_6, t5_0, x0, t5_0, t8_2, x0, t8_2, t12_5, t5_0, t11_4, t12_5, t5_0, t14_6, x15, x16], h3⟩) (
(unV Try.prog .xor t5_0).bind fun t16_7 =>
k .ret ⟨#[x0, x1, t16_7, t5_0, x0, t5_0, t8_2, x0, t8_2, t12_5, t5_0, t11_4, t12_5, x13, x14, t5_0, t16_7], h3⟩)) := by kernel_rfl
theorem call105 (x0 : Value) (h : Heap) : evC Try.prog 105 #[x0] h = codeK Try.prog (evC Try.prog) loopL c105_0 ⟨#[x0, undef, undef, undef, undef, undef, undef, undef, undef, undef, undef, undef, undef, undef, undef, undef, undef], nm h⟩ (retK Try.f105 Try.prog h) :=
  (evC_call 105 Try.f105 c105_0 Try.func105 (by kernel_rfl) #[x0] h).trans (by kernel_rfl)
theorem ret105 (x0 x1 x2 x3 x4 x5 x6 x7 x8 x9 x10 x11 x12 x13 x14 x15 x16 : Value) (h0 h : Heap) : retK Try.f105 Try.prog h0 .ret ⟨#[x0, x1, x2, x3, x4, x5, x6, x7, x8, x9, x10, x11, x12, x13, x14, x15, x16], h⟩ = fin h0 (some x2) h := by kernel_rfl
theorem retn105 (x0 x1 x2 x3 x4 x5 x6 x7 x8 x9 x10 x11 x12 x13 x14 x15 x16 : Value) (h0 h : Heap) : retK Try.f105 Try.prog h0 .normal ⟨#[x0, x1, x2, x3, x4, x5, x6, x7, x8, x9, x10, x11, x12, x13, x14, x15, x16], h⟩ = fin h0 (some x2) h := by kernel_rfl
end Go.Am
namespace Go.Am
open Go.Proofs
set_option maxRecDepth 100000
noncomputable def c103_0 : Code := bodyC Try.f103 []
theorem c103_0_eq {β : Type} (x0 x1 x2 x3 x4 x5 x6 x7 x8 x9 x10 x11 x12 x13 x14 x15 x16 x17 x18 x19 x20 : Value) (h : Heap) (k : Ex → St → Option β) : codeK Try.prog (evC Try.prog) loopL c103_0 ⟨#[x0, x1, x2, x3, x4, x5, x6, x7, x8, x9, x10, x11, x12, x13, x14, x15, x16, x17, x18, x19, x20], h⟩ k =
(binV Try.prog .eql 46 (.tmp 6) (.const (Go.Value.int Go.IntKind.u64 18446744073709551615)) x0 (Go.Value.int Go.IntKind.u64 18446744073709551615)).bind fun t7_0 =>
cnd t7_0 (
obH (evC Try.prog 76 #[] h) fun t8_1 h2 =>
k .ret ⟨#[x0, x1, t8_1, (Go.Value.bool Bool.true), x4, x5, x0, t7_0, t8_1, x9, x10, x11, x12, x13, x14, x15, x16, x17, x18, x19, x20], h2⟩) (
(unV Try.prog .xor x0).bind fun t10_3 =>
(binV Try.prog .and 46 (.tmp 11) (.const (Go.Value.int Go.IntKind.u64 9223372036854775808)) x0 (Go.Value.int Go.IntKind.u64 9223372036854775808)).bind fun t12_4 =>
(binV Try.prog .neq 46 (.tmp 12) (.const (Go.Value.int Go.IntKind.u64 0)) t12_4 (Go.Value.int Go.IntKind.u64 0)).bind fun t13_5 =>
cnd t13_5 (
(binV Try.prog .andNot 46 (.tmp 14) (.const (Go.Value.int Go.IntKind.u64 9223372036854775808)) x0 (Go.Value.int Go.IntKind.u64 9223372036854775808)).bind fun t15_6 =>
obH (callV Try.prog (evC Try.prog) (.func (.func 108) #[] #[]) #[t15_6] h) fun t17_7 h8 =>
obH (evC Try.prog 125 #[t17_7] h8) fun t19_9 h10 =>
cnd t19_9 (
k .ret ⟨#[x0, x1, (Go.Value.float Go.FloatKind.f64 0), (Go.Value.bool Bool.false), t15_6, t17_7, x0, t7_0, x8, x0, t10_3, x0, t12_4, t13_5, x0, t15_6, t15_6, t17_7, t17_7, t19_9, x20], h10⟩) (
k .ret ⟨#[x0, x1, t17_7, (Go.Value.bool Bool.true), t15_6, t17_7, x0, t7_0, x8, x0, t10_3, x0, t12_4, t13_5, x0, t15_6, t15_6, t17_7, t17_7, t19_9, t17_7], h10⟩)) (
obH (callV Try.prog (evC Try.prog) (.func (.func 108) #[] #[]) #[t10_3] h) fun t17_11 h12 =>
obH (evC Try.prog 125 #[t17_11] h12) fun t19_13 h14 =>
cnd t19_13 (
k .ret ⟨#[x0, x1, (Go.Value.float Go.FloatKind.f64 0), (Go.Value.bool Bool.false), t10_3, t17_11, x0, t7_0, x8, x0, t10_3, x0, t12_4, t13_5, x14, x15, t10_3, t17_11, t17_11, t19_13, x20], h14⟩) (
k .ret ⟨#[x0, x1, t17_11, (Go.Value.bool Bool.true), t10_3, t17_11, x0, t7_0, x8, x0, t10_3, x0, t12_4, t13_5, x14, x15, t10_3, t17_11, t17_11, t19_13, t17_11], h14⟩))) := by kernel_rfl
theorem call103 (x0 : Value) (h : Heap) : evC Try.prog 103 #[x0] h = codeK Try.prog (evC Try.prog) loopL c103_0 ⟨#[x0, undef, undef, undef, undef, undef, undef, undef, undef, undef, undef, undef, undef, undef, undef, undef, undef, undef, undef, undef, undef], nm h⟩ (retK Try.f103 Try.prog h) :=
  (evC_call 103 Try.f103 c103_0 Try.func103 (by kernel_rfl) #[x0] h).trans (by kernel_rfl)
theorem ret103 (x0 x1 x2 x3 x4 x5 x6 x7 x8 x9 x10 x11 x12 x13 x14 x15 x16 x17 x18 x19 x20 : Value) (h0 h : Heap) : retK Try.f103 Try.prog h0 .ret ⟨#[x0, x1, x2, x3, x4, x5, x6, x7, x8, x9, x10, x11, x12, x13, x14, x15, x16, x17, x18, x19, x20], h⟩ = fin h0 (some (.tuple #[x2, x3])) h := by kernel_rfl
theorem retn103 (x0 x1 x2 x3 x4 x5 x6 x7 x8 x9 x10 x11 x12 x13 x14 x15 x16 x17 x18 x19 x20 : Value) (h0 h : Heap) : retK Try.f103 Try.prog h0 .normal ⟨#[x0, x1, x2, x3, x4, x5, x6, x7, x8, x9, x10, x11, x12, x13, x14, x15, x16, x17, x18, x19, x20], h⟩ = fin h0 (some (.tuple #[x2, x3])) h := by kernel_rfl
end Go.Am
namespace Go.Am
open Go.Proofs
set_option maxRecDepth 100000
noncomputable def c64_0 : Code := bodyC Try.f64 []
theorem c64_0_eq {β : Type} (x0 x1 x2 x3 x4 x5 x6 x7 x8 x9 x10 x11 x12 x13 x14 x15 x16 x17 x18 x19 x20 x21 x22 x23 x24 x25 x26 x27 x28 x29 x30 x31 x32 x33 x34 : Value) (h : Heap) (k : Ex → St → Option β) : codeK Try.prog (evC Try.prog) loopL c64_0 ⟨#[x0, x1, x2, x3, x4, x5, x6, x7, x8, x9, x10, x11, x12, x13, x14, x15, x16, x17, x18, x19, x20, x21, x22, x23, x24, x25, x26, x27, x28, x29, x30, x31, x32, x33, x34], h⟩ k =
obH (callV Try.prog (evC Try.prog) (.func (.func 109) #[] #[]) #[x0] h) fun t6_0 h1 =>
(binV Try.prog .shr 46 (.tmp 7) (.const (Go.Value.int Go.IntKind.u64 63)) t6_0 (Go.Value.int Go.IntKind.u64 63)).bind fun t8_2 =>
(binV Try.prog .eql 46 (.tmp 8) (.const (Go.Value.int Go.IntKind.u64 1)) t8_2 (Go.Value.int Go.IntKind.u64 1)).bind fun t9_3 =>
(binV Try.prog .and 46 (.tmp 10) (.const (Go.Value.int Go.IntKind.u64 9223372036854775807)) t6_0 (Go.Value.int Go.IntKind.u64 9223372036854775807)).bind fun t11_4 =>
(binV Try.prog .gtr 46 (.tmp 13) (.const (Go.Value.int Go.IntKind.u64 9218868437227405312)) t11_4 (Go.Value.int Go.IntKind.u64 9218868437227405312)).bind fun t14_5 =>
cnd t14_5 (
k .ret ⟨#[x0, x1, (Go.Value.int Go.IntKind.i64 0), t11_4, t9_3, x0, t6_0, t6_0, t8_2, t9_3, t6_0, t11_4, t14_5, t11_4, t14_5, x15, x16, x17, x18, x19, x20, x21, x22, x23, x24, x25, x26, x27, x28, x29, x30, x31, x32, x33, x34], h1⟩) (
(binV Try.prog .eql 46 (.tmp 16) (.const (Go.Value.int Go.IntKind.u64 9218868437227405312)) t11_4 (Go.Value.int Go.IntKind.u64 9218868437227405312)).bind fun t17_6 =>
(pickV t17_6 (gdV (wt t17_6 true) t9_3) (Go.Value.bool Bool.false)).bind fun t20_7 =>
cnd t20_7 (
k .ret ⟨#[x0, x1, (Go.Value.int Go.IntKind.i64 1), t11_4, t9_3, x0, t6_0, t6_0, t8_2, t9_3, t6_0, t11_4, t14_5, t11_4, t14_5, t20_7, t11_4, t17_6, t17_6, (gdV (wt t17_6 true) t9_3), t20_7, x21, x22, x23, x24, x25, x26, x27, x28, x29, x30, x31, x32, x33, x34], h1⟩) (
(binV Try.prog .eql 46 (.tmp 22) (.const (Go.Value.int Go.IntKind.u64 9218868437227405312)) t11_4 (Go.Value.int Go.IntKind.u64 9218868437227405312)).bind fun t23_8 =>
cnd t23_8 (
k .ret ⟨#[x0, x1, (Go.Value.int Go.IntKind.i64 6), t11_4, t9_3, x0, t6_0, t6_0, t8_2, t9_3, t6_0, t11_4, t14_5, t11_4, t14_5, t20_7, t11_4, t17_6, t17_6, (gdV (wt t17_6 true) t9_3), t20_7, t23_8, t11_4, t23_8, x24, x25, x26, x27, x28, x29, x30, x31, x32, x33, x34], h1⟩) (
(binV Try.prog .eql 46 (.tmp 25) (.const (Go.Value.int Go.IntKind.u64 0)) t11_4 (Go.Value.int Go.IntKind.u64 0)).bind fun t26_9 =>
(pickV t26_9 (gdV (wt t26_9 true) t9_3) (Go.Value.bool Bool.false)).bind fun t29_10 =>
cnd t29_10 (
k .ret ⟨#[x0, x1, (Go.Value.int Go.IntKind.i64 3), t11_4, t9_3, x0, t6_0, t6_0, t8_2, t9_3, t6_0, t11_4, t14_5, t11_4, t14_5, t20_7, t11_4, t17_6, t17_6, (gdV (wt t17_6 true) t9_3), t20_7, t23_8, t11_4, t23_8, t29_10, t11_4, t26_9, t26_9, (gdV (wt t26_9 true) t9_3), t29_10, x30, x31, x32, x33, x34], h1⟩) (
(binV Try.prog .eql 46 (.tmp 31) (.const (Go.Value.int Go.IntKind.u64 0)) t11_4 (Go.Value.int Go.IntKind.u64 0)).bind fun t32_11 =>
cnd t32_11 (
k .ret ⟨#[x0, x1, (Go.Value.int Go.IntKind.i64 4), t11_4, t9_3, x0, t6_0, t6_0, t8_2, t9_3, t6_0, t11_4, t14_5, t11_4, t14_5, t20_7, t11_4, t17_6, t17_6, (gdV (wt t17_6 true) t9_3), t20_7, t23_8, t11_4, t23_8, t29_10, t11_4, t26_9, t26_9, (gdV (wt t26_9 true) t9_3), t29_10, t32_11, t11_4, t32_11, x33, x34], h1⟩) (
cnd t9_3 (
k .ret ⟨#[x0, x1, (Go.Value.int Go.IntKind.i64 2), t11_4, t9_3, x0, t6_0, t6_0, t8_2, t9_3, t6_0, t11_4, t14_5, t11_4, t14_5, t20_7, t11_4, t17_6, t17_6, (gdV (wt t17_6 true) t9_3), t20_7, t23_8, t11_4, t23_8, t29_10, t11_4, t26_9, t26_9, (gdV (wt t26_9 true) t9_3), t29_10, t32_11, t11_4, t32_11, t9_3, t9_3], h1⟩) (
k .ret ⟨#[x0, x1, (Go.Value.int Go.IntKind.i64 5), t11_4, t9_3, x0, t6_0, t6_0, t8_2, t9_3, t6_0, t11_4, t14_5, t11_4, t14_5, t20_7, t11_4, t17_6, t17_6, (gdV (wt t17_6 true) t9_3), t20_7, t23_8, t11_4, t23_8, t29_10, t11_4, t26_9, t26_9, (gdV (wt t26_9 true) t9_3), t29_10, t32_11, t11_4, t32_11, t9_3, t9_3], h1⟩)))))) := by kernel_rfl
theorem call64 (x0 : Value) (h : Heap) : evC Try.prog 64 #[x0] h = codeK Try.prog (evC Try.prog) loopL c64_0 ⟨#[x0, undef, undef, undef, undef, undef, undef, undef, undef, undef, undef, undef, undef, undef, undef, undef, undef, undef, undef, undef, undef, undef, undef, undef, undef, undef, undef, undef, undef, undef, undef, undef, undef, undef, undef], nm h⟩ (retK Try.f64 Try.prog h) :=
  (evC_call 64 Try.f64 c64_0 Try.func64 (by kernel_rfl) #[x0] h).trans (by kernel_rfl)
theorem ret64 (x0 x1 x2 x3 x4 x5 x6 x7 x8 x9 x10 x11 x12 x13 x14 x15 x16 x17 x18 x19 x20 x21 x22 x23 x24 x25 x26 x27 x28 x29 x30 x31 x32 x33 x34 : Value) (h0 h : Heap) : retK Try.f64 Try.prog h0 .ret ⟨#[x0, x1, x2, x3, x4, x5, x6, x7, x8, x9, x10, x11, x12, x13, x14, x15, x16, x17, x18, x19, x20, x21, x22, x23, x24, x25, x26, x27, x28, x29, x30, x31, x32, x33, x34], h⟩ = fin h0 (some x2) h := by kernel_rfl
theorem retn64 (x0 x1 x2 x3 x4 x5 x6 x7 x8 x9 x10 x11 x12 x13 x14 x15 x16 x17 x18 x19 x20 x21 x22 x23 x24 x25 x26 x27 x28 x29 x30 x31 x32 x33 x34 : Value) (h0 h : Heap) : retK Try.f64 Try.prog h0 .normal ⟨#[x0, x1, x2, x3, x4, x5, x6, x7, x8, x9, x10, x11, x12, x13, x14, x15, x16, x17, x18, x19, x20, x21, x22, x23, x24, x25, x26, x27, x28, x29, x30, x31, x32, x33, x34], h⟩ = fin h0 (some x2) h := by kernel_rfl
end Go.Am
namespace Go.Am
open Go.Proofs
set_option maxRecDepth 100000
noncomputable def c107_0 : Code := bodyC Try.f107 []
theorem c107_0_eq {β : Type} (x0 x1 x2 x3 x4 x5 x6 x7 x8 x9 x10 x11 x12 x13 x14 x15 : Value) (h : Heap) (k : Ex → St → Option β) : codeK Try.prog (evC Try.prog) loopL c107_0 ⟨#[x0, x1, x2, x3, x4, x5, x6, x7, x8, x9, x10, x11, x12, x13, x14, x15], h⟩ k =
obH (evC Try.prog 64 #[x0] h) fun t5_0 h1 =>
(binV Try.prog .eql 3 (.tmp 5) (.const (Go.Value.int Go.IntKind.i64 0)) t5_0 (Go.Value.int Go.IntKind.i64 0)).bind fun t6_2 =>
cnd t6_2 (
k .ret ⟨#[x0, x1, (Go.Value.int Go.IntKind.u64 18446744073709551615), x3, x0, t5_0, t6_2, x7, x8, x9, x10, x11, x12, x13, x14, x15], h1⟩) (
obH (callV Try.prog (evC Try.prog) (.func (.func 109) #[] #[]) #[x0] h1) fun t8_3 h4 =>
(binV Try.prog .shr 46 (.tmp 9) (.const (Go.Value.int Go.IntKind.u64 63)) t8_3 (Go.Value.int Go.IntKind.u64 63)).bind fun t10_5 =>
(binV Try.prog .eql 46 (.tmp 10) (.const (Go.Value.int Go.IntKind.u64 0)) t10_5 (Go.Value.int Go.IntKind.u64 0)).bind fun t11_6 =>
cnd t11_6 (
(binV Try.prog .or 46 (.tmp 12) (.const (Go.Value.int Go.IntKind.u64 9223372036854775808)) t8_3 (Go.Value.int Go.IntKind.u64 9223372036854775808)).bind fun t13_7 =>
k .ret ⟨#[x0, x1, t13_7, t8_3, x0, t5_0, t6_2, x0, t8_3, t8_3, t10_5, t11_6, t8_3, t13_7, x14, x15], h4⟩) (
(unV Try.prog .xor t8_3).bind fun t15_8 =>
k .ret ⟨#[x0, x1, t15_8, t8_3, x0, t5_0, t6_2, x0, t8_3, t8_3, t10_5, t11_6, x12, x13, t8_3, t15_8], h4⟩)) := by kernel_rfl
theorem call107 (x0 : Value) (h : Heap) : evC Try.prog 107 #[x0] h = codeK Try.prog (evC Try.prog) loopL c107_0 ⟨#[x0, undef, undef, undef, undef, undef, undef, undef, undef, undef, undef, undef, undef, undef, undef, undef], nm h⟩ (retK Try.f107 Try.prog h) :=
  (evC_call 107 Try.f107 c107_0 Try.func107 (by kernel_rfl) #[x0] h).trans (by kernel_rfl)
theorem ret107 (x0 x1 x2 x3 x4 x5 x6 x7 x8 x9 x10 x11 x12 x13 x14 x15 : Value) (h0 h : Heap) : retK Try.f107 Try.prog h0 .ret ⟨#[x0, x1, x2, x3, x4, x5, x6, x7, x8, x9, x10, x11, x12, x13, x14, x15], h⟩ = fin h0 (some x2) h := by kernel_rfl
theorem retn107 (x0 x1 x2 x3 x4 x5 x6 x7 x8 x9 x10 x11 x12 x13 x14 x15 : Value) (h0 h : Heap) : retK Try.f107 Try.prog h0 .normal ⟨#[x0, x1, x2, x3, x4, x5, x6, x7, x8, x9, x10, x11, x12, x13, x14, x15], h⟩ = fin h0 (some x2) h := by kernel_rfl
end Go.Am
namespace Go.Am
open Go.Proofs
set_option maxRecDepth 100000
noncomputable def c104_0 : Code := bodyC Try.f104 []
theorem c104_0_eq {β : Type} (x0 x1 x2 x3 x4 x5 x6 x7 x8 x9 x10 x11 x12 x13 x14 x15 x16 x17 x18 x19 x20 x21 : Value) (h : Heap) (k : Ex → St → Option β) : codeK Try.prog (evC Try.prog) loopL c104_0 ⟨#[x0, x1, x2, x3, x4, x5, x6, x7, x8, x9, x10, x11, x12, x13, x14, x15, x16, x17, x18, x19, x20, x21], h⟩ k =
(binV Try.prog .eql 46 (.tmp 6) (.const (Go.Value.int Go.IntKind.u64 18446744073709551615)) x0 (Go.Value.int Go.IntKind.u64 18446744073709551615)).bind fun t7_0 =>
cnd t7_0 (
obH (evC Try.prog 76 #[] h) fun t8_1 h2 =>
k .ret ⟨#[x0, x1, t8_1, (Go.Value.bool Bool.true), x4, x5, x0, t7_0, t8_1, x9, x10, x11, x12, x13, x14, x15, x16, x17, x18, x19, x20, x21], h2⟩) (
(unV Try.prog .xor x0).bind fun t10_3 =>
(binV Try.prog .shr 46 (.tmp 11) (.const (Go.Value.int Go.IntKind.u64 63)) x0 (Go.Value.int Go.IntKind.u64 63)).bind fun t12_4 =>
(binV Try.prog .eql 46 (.tmp 12) (.const (Go.Value.int Go.IntKind.u64 1)) t12_4 (Go.Value.int Go.IntKind.u64 1)).bind fun t13_5 =>
cnd t13_5 (
(binV Try.prog .and 46 (.tmp 14) (.const (Go.Value.int Go.IntKind.u64 9223372036854775807)) x0 (Go.Value.int Go.IntKind.u64 9223372036854775807)).bind fun t15_6 =>
obH (callV Try.prog (evC Try.prog) (.func (.func 108) #[] #[]) #[t15_6] h) fun t17_7 h8 =>
obH (evC Try.prog 64 #[t17_7] h8) fun t19_9 h10 =>
(binV Try.prog .eql 3 (.tmp 19) (.const (Go.Value.int Go.IntKind.i64 0)) t19_9 (Go.Value.int Go.IntKind.i64 0)).bind fun t20_11 =>
cnd t20_11 (
k .ret ⟨#[x0, x1, (Go.Value.float Go.FloatKind.f64 0), (Go.Value.bool Bool.false), t15_6, t17_7, x0, t7_0, x8, x0, t10_3, x0, t12_4, t13_5, x0, t15_6, t15_6, t17_7, t17_7, t19_9, t20_11, x21], h10⟩) (
k .ret ⟨#[x0, x1, t17_7, (Go.Value.bool Bool.true), t15_6, t17_7, x0, t7_0, x8, x0, t10_3, x0, t12_4, t13_5, x0, t15_6, t15_6, t17_7, t17_7, t19_9, t20_11, t17_7], h10⟩)) (
obH (callV Try.prog (evC Try.prog) (.func (.func 108) #[] #[]) #[t10_3] h) fun t17_12 h13 =>
obH (evC Try.prog 64 #[t17_12] h13) fun t19_14 h15 =>
(binV Try.prog .eql 3 (.tmp 19) (.const (Go.Value.int Go.IntKind.i64 0)) t19_14 (Go.Value.int Go.IntKind.i64 0)).bind fun t20_16 =>
cnd t20_16 (
k .ret ⟨#[x0, x1, (Go.Value.float Go.FloatKind.f64 0), (Go.Value.bool Bool.false), t10_3, t17_12, x0, t7_0, x8, x0, t10_3, x0, t12_4, t13_5, x14, x15, t10_3, t17_12, t17_12, t19_14, t20_16, x21], h15⟩) (
k .ret ⟨#[x0, x1, t17_12, (Go.Value.bool Bool.true), t10_3, t17_12, x0, t7_0, x8, x0, t10_3, x0, t12_4, t13_5, x14, x15, t10_3, t17_12, t17_12, t19_14, t20_16, t17_12], h15⟩))) := by kernel_rfl
theorem call104 (x0 : Value) (h : Heap) : evC Try.prog 104 #[x0] h = codeK Try.prog (evC Try.prog) loopL c104_0 ⟨#[x0, undef, undef, undef, undef, undef, undef, undef, undef, undef, undef, undef, undef, undef, undef, undef, undef, undef, undef, undef, undef, undef], nm h⟩ (retK Try.f104 Try.prog h) :=
  (evC_call 104 Try.f104 c104_0 Try.func104 (by kernel_rfl) #[x0] h).trans (by kernel_rfl)
theorem ret104 (x0 x1 x2 x3 x4 x5 x6 x7 x8 x9 x10 x11 x12 x13 x14 x15 x16 x17 x18 x19 x20 x21 : Value) (h0 h : Heap) : retK Try.f104 Try.prog h0 .ret ⟨#[x0, x1, x2, x3, x4, x5, x6, x7, x8, x9, x10, x11, x12, x13, x14, x15, x16, x17, x18, x19, x20, x21], h⟩ = fin h0 (some (.tuple #[x2, x3])) h := by kernel_rfl
theorem retn104 (x0 x1 x2 x3 x4 x5 x6 x7 x8 x9 x10 x11 x12 x13 x14 x15 x16 x17 x18 x19 x20 x21 : Value) (h0 h : Heap) : retK Try.f104 Try.prog h0 .normal ⟨#[x0, x1, x2, x3, x4, x5, x6, x7, x8, x9, x10, x11, x12, x13, x14, x15, x16, x17, x18, x19, x20, x21], h⟩ = fin h0 (some (.tuple #[x2, x3])) h := by kernel_rfl
end Go.Am
namespace Go.Am
open Go.Proofs
set_option maxRecDepth 100000
noncomputable def c51_0 : Code := bodyC Try.f51 []
theorem c51_0_eq {β : Type} (x0 x1 x2 x3 x4 x5 x6 x7 x8 : Value) (h : Heap) (k : Ex → St → Option β) : codeK Try.prog (evC Try.prog) loopL c51_0 ⟨#[x0, x1, x2, x3, x4, x5, x6, x7, x8], h⟩ k =
obH (evC Try.prog 101 #[x0, x1] h) fun t7_0 h1 =>
(binV Try.prog .eql 3 (.tmp 7) (.const (Go.Value.int Go.IntKind.i64 0)) t7_0 (Go.Value.int Go.IntKind.i64 0)).bind fun t8_2 =>
k .ret ⟨#[x0, x1, x2, x3, t8_2, x0, x1, t7_0, t8_2], h1⟩ := by kernel_rfl
theorem call51 (x0 x1 : Value) (h : Heap) : evC Try.prog 51 #[x0, x1] h = codeK Try.prog (evC Try.prog) loopL c51_0 ⟨#[x0, x1, undef, undef, undef, undef, undef, undef, undef], nm h⟩ (retK Try.f51 Try.prog h) :=
  (evC_call 51 Try.f51 c51_0 Try.func51 (by kernel_rfl) #[x0, x1] h).trans (by kernel_rfl)
theorem ret51 (x0 x1 x2 x3 x4 x5 x6 x7 x8 : Value) (h0 h : Heap) : retK Try.f51 Try.prog h0 .ret ⟨#[x0, x1, x2, x3, x4, x5, x6, x7, x8], h⟩ = fin h0 (some x4) h := by kernel_rfl
theorem retn51 (x0 x1 x2 x3 x4 x5 x6 x7 x8 : Value) (h0 h : Heap) : retK Try.f51 Try.prog h0 .normal ⟨#[x0, x1, x2, x3, x4, x5, x6, x7, x8], h⟩ = fin h0 (some x4) h := by kernel_rfl
end Go.Am
namespace Go.Am
open Go.Proofs
set_option maxRecDepth 100000
noncomputable def c101_0 : Code := bodyC Try.f101 []
theorem c101_0_eq {β : Type} (x0 x1 x2 x3 x4 x5 x6 x7 x8 x9 x10 x11 x12 x13 x14 x15 x16 x17 x18 : Value) (h : Heap) (k : Ex → St → Option β) : codeK Try.prog (evC Try.prog) loopL c101_0 ⟨#[x0, x1, x2, x3, x4, x5, x6, x7, x8, x9, x10, x11, x12, x13, x14, x15, x16, x17, x18], h⟩ k =
obH (evC Try.prog 107 #[x0] h) fun t8_0 h1 =>
obH (evC Try.prog 107 #[x1] h1) fun t10_2 h3 =>
(binV Try.prog .lss 46 (.tmp 12) (.tmp 13) t8_0 t10_2).bind fun t14_4 =>
cnd t14_4 (
k .ret ⟨#[x0, x1, x2, x3, (Go.Value.int Go.IntKind.i64 (-1)), t8_0, t10_2, x0, t8_0, x1, t10_2, t14_4, t8_0, t10_2, t14_4, x15, x16, x17, x18], h3⟩) (
(binV Try.prog .gtr 46 (.tmp 16) (.tmp 17) t8_0 t10_2).bind fun t18_5 =>
cnd t18_5 (
k .ret ⟨#[x0, x1, x2, x3, (Go.Value.int Go.IntKind.i64 1), t8_0, t10_2, x0, t8_0, x1, t10_2, t14_4, t8_0, t10_2, t14_4, t18_5, t8_0, t10_2, t18_5], h3⟩) (
k .ret ⟨#[x0, x1, x2, x3, (Go.Value.int Go.IntKind.i64 0), t8_0, t10_2, x0, t8_0, x1, t10_2, t14_4, t8_0, t10_2, t14_4, t18_5, t8_0, t10_2, t18_5], h3⟩)) := by kernel_rfl
theorem call101 (x0 x1 : Value) (h : Heap) : evC Try.prog 101 #[x0, x1] h = codeK Try.prog (evC Try.prog) loopL c101_0 ⟨#[x0, x1, undef, undef, undef, undef, undef, undef, undef, undef, undef, undef, undef, undef, undef, undef, undef, undef, undef], nm h⟩ (retK Try.f101 Try.prog h) :=
  (evC_call 101 Try.f101 c101_0 Try.func101 (by kernel_rfl) #[x0, x1] h).trans (by kernel_rfl)
theorem ret101 (x0 x1 x2 x3 x4 x5 x6 x7 x8 x9 x10 x11 x12 x13 x14 x15 x16 x17 x18 : Value) (h0 h : Heap) : retK Try.f101 Try.prog h0 .ret ⟨#[x0, x1, x2, x3, x4, x5, x6, x7, x8, x9, x10, x11, x12, x13, x14, x15, x16, x17, x18], h⟩ = fin h0 (some x4) h := by kernel_rfl
theorem retn101 (x0 x1 x2 x3 x4 x5 x6 x7 x8 x9 x10 x11 x12 x13 x14 x15 x16 x17 x18 : Value) (h0 h : Heap) : retK Try.f101 Try.prog h0 .normal ⟨#[x0, x1, x2, x3, x4, x5, x6, x7, x8, x9, x10, x11, x12, x13, x14, x15, x16, x17, x18], h⟩ = fin h0 (some x4) h := by kernel_rfl
end Go.Am
namespace Go.Am
open Go.Proofs
set_option maxRecDepth 100000
noncomputable def c125_0 : Code := bodyC Try.f125 []
theorem c125_0_eq {β : Type} (x0 x1 x2 x3 x4 x5 : Value) (h : Heap) (k : Ex → St → Option β) : codeK Try.prog (evC Try.prog) loopL c125_0 ⟨#[x0, x1, x2, x3, x4, x5], h⟩ k =
(binV Try.prog .neq 84 (.tmp 3) (.tmp 4) x0 x0).bind fun t5_0 =>
k .ret ⟨#[x0, x1, t5_0, x0, x0, t5_0], h⟩ := by kernel_rfl
theorem call125 (x0 : Value) (h : Heap) : evC Try.prog 125 #[x0] h = codeK Try.prog (evC Try.prog) loopL c125_0 ⟨#[x0, undef, undef, undef, undef, undef], nm h⟩ (retK Try.f125 Try.prog h) :=
  (evC_call 125 Try.f125 c125_0 Try.func125 (by kernel_rfl) #[x0] h).trans (by kernel_rfl)
theorem ret125 (x0 x1 x2 x3 x4 x5 : Value) (h0 h : Heap) : retK Try.f125 Try.prog h0 .ret ⟨#[x0, x1, x2, x3, x4, x5], h⟩ = fin h0 (some x2) h := by kernel_rfl
theorem retn125 (x0 x1 x2 x3 x4 x5 : Value) (h0 h : Heap) : retK Try.f125 Try.prog h0 .normal ⟨#[x0, x1, x2, x3, x4, x5], h⟩ = fin h0 (some x2) h := by kernel_rfl
end Go.Am
namespace Go.Am
open Go.Proofs
set_option maxRecDepth 100000
noncomputable def c76_0 : Code := bodyC Try.f76 []
theorem c76_0_eq {β : Type} (x0 x1 : Value) (h : Heap) (k : Ex → St → Option β) : codeK Try.prog (evC Try.prog) loopL c76_0 ⟨#[x0, x1], h⟩ k =
obH (callV Try.prog (evC Try.prog) (.func (.func 108) #[] #[]) #[(Go.Value.int Go.IntKind.u64 9221120237041090561)] h) fun t1_0 h1 =>
k .ret ⟨#[t1_0, t1_0], h1⟩ := by kernel_rfl
theorem call76 (h : Heap) : evC Try.prog 76 #[] h = codeK Try.prog (evC Try.prog) loopL c76_0 ⟨#[undef, undef], nm h⟩ (retK Try.f76 Try.prog h) :=
  (evC_call 76 Try.f76 c76_0 Try.func76 (by kernel_rfl) #[] h).trans (by kernel_rfl)
theorem ret76 (x0 x1 : Value) (h0 h : Heap) : retK Try.f76 Try.prog h0 .ret ⟨#[x0, x1], h⟩ = fin h0 (some x0) h := by kernel_rfl
theorem retn76 (x0 x1 : Value) (h0 h : Heap) : retK Try.f76 Try.prog h0 .normal ⟨#[x0, x1], h⟩ = fin h0 (some x0) h := by kernel_rfl
end Go.Am
namespace Go.Am
open Go.Proofs
set_option maxRecDepth 100000
noncomputable def c42_0 : Code := bodyC Try.f42 []
theorem c42_0_eq {β : Type} (x0 x1 x2 : Value) (h : Heap) (k : Ex → St → Option β) : codeK Try.prog (evC Try.prog) loopL c42_0 ⟨#[x0, x1, x2], h⟩ k =
(buildV Try.prog 146 #[]).bind fun t1_0 =>
obH (boxV Try.prog 146 t1_0 h) fun t2_1 h2 =>
k .ret ⟨#[t2_1, t1_0, t2_1], h2⟩ := by kernel_rfl
theorem call42 (h : Heap) : evC Try.prog 42 #[] h = codeK Try.prog (evC Try.prog) loopL c42_0 ⟨#[undef, undef, undef], nm h⟩ (retK Try.f42 Try.prog h) :=
  (evC_call 42 Try.f42 c42_0 Try.func42 (by kernel_rfl) #[] h).trans (by kernel_rfl)
theorem ret42 (x0 x1 x2 : Value) (h0 h : Heap) : retK Try.f42 Try.prog h0 .ret ⟨#[x0, x1, x2], h⟩ = fin h0 (some x0) h := by kernel_rfl
theorem retn42 (x0 x1 x2 : Value) (h0 h : Heap) : retK Try.f42 Try.prog h0 .normal ⟨#[x0, x1, x2], h⟩ = fin h0 (some x0) h := by kernel_rfl
end Go.Am
namespace Go.Am
open Go.Proofs
set_option maxRecDepth 100000
noncomputable def c43_0 : Code := bodyC Try.f43 []
theorem c43_0_eq {β : Type} (x0 x1 x2 x3 x4 x5 x6 x7 x8 x9 x10 x11 x12 : Value) (h : Heap) (k : Ex → St → Option β) : codeK Try.prog (evC Try.prog) loopL c43_0 ⟨#[x0, x1, x2, x3, x4, x5, x6, x7, x8, x9, x10, x11, x12], h⟩ k =
(nilCheckV x0).bind fun t6_0 =>
(fieldAddrV Try.prog 146 t6_0 0).bind fun t7_1 =>
(loadV Try.prog 23 t7_1 h).bind fun t8_2 =>
obH (evC Try.prog 94 #[t8_2, x1] h) fun t10_3 h4 =>
(nilCheckV x0).bind fun t11_5 =>
(fieldAddrV Try.prog 146 t11_5 0).bind fun t12_6 =>
(storeV Try.prog 23 t12_6 t10_3 h4).bind fun h7 =>
k .normal ⟨#[x0, x1, x2, x3, x0, x0, t6_0, t7_1, t8_2, x1, t10_3, t11_5, t12_6], h7⟩ := by kernel_rfl
theorem call43 (x0 x1 : Value) (h : Heap) : evC Try.prog 43 #[x0, x1] h = codeK Try.prog (evC Try.prog) loopL c43_0 ⟨#[x0, x1, undef, undef, undef, undef, undef, undef, undef, undef, undef, undef, undef], nm h⟩ (retK Try.f43 Try.prog h) :=
  (evC_call 43 Try.f43 c43_0 Try.func43 (by kernel_rfl) #[x0, x1] h).trans (by kernel_rfl)
theorem ret43 (x0 x1 x2 x3 x4 x5 x6 x7 x8 x9 x10 x11 x12 : Value) (h0 h : Heap) : retK Try.f43 Try.prog h0 .ret ⟨#[x0, x1, x2, x3, x4, x5, x6, x7, x8, x9, x10, x11, x12], h⟩ = fin h0 (some (.tuple #[])) h := by kernel_rfl
theorem retn43 (x0 x1 x2 x3 x4 x5 x6 x7 x8 x9 x10 x11 x12 : Value) (h0 h : Heap) : retK Try.f43 Try.prog h0 .normal ⟨#[x0, x1, x2, x3, x4, x5, x6, x7, x8, x9, x10, x11, x12], h⟩ = fin h0 (some (.tuple #[])) h := by kernel_rfl
end Go.Am
namespace Go.Am
open Go.Proofs
set_option maxRecDepth 100000
noncomputable def c61_0 : Code := bodyC Try.f61 []
theorem c61_0_eq {β : Type} (x0 x1 x2 x3 x4 x5 x6 x7 x8 x9 x10 x11 x12 x13 x14 x15 x16 x17 : Value) (h : Heap) (k : Ex → St → Option β) : codeK Try.prog (evC Try.prog) loopL c61_0 ⟨#[x0, x1, x2, x3, x4, x5, x6, x7, x8, x9, x10, x11, x12, x13, x14, x15, x16, x17], h⟩ k =
(lenV Try.prog 23 x1 h).bind fun t6_0 =>
obH (convV Try.prog 3 46 t6_0 h) fun t7_1 h2 =>
obH (evC Try.prog 43 #[x0, t7_1] h2) fun t8_3 h4 =>
(nilCheckV x0).bind fun t11_5 =>
(fieldAddrV Try.prog 146 t11_5 0).bind fun t12_6 =>
(loadV Try.prog 23 t12_6 h4).bind fun t13_7 =>
obH (appendV Try.prog 23 (some 23) t13_7 x1 h4) fun t15_8 h9 =>
(nilCheckV x0).bind fun t16_10 =>
(fieldAddrV Try.prog 146 t16_10 0).bind fun t17_11 =>
(storeV Try.prog 23 t17_11 t15_8 h9).bind fun h12 =>
k .normal ⟨#[x0, x1, x2, x3, x0, x1, t6_0, t7_1, t8_3, x0, x0, t11_5, t12_6, t13_7, x1, t15_8, t16_10, t17_11], h12⟩ := by kernel_rfl
theorem call61 (x0 x1 : Value) (h : Heap) : evC Try.prog 61 #[x0, x1] h = codeK Try.prog (evC Try.prog) loopL c61_0 ⟨#[x0, x1, undef, undef, undef, undef, undef, undef, undef, undef, undef, undef, undef, undef, undef, undef, undef, undef], nm h⟩ (retK Try.f61 Try.prog h) :=
  (evC_call 61 Try.f61 c61_0 Try.func61 (by kernel_rfl) #[x0, x1] h).trans (by kernel_rfl)
theorem ret61 (x0 x1 x2 x3 x4 x5 x6 x7 x8 x9 x10 x11 x12 x13 x14 x15 x16 x17 : Value) (h0 h : Heap) : retK Try.f61 Try.prog h0 .ret ⟨#[x0, x1, x2, x3, x4, x5, x6, x7, x8, x9, x10, x11, x12, x13, x14, x15, x16, x17], h⟩ = fin h0 (some (.tuple #[])) h := by kernel_rfl
theorem retn61 (x0 x1 x2 x3 x4 x5 x6 x7 x8 x9 x10 x11 x12 x13 x14 x15 x16 x17 : Value) (h0 h : Heap) : retK Try.f61 Try.prog h0 .normal ⟨#[x0, x1, x2, x3, x4, x5, x6, x7, x8, x9, x10, x11, x12, x13, x14, x15, x16, x17], h⟩ = fin h0 (some (.tuple #[])) h := by kernel_rfl
end Go.Am
namespace Go.Am
open Go.Proofs
set_option maxRecDepth 100000
noncomputable def c44_0 : Code := bodyC Try.f44 []
theorem c44_0_eq {β : Type} (x0 x1 x2 x3 x4 x5 x6 x7 : Value) (h : Heap) (k : Ex → St → Option β) : codeK Try.prog (evC Try.prog) loopL c44_0 ⟨#[x0, x1, x2, x3, x4, x5, x6, x7], h⟩ k =
(nilCheckV x0).bind fun t4_0 =>
(fieldAddrV Try.prog 146 t4_0 0).bind fun t5_1 =>
(loadV Try.prog 23 t5_1 h).bind fun t6_2 =>
obH (evC Try.prog 95 #[t6_2] h) fun t7_3 h4 =>
k .ret ⟨#[x0, x1, t7_3, x0, t4_0, t5_1, t6_2, t7_3], h4⟩ := by kernel_rfl
theorem call44 (x0 : Value) (h : Heap) : evC Try.prog 44 #[x0] h = codeK Try.prog (evC Try.prog) loopL c44_0 ⟨#[x0, undef, undef, undef, undef, undef, undef, undef], nm h⟩ (retK Try.f44 Try.prog h) :=
  (evC_call 44 Try.f44 c44_0 Try.func44 (by kernel_rfl) #[x0] h).trans (by kernel_rfl)
theorem ret44 (x0 x1 x2 x3 x4 x5 x6 x7 : Value) (h0 h : Heap) : retK Try.f44 Try.prog h0 .ret ⟨#[x0, x1, x2, x3, x4, x5, x6, x7], h⟩ = fin h0 (some x2) h := by kernel_rfl
theorem retn44 (x0 x1 x2 x3 x4 x5 x6 x7 : Value) (h0 h : Heap) : retK Try.f44 Try.prog h0 .normal ⟨#[x0, x1, x2, x3, x4, x5, x6, x7], h⟩ = fin h0 (some x2) h := by kernel_rfl
end Go.Am
namespace Go.Am
open Go.Proofs
set_option maxRecDepth 100000
noncomputable def c45_0 : Code := bodyC Try.f45 []
theorem c45_0_eq {β : Type} (x0 x1 x2 x3 x4 x5 x6 : Value) (h : Heap) (k : Ex → St → Option β) : codeK Try.prog (evC Try.prog) loopL c45_0 ⟨#[x0, x1, x2, x3, x4, x5, x6], h⟩ k =
obH (evC Try.prog 95 #[x0] h) fun t4_0 h1 =>
(buildV Try.prog 150 #[(0, t4_0)]).bind fun t5_2 =>
obH (boxV Try.prog 150 t5_2 h1) fun t6_3 h4 =>
k .ret ⟨#[x0, x1, t6_3, x0, t4_0, t5_2, t6_3], h4⟩ := by kernel_rfl
theorem call45 (x0 : Value) (h : Heap) : evC Try.prog 45 #[x0] h = codeK Try.prog (evC Try.prog) loopL c45_0 ⟨#[x0, undef, undef, undef, undef, undef, undef], nm h⟩ (retK Try.f45 Try.prog h) :=
  (evC_call 45 Try.f45 c45_0 Try.func45 (by kernel_rfl) #[x0] h).trans (by kernel_rfl)
theorem ret45 (x0 x1 x2 x3 x4 x5 x6 : Value) (h0 h : Heap) : retK Try.f45 Try.prog h0 .ret ⟨#[x0, x1, x2, x3, x4, x5, x6], h⟩ = fin h0 (some x2) h := by kernel_rfl
theorem retn45 (x0 x1 x2 x3 x4 x5 x6 : Value) (h0 h : Heap) : retK Try.f45 Try.prog h0 .normal ⟨#[x0, x1, x2, x3, x4, x5, x6], h⟩ = fin h0 (some x2) h := by kernel_rfl
end Go.Am
namespace Go.Am
open Go.Proofs
set_option maxRecDepth 100000
noncomputable def c46_0 : Code := bodyC Try.f46 []
theorem c46_0_eq {β : Type} (x0 x1 x2 x3 x4 x5 x6 x7 x8 x9 x10 x11 x12 x13 x14 x15 x16 x17 x18 x19 x20 x21 x22 x23 x24 x25 x26 x27 x28 x29 x30 x31 x32 x33 : Value) (h : Heap) (k : Ex → St → Option β) : codeK Try.prog (evC Try.prog) loopL c46_0 ⟨#[x0, x1, x2, x3, x4, x5, x6, x7, x8, x9, x10, x11, x12, x13, x14, x15, x16, x17, x18, x19, x20, x21, x22, x23, x24, x25, x26, x27, x28, x29, x30, x31, x32, x33], h⟩ k =
(nilCheckV x0).bind fun t9_0 =>
(fieldAddrV Try.prog 150 t9_0 0).bind fun t10_1 =>
(loadV Try.prog 23 t10_1 h).bind fun t11_2 =>
obH (evC Try.prog 96 #[t11_2] h) fun t12_3 h4 =>
(extractV t12_3 0).bind fun t13_5 =>
(extractV t12_3 1).bind fun t14_6 =>
(binV Try.prog .eql 3 (.tmp 16) (.const (Go.Value.int Go.IntKind.i64 0)) t14_6 (Go.Value.int Go.IntKind.i64 0)).bind fun t17_7 =>
(gd (wt t17_7 false) (binV Try.prog .gtr 46 (.tmp 19) (.tmp 20) (gdV (wt t17_7 false) t13_5) (gdV (wt t17_7 false) x1))).bind fun t21_8 =>
(pickV t17_7 (Go.Value.bool Bool.true) t21_8).bind fun t22_9 =>
obH (evC Try.prog 97 #[x0, t22_9] h4) fun t23_10 h11 =>
cnd t23_10 (
k .ret ⟨#[x0, x1, x2, x3, (Go.Value.int Go.IntKind.u64 0), t13_5, t14_6, t12_3, x0, t9_0, t10_1, t11_2, t12_3, t13_5, t14_6, x0, t14_6, t17_7, t17_7, (gdV (wt t17_7 false) t13_5), (gdV (wt t17_7 false) x1), t21_8, t22_9, t23_10, x24, x25, x26, x27, x28, x29, x30, x31, x32, x33], h11⟩) (
(nilCheckV x0).bind fun t26_12 =>
(fieldAddrV Try.prog 150 t26_12 0).bind fun t27_13 =>
(loadV Try.prog 23 t27_13 h11).bind fun t28_14 =>
(sliceV Try.prog 23 t28_14 (some t14_6) none none h11).bind fun t30_15 =>
(nilCheckV x0).bind fun t31_16 =>
(fieldAddrV Try.prog 150 t31_16 0).bind fun t32_17 =>
(storeV Try.prog 23 t32_17 t30_15 h11).bind fun h18 =>
k .ret ⟨#[x0, x1, x2, x3, t13_5, t13_5, t14_6, t12_3, x0, t9_0, t10_1, t11_2, t12_3, t13_5, t14_6, x0, t14_6, t17_7, t17_7, (gdV (wt t17_7 false) t13_5), (gdV (wt t17_7 false) x1), t21_8, t22_9, t23_10, x0, x0, t26_12, t27_13, t28_14, t14_6, t30_15, t31_16, t32_17, t13_5], h18⟩) := by kernel_rfl
theorem call46 (x0 x1 : Value) (h : Heap) : evC Try.prog 46 #[x0, x1] h = codeK Try.prog (evC Try.prog) loopL c46_0 ⟨#[x0, x1, undef, undef, undef, undef, undef, undef, undef, undef, undef, undef, undef, undef, undef, undef, undef, undef, undef, undef, undef, undef, undef, undef, undef, undef, undef, undef, undef, undef, undef, undef, undef, undef], nm h⟩ (retK Try.f46 Try.prog h) :=
  (evC_call 46 Try.f46 c46_0 Try.func46 (by kernel_rfl) #[x0, x1] h).trans (by kernel_rfl)
theorem ret46 (x0 x1 x2 x3 x4 x5 x6 x7 x8 x9 x10 x11 x12 x13 x14 x15 x16 x17 x18 x19 x20 x21 x22 x23 x24 x25 x26 x27 x28 x29 x30 x31 x32 x33 : Value) (h0 h : Heap) : retK Try.f46 Try.prog h0 .ret ⟨#[x0, x1, x2, x3, x4, x5, x6, x7, x8, x9, x10, x11, x12, x13, x14, x15, x16, x17, x18, x19, x20, x21, x22, x23, x24, x25, x26, x27, x28, x29, x30, x31, x32, x33], h⟩ = fin h0 (some x4) h := by kernel_rfl
theorem retn46 (x0 x1 x2 x3 x4 x5 x6 x7 x8 x9 x10 x11 x12 x13 x14 x15 x16 x17 x18 x19 x20 x21 x22 x23 x24 x25 x26 x27 x28 x29 x30 x31 x32 x33 : Value) (h0 h : Heap) : retK Try.f46 Try.prog h0 .normal ⟨#[x0, x1, x2, x3, x4, x5, x6, x7, x8, x9, x10, x11, x12, x13, x14, x15, x16, x17, x18, x19, x20, x21, x22, x23, x24, x25, x26, x27, x28, x29, x30, x31, x32, x33], h⟩ = fin h0 (some x4) h := by kernel_rfl
end Go.Am
namespace Go.Am
open Go.Proofs
set_option maxRecDepth 100000
noncomputable def c54_0 : Code := bodyC Try.f54 []
theorem c54_0_eq {β : Type} (x0 x1 x2 x3 x4 x5 x6 x7 x8 x9 x10 x11 x12 x13 x14 : Value) (h : Heap) (k : Ex → St → Option β) : codeK Try.prog (evC Try.prog) loopL c54_0 ⟨#[x0, x1, x2, x3, x4, x5, x6, x7, x8, x9, x10, x11, x12, x13, x14], h⟩ k =
obH (builtinV Try.prog .max #[3, 3] #[x1, (Go.Value.int Go.IntKind.i64 0)] h) fun t8_0 h1 =>
obH (convV Try.prog 3 46 t8_0 h1) fun t9_2 h3 =>
obH (evC Try.prog 46 #[x0, t9_2] h3) fun t10_4 h5 =>
obH (evC Try.prog 102 #[x0, t10_4] h5) fun t13_6 h7 =>
obH (evC Try.prog 95 #[t13_6] h7) fun t14_8 h9 =>
k .ret ⟨#[x0, x1, x2, x3, t14_8, t10_4, x0, x1, t8_0, t9_2, t10_4, x0, t10_4, t13_6, t14_8], h9⟩ := by kernel_rfl
theorem call54 (x0 x1 : Value) (h : Heap) : evC Try.prog 54 #[x0, x1] h = codeK Try.prog (evC Try.prog) loopL c54_0 ⟨#[x0, x1, undef, undef, undef, undef, undef, undef, undef, undef, undef, undef, undef, undef, undef], nm h⟩ (retK Try.f54 Try.prog h) :=
  (evC_call 54 Try.f54 c54_0 Try.func54 (by kernel_rfl) #[x0, x1] h).trans (by kernel_rfl)
theorem ret54 (x0 x1 x2 x3 x4 x5 x6 x7 x8 x9 x10 x11 x12 x13 x14 : Value) (h0 h : Heap) : retK Try.f54 Try.prog h0 .ret ⟨#[x0, x1, x2, x3, x4, x5, x6, x7, x8, x9, x10, x11, x12, x13, x14], h⟩ = fin h0 (some x4) h := by kernel_rfl
theorem retn54 (x0 x1 x2 x3 x4 x5 x6 x7 x8 x9 x10 x11 x12 x13 x14 : Value) (h0 h : Heap) : retK Try.f54 Try.prog h0 .normal ⟨#[x0, x1, x2, x3, x4, x5, x6, x7, x8, x9, x10, x11, x12, x13, x14], h⟩ = fin h0 (some x4) h := by kernel_rfl
end Go.Am
namespace Go.Am
open Go.Proofs
set_option maxRecDepth 100000
noncomputable def c47_0 : Code := bodyC Try.f47 []
theorem c47_0_eq {β : Type} (x0 x1 x2 x3 x4 x5 x6 x7 x8 x9 x10 x11 x12 x13 x14 x15 : Value) (h : Heap) (k : Ex → St → Option β) : codeK Try.prog (evC Try.prog) loopL c47_0 ⟨#[x0, x1, x2, x3, x4, x5, x6, x7, x8, x9, x10, x11, x12, x13, x14, x15], h⟩ k =
(nilCheckV x0).bind fun t4_0 =>
(fieldAddrV Try.prog 150 t4_0 1).bind fun t5_1 =>
(loadV Try.prog 4 t5_1 h).bind fun t6_2 =>
(unV Try.prog .not t6_2).bind fun t7_3 =>
(gd (wt t7_3 true) (nilCheckV (gdV (wt t7_3 true) x0))).bind fun t10_4 =>
(gd (wt t7_3 true) (fieldAddrV Try.prog 150 t10_4 0)).bind fun t11_5 =>
(gd (wt t7_3 true) (loadV Try.prog 23 t11_5 h)).bind fun t12_6 =>
(gd (wt t7_3 true) (lenV Try.prog 23 t12_6 h)).bind fun t13_7 =>
(gd (wt t7_3 true) (binV Try.prog .eql 3 (.tmp 13) (.const (Go.Value.int Go.IntKind.i64 0)) t13_7 (Go.Value.int Go.IntKind.i64 0))).bind fun t14_8 =>
(pickV t7_3 t14_8 (Go.Value.bool Bool.false)).bind fun t15_9 =>
k .ret ⟨#[x0, x1, t15_9, x0, t4_0, t5_1, t6_2, t7_3, t7_3, (gdV (wt t7_3 true) x0), t10_4, t11_5, t12_6, t13_7, t14_8, t15_9], h⟩ := by kernel_rfl
theorem call47 (x0 : Value) (h : Heap) : evC Try.prog 47 #[x0] h = codeK Try.prog (evC Try.prog) loopL c47_0 ⟨#[x0, undef, undef, undef, undef, undef, undef, undef, undef, undef, undef, undef, undef, undef, undef, undef], nm h⟩ (retK Try.f47 Try.prog h) :=
  (evC_call 47 Try.f47 c47_0 Try.func47 (by kernel_rfl) #[x0] h).trans (by kernel_rfl)
theorem ret47 (x0 x1 x2 x3 x4 x5 x6 x7 x8 x9 x10 x11 x12 x13 x14 x15 : Value) (h0 h : Heap) : retK Try.f47 Try.prog h0 .ret ⟨#[x0, x1, x2, x3, x4, x5, x6, x7, x8, x9, x10, x11, x12, x13, x14, x15], h⟩ = fin h0 (some x2) h := by kernel_rfl
theorem retn47 (x0 x1 x2 x3 x4 x5 x6 x7 x8 x9 x10 x11 x12 x13 x14 x15 : Value) (h0 h : Heap) : retK Try.f47 Try.prog h0 .normal ⟨#[x0, x1, x2, x3, x4, x5, x6, x7, x8, x9, x10, x11, x12, x13, x14, x15], h⟩ = fin h0 (some x2) h := by kernel_rfl
end Go.Am
namespace Go.Am
open Go.Proofs
set_option maxRecDepth 100000
noncomputable def c97_0 : Code := bodyC Try.f97 []
noncomputable def c97_1 : Code := bodyC Try.f97 [true, true]
theorem c97_0_eq {β : Type} (x0 x1 x2 x3 x4 x5 x6 x7 x8 x9 x10 x11 x12 x13 x14 x15 : Value) (h : Heap) (k : Ex → St → Option β) : codeK Try.prog (evC Try.prog) loopL c97_0 ⟨#[x0, x1, x2, x3, x4, x5, x6, x7, x8, x9, x10, x11, x12, x13, x14, x15], h⟩ k =
cnd x1 (
(nilCheckV x0).bind fun t8_0 =>
(fieldAddrV Try.prog 150 t8_0 0).bind fun t9_1 =>
(storeV Try.prog 23 t9_1 (Go.Value.slice Option.none 0 0) h).bind fun h2 =>
(nilCheckV x0).bind fun t10_3 =>
(fieldAddrV Try.prog 150 t10_3 1).bind fun t11_4 =>
(storeV Try.prog 4 t11_4 (Go.Value.bool Bool.true) h2).bind fun h5 =>
codeK Try.prog (evC Try.prog) loopL c97_1 ⟨#[x0, x1, x2, x3, (Go.Value.bool Bool.false), x1, x0, x0, t8_0, t9_1, t10_3, t11_4, x12, x13, x14, x15], h5⟩ k) (
codeK Try.prog (evC Try.prog) loopL c97_1 ⟨#[x0, x1, x2, x3, (Go.Value.bool Bool.false), x1, x6, x7, x8, x9, x10, x11, x12, x13, x14, x15], h⟩ k) := by kernel_rfl
theorem c97_1_eq {β : Type} (x0 x1 x2 x3 x4 x5 x6 x7 x8 x9 x10 x11 x12 x13 x14 x15 : Value) (h : Heap) (k : Ex → St → Option β) : codeK Try.prog (evC Try.prog) loopL c97_1 ⟨#[x0, x1, x2, x3, x4, x5, x6, x7, x8, x9, x10, x11, x12, x13, x14, x15], h⟩ k =
(nilCheckV x0).bind fun t13_6 =>
(fieldAddrV Try.prog 150 t13_6 1).bind fun t14_7 =>
(loadV Try.prog 4 t14_7 h).bind fun t15_8 =>
k .ret ⟨#[x0, x1, x2, x3, t15_8, x5, x6, x7, x8, x9, x10, x11, x0, t13_6, t14_7, t15_8], h⟩ := by kernel_rfl
theorem call97 (x0 x1 : Value) (h : Heap) : evC Try.prog 97 #[x0, x1] h = codeK Try.prog (evC Try.prog) loopL c97_0 ⟨#[x0, x1, undef, undef, undef, undef, undef, undef, undef, undef, undef, undef, undef, undef, undef, undef], nm h⟩ (retK Try.f97 Try.prog h) :=
  (evC_call 97 Try.f97 c97_0 Try.func97 (by kernel_rfl) #[x0, x1] h).trans (by kernel_rfl)
theorem ret97 (x0 x1 x2 x3 x4 x5 x6 x7 x8 x9 x10 x11 x12 x13 x14 x15 : Value) (h0 h : Heap) : retK Try.f97 Try.prog h0 .ret ⟨#[x0, x1, x2, x3, x4, x5, x6, x7, x8, x9, x10, x11, x12, x13, x14, x15], h⟩ = fin h0 (some x4) h := by kernel_rfl
theorem retn97 (x0 x1 x2 x3 x4 x5 x6 x7 x8 x9 x10 x11 x12 x13 x14 x15 : Value) (h0 h : Heap) : retK Try.f97 Try.prog h0 .normal ⟨#[x0, x1, x2, x3, x4, x5, x6, x7, x8, x9, x10, x11, x12, x13, x14, x15], h⟩ = fin h0 (some x4) h := by kernel_rfl
end Go.Am
namespace Go.Am
open Go.Proofs
set_option maxRecDepth 100000
noncomputable def c102_0 : Code := bodyC Try.f102 []
theorem c102_0_eq {β : Type} (x0 x1 x2 x3 x4 x5 x6 x7 x8 x9 x10 x11 x12 x13 x14 x15 x16 x17 x18 x19 x20 x21 x22 x23 x24 x25 x26 x27 x28 x29 x30 x31 : Value) (h : Heap) (k : Ex → St → Option β) : codeK Try.prog (evC Try.prog) loopL c102_0 ⟨#[x0, x1, x2, x3, x4, x5, x6, x7, x8, x9, x10, x11, x12, x13, x14, x15, x16, x17, x18, x19, x20, x21, x22, x23, x24, x25, x26, x27, x28, x29, x30, x31], h⟩ k =
(nilCheckV x0).bind fun t9_0 =>
(fieldAddrV Try.prog 150 t9_0 0).bind fun t10_1 =>
(loadV Try.prog 23 t10_1 h).bind fun t11_2 =>
(lenV Try.prog 23 t11_2 h).bind fun t12_3 =>
obH (convV Try.prog 3 46 t12_3 h) fun t13_4 h5 =>
(binV Try.prog .gtr 46 (.tmp 7) (.tmp 13) x1 t13_4).bind fun t14_6 =>
obH (evC Try.prog 97 #[x0, t14_6] h5) fun t15_7 h8 =>
cnd t15_7 (
k .ret ⟨#[x0, x1, x2, x3, (Go.Value.slice Option.none 0 0), x5, x0, x1, x0, t9_0, t10_1, t11_2, t12_3, t13_4, t14_6, t15_7, x16, x17, x18, x19, x20, x21, x22, x23, x24, x25, x26, x27, x28, x29, x30, x31], h8⟩) (
(nilCheckV x0).bind fun t17_9 =>
(fieldAddrV Try.prog 150 t17_9 0).bind fun t18_10 =>
(loadV Try.prog 23 t18_10 h8).bind fun t19_11 =>
(sliceV Try.prog 23 t19_11 none (some x1) none h8).bind fun t21_12 =>
(nilCheckV x0).bind fun t24_13 =>
(fieldAddrV Try.prog 150 t24_13 0).bind fun t25_14 =>
(loadV Try.prog 23 t25_14 h8).bind fun t26_15 =>
(sliceV Try.prog 23 t26_15 (some x1) none none h8).bind fun t28_16 =>
(nilCheckV x0).bind fun t29_17 =>
(fieldAddrV Try.prog 150 t29_17 0).bind fun t30_18 =>
(storeV Try.prog 23 t30_18 t28_16 h8).bind fun h19 =>
k .ret ⟨#[x0, x1, x2, x3, t21_12, t21_12, x0, x1, x0, t9_0, t10_1, t11_2, t12_3, t13_4, t14_6, t15_7, x0, t17_9, t18_10, t19_11, x1, t21_12, x0, x0, t24_13, t25_14, t26_15, x1, t28_16, t29_17, t30_18, t21_12], h19⟩) := by kernel_rfl
theorem call102 (x0 x1 : Value) (h : Heap) : evC Try.prog 102 #[x0, x1] h = codeK Try.prog (evC Try.prog) loopL c102_0 ⟨#[x0, x1, undef, undef, undef, undef, undef, undef, undef, undef, undef, undef, undef, undef, undef, undef, undef, undef, undef, undef, undef, undef, undef, undef, undef, undef, undef, undef, undef, undef, undef, undef], nm h⟩ (retK Try.f102 Try.prog h) :=
  (evC_call 102 Try.f102 c102_0 Try.func102 (by kernel_rfl) #[x0, x1] h).trans (by kernel_rfl)
theorem ret102 (x0 x1 x2 x3 x4 x5 x6 x7 x8 x9 x10 x11 x12 x13 x14 x15 x16 x17 x18 x19 x20 x21 x22 x23 x24 x25 x26 x27 x28 x29 x30 x31 : Value) (h0 h : Heap) : retK Try.f102 Try.prog h0 .ret ⟨#[x0, x1, x2, x3, x4, x5, x6, x7, x8, x9, x10, x11, x12, x13, x14, x15, x16, x17, x18, x19, x20, x21, x22, x23, x24, x25, x26, x27, x28, x29, x30, x31], h⟩ = fin h0 (some x4) h := by kernel_rfl
theorem retn102 (x0 x1 x2 x3 x4 x5 x6 x7 x8 x9 x10 x11 x12 x13 x14 x15 x16 x17 x18 x19 x20 x21 x22 x23 x24 x25 x26 x27 x28 x29 x30 x31 : Value) (h0 h : Heap) : retK Try.f102 Try.prog h0 .normal ⟨#[x0, x1, x2, x3, x4, x5, x6, x7, x8, x9, x10, x11, x12, x13, x14, x15, x16, x17, x18, x19, x20, x21, x22, x23, x24, x25, x26, x27, x28, x29, x30, x31], h⟩ = fin h0 (some x4) h := by kernel_rfl
end Go.Am
namespace Go.Am
open Go.Proofs
set_option maxRecDepth 100000
noncomputable def c106_0 : Code := bodyC Try.f106 []
noncomputable def c106_1 : Code := bodyC Try.f106 [true, true, false, false, false]
noncomputable def c106_2 : Code := bodyC Try.f106 [true, true, true]
theorem c106_0_eq {β : Type} (x0 x1 x2 x3 x4 x5 x6 x7 x8 x9 x10 x11 x12 x13 x14 x15 x16 x17 x18 x19 x20 x21 x22 x23 : Value) (h : Heap) (k : Ex → St → Option β) : codeK Try.prog (evC Try.prog) loopL c106_0 ⟨#[x0, x1, x2, x3, x4, x5, x6, x7, x8, x9, x10, x11, x12, x13, x14, x15, x16, x17, x18, x19, x20, x21, x22, x23], h⟩ k =
obH (buildSliceV Try.prog 23 0 #[] h) fun t5_0 h1 =>
obH (appendV Try.prog 23 (some 23) t5_0 x0 h1) fun t7_2 h3 =>
loopK Try.prog (evC Try.prog) c106_1 ⟨#[t7_2, x1, x2, x3, (Go.Value.slice Option.none 0 0), t5_0, x0, t7_2, x8, x9, x10, x11, x12, x13, x14, x15, x16, x17, x18, x19, x20, x21, x22, x23], h3⟩ (blockK 0 (seqK Try.prog (evC Try.prog) c106_2 k)) := by kernel_rfl
theorem c106_1_eq {β : Type} (x0 x1 x2 x3 x4 x5 x6 x7 x8 x9 x10 x11 x12 x13 x14 x15 x16 x17 x18 x19 x20 x21 x22 x23 : Value) (h : Heap) (k : Ex → St → Option β) : codeK Try.prog (evC Try.prog) loopL c106_1 ⟨#[x0, x1, x2, x3, x4, x5, x6, x7, x8, x9, x10, x11, x12, x13, x14, x15, x16, x17, x18, x19, x20, x21, x22, x23], h⟩ k =
(binV Try.prog .geq 46 (.tmp 8) (.const (Go.Value.int Go.IntKind.u64 128)) x1 (Go.Value.int Go.IntKind.u64 128)).bind fun t9_4 =>
cnd t9_4 (
(binV Try.prog .rem 46 (.tmp 11) (.const (Go.Value.int Go.IntKind.u64 128)) x1 (Go.Value.int Go.IntKind.u64 128)).bind fun t12_5 =>
obH (convV Try.prog 46 5 t12_5 h) fun t13_6 h7 =>
(binV Try.prog .add 5 (.tmp 13) (.const (Go.Value.int Go.IntKind.u8 128)) t13_6 (Go.Value.int Go.IntKind.u8 128)).bind fun t14_8 =>
obH (buildSliceV Try.prog 23 1 #[(0, t14_8)] h7) fun t15_9 h10 =>
obH (appendV Try.prog 23 (some 23) x0 t15_9 h10) fun t16_11 h12 =>
(binV Try.prog .quo 46 (.tmp 17) (.const (Go.Value.int Go.IntKind.u64 128)) x1 (Go.Value.int Go.IntKind.u64 128)).bind fun t18_13 =>
k .normal ⟨#[t16_11, t18_13, x2, x3, x4, x5, x6, x7, x1, t9_4, x0, x1, t12_5, t13_6, t14_8, t15_9, t16_11, x1, t18_13, x19, x20, x21, x22, x23], h12⟩) (
k (.exit 0) ⟨#[x0, x1, x2, x3, x4, x5, x6, x7, x1, t9_4, x10, x11, x12, x13, x14, x15, x16, x17, x18, x19, x20, x21, x22, x23], h⟩) := by kernel_rfl
theorem c106_2_eq {β : Type} (x0 x1 x2 x3 x4 x5 x6 x7 x8 x9 x10 x11 x12 x13 x14 x15 x16 x17 x18 x19 x20 x21 x22 x23 : Value) (h : Heap) (k : Ex → St → Option β) : codeK Try.prog (evC Try.prog) loopL c106_2 ⟨#[x0, x1, x2, x3, x4, x5, x6, x7, x8, x9, x10, x11, x12, x13, x14, x15, x16, x17, x18, x19, x20, x21, x22, x23], h⟩ k =
obH (convV Try.prog 46 5 x1 h) fun t21_14 h15 =>
obH (buildSliceV Try.prog 23 1 #[(0, t21_14)] h15) fun t22_16 h17 =>
obH (appendV Try.prog 23 (some 23) x0 t22_16 h17) fun t23_18 h19 =>
k .ret ⟨#[x0, x1, x2, x3, t23_18, x5, x6, x7, x8, x9, x10, x11, x12, x13, x14, x15, x16, x17, x18, x0, x1, t21_14, t22_16, t23_18], h19⟩ := by kernel_rfl
theorem call106 (x0 x1 : Value) (h : Heap) : evC Try.prog 106 #[x0, x1] h = codeK Try.prog (evC Try.prog) loopL c106_0 ⟨#[x0, x1, undef, undef, undef, undef, undef, undef, undef, undef, undef, undef, undef, undef, undef, undef, undef, undef, undef, undef, undef, undef, undef, undef], nm h⟩ (retK Try.f106 Try.prog h) :=
  (evC_call 106 Try.f106 c106_0 Try.func106 (by kernel_rfl) #[x0, x1] h).trans (by kernel_rfl)
theorem ret106 (x0 x1 x2 x3 x4 x5 x6 x7 x8 x9 x10 x11 x12 x13 x14 x15 x16 x17 x18 x19 x20 x21 x22 x23 : Value) (h0 h : Heap) : retK Try.f106 Try.prog h0 .ret ⟨#[x0, x1, x2, x3, x4, x5, x6, x7, x8, x9, x10, x11, x12, x13, x14, x15, x16, x17, x18, x19, x20, x21, x22, x23], h⟩ = fin h0 (some x4) h := by kernel_rfl
theorem retn106 (x0 x1 x2 x3 x4 x5 x6 x7 x8 x9 x10 x11 x12 x13 x14 x15 x16 x17 x18 x19 x20 x21 x22 x23 : Value) (h0 h : Heap) : retK Try.f106 Try.prog h0 .normal ⟨#[x0, x1, x2, x3, x4, x5, x6, x7, x8, x9, x10, x11, x12, x13, x14, x15, x16, x17, x18, x19, x20, x21, x22, x23], h⟩ = fin h0 (some x4) h := by kernel_rfl
end Go.Am
namespace Go.Am
open Go.Proofs
set_option maxRecDepth 100000
noncomputable def c98_0 : Code := bodyC Try.f98 []
noncomputable def c98_1 : Code := bodyC Try.f98 [true, true, false, true, false, false]
noncomputable def c98_2 : Code := bodyC Try.f98 [true, true, true]
theorem c98_0_eq {β : Type} (x0 x1 x2 x3 x4 x5 x6 x7 x8 x9 x10 x11 x12 x13 x14 x15 x16 x17 x18 x19 x20 x21 x22 x23 x24 x25 x26 x27 x28 x29 x30 x31 x32 x33 x34 x35 x36 x37 x38 x39 x40 x41 x42 x43 x44 x45 x46 : Value) (h : Heap) (k : Ex → St → Option β) : codeK Try.prog (evC Try.prog) loopL c98_0 ⟨#[x0, x1, x2, x3, x4, x5, x6, x7, x8, x9, x10, x11, x12, x13, x14, x15, x16, x17, x18, x19, x20, x21, x22, x23, x24, x25, x26, x27, x28, x29, x30, x31, x32, x33, x34, x35, x36, x37, x38, x39, x40, x41, x42, x43, x44, x45, x46], h⟩ k =
loopK Try.prog (evC Try.prog) c98_1 ⟨#[x0, x1, (Go.Value.int Go.IntKind.u64 0), (Go.Value.int Go.IntKind.i64 0), (Go.Value.int Go.IntKind.u64 0), (Go.Value.int Go.IntKind.i64 0), x6, x7, x8, x9, x10, x11, x12, x13, x14, x15, x16, x17, x18, x19, x20, x21, x22, x23, x24, x25, x26, x27, x28, x29, x30, x31, x32, x33, x34, x35, x36, x37, x38, x39, x40, x41, x42, x43, x44, x45, x46], h⟩ (blockK 0 (seqK Try.prog (evC Try.prog) c98_2 k)) := by kernel_rfl
theorem c98_1_eq {β : Type} (x0 x1 x2 x3 x4 x5 x6 x7 x8 x9 x10 x11 x12 x13 x14 x15 x16 x17 x18 x19 x20 x21 x22 x23 x24 x25 x26 x27 x28 x29 x30 x31 x32 x33 x34 x35 x36 x37 x38 x39 x40 x41 x42 x43 x44 x45 x46 : Value) (h : Heap) (k : Ex → St → Option β) : codeK Try.prog (evC Try.prog) loopL c98_1 ⟨#[x0, x1, x2, x3, x4, x5, x6, x7, x8, x9, x10, x11, x12, x13, x14, x15, x16, x17, x18, x19, x20, x21, x22, x23, x24, x25, x26, x27, x28, x29, x30, x31, x32, x33, x34, x35, x36, x37, x38, x39, x40, x41, x42, x43, x44, x45, x46], h⟩ k =
(lenV Try.prog 23 x0 h).bind fun t9_0 =>
(binV Try.prog .lss 3 (.tmp 7) (.tmp 9) x5 t9_0).bind fun t10_1 =>
(gd (wt t10_1 true) (binV Try.prog .lss 3 (.tmp 12) (.const (Go.Value.int Go.IntKind.i64 10)) (gdV (wt t10_1 true) x5) (Go.Value.int Go.IntKind.i64 10))).bind fun t13_2 =>
(pickV t10_1 t13_2 (Go.Value.bool Bool.false)).bind fun t14_3 =>
cnd t14_3 (
(indexAddrV Try.prog 23 x0 x5).bind fun t19_4 =>
(loadV Try.prog 5 t19_4 h).bind fun t20_5 =>
(binV Try.prog .eql 3 (.tmp 21) (.const (Go.Value.int Go.IntKind.i64 9)) x5 (Go.Value.int Go.IntKind.i64 9)).bind fun t22_6 =>
(gd (wt t22_6 true) (binV Try.prog .gtr 5 (.tmp 24) (.const (Go.Value.int Go.IntKind.u8 1)) (gdV (wt t22_6 true) t20_5) (Go.Value.int Go.IntKind.u8 1))).bind fun t25_7 =>
(pickV t22_6 t25_7 (Go.Value.bool Bool.false)).bind fun t26_8 =>
cnd t26_8 (
k .ret ⟨#[x0, x1, (Go.Value.int Go.IntKind.u64 0), (Go.Value.int Go.IntKind.i64 0), x4, x5, t20_5, x5, x0, t9_0, t10_1, t10_1, (gdV (wt t10_1 true) x5), t13_2, t14_3, x15, x16, x0, x5, t19_4, t20_5, x5, t22_6, t22_6, (gdV (wt t22_6 true) t20_5), t25_7, t26_8, x27, x28, x29, x30, x31, x32, x33, x34, x35, x36, x37, x38, x39, x40, x41, x42, x43, x44, x45, x46], h⟩) (
(binV Try.prog .and 5 (.tmp 28) (.const (Go.Value.int Go.IntKind.u8 127)) t20_5 (Go.Value.int Go.IntKind.u8 127)).bind fun t29_9 =>
obH (convV Try.prog 5 46 t29_9 h) fun t30_10 h11 =>
(binV Try.prog .mul 3 (.const (Go.Value.int Go.IntKind.i64 7)) (.tmp 31) (Go.Value.int Go.IntKind.i64 7) x5).bind fun t32_12 =>
obH (convV Try.prog 3 138 t32_12 h11) fun t33_13 h14 =>
(binV Try.prog .shl 46 (.tmp 30) (.tmp 33) t30_10 t33_13).bind fun t34_15 =>
(binV Try.prog .or 46 (.tmp 27) (.tmp 34) x4 t34_15).bind fun t35_16 =>
(binV Try.prog .lss 5 (.tmp 36) (.const (Go.Value.int Go.IntKind.u8 128)) t20_5 (Go.Value.int Go.IntKind.u8 128)).bind fun t37_17 =>
cnd t37_17 (
(binV Try.prog .eql 5 (.tmp 38) (.const (Go.Value.int Go.IntKind.u8 0)) t20_5 (Go.Value.int Go.IntKind.u8 0)).bind fun t39_18 =>
(gd (wt t39_18 true) (binV Try.prog .gtr 3 (.tmp 41) (.const (Go.Value.int Go.IntKind.i64 0)) (gdV (wt t39_18 true) x5) (Go.Value.int Go.IntKind.i64 0))).bind fun t42_19 =>
(pickV t39_18 t42_19 (Go.Value.bool Bool.false)).bind fun t43_20 =>
cnd t43_20 (
k .ret ⟨#[x0, x1, (Go.Value.int Go.IntKind.u64 0), (Go.Value.int Go.IntKind.i64 0), t35_16, x5, t20_5, x5, x0, t9_0, t10_1, t10_1, (gdV (wt t10_1 true) x5), t13_2, t14_3, x15, x16, x0, x5, t19_4, t20_5, x5, t22_6, t22_6, (gdV (wt t22_6 true) t20_5), t25_7, t26_8, x4, t20_5, t29_9, t30_10, x5, t32_12, t33_13, t34_15, t35_16, t20_5, t37_17, t20_5, t39_18, t39_18, (gdV (wt t39_18 true) x5), t42_19, t43_20, x44, x45, x46], h14⟩) (
(binV Try.prog .add 3 (.tmp 45) (.const (Go.Value.int Go.IntKind.i64 1)) x5 (Go.Value.int Go.IntKind.i64 1)).bind fun t46_21 =>
k .ret ⟨#[x0, x1, t35_16, t46_21, t35_16, x5, t20_5, x5, x0, t9_0, t10_1, t10_1, (gdV (wt t10_1 true) x5), t13_2, t14_3, x15, x16, x0, x5, t19_4, t20_5, x5, t22_6, t22_6, (gdV (wt t22_6 true) t20_5), t25_7, t26_8, x4, t20_5, t29_9, t30_10, x5, t32_12, t33_13, t34_15, t35_16, t20_5, t37_17, t20_5, t39_18, t39_18, (gdV (wt t39_18 true) x5), t42_19, t43_20, t35_16, x5, t46_21], h14⟩)) (
(binV Try.prog .add 3 (.tmp 15) (.const (Go.Value.int Go.IntKind.i64 1)) x5 (Go.Value.int Go.IntKind.i64 1)).bind fun t16_22 =>
k .normal ⟨#[x0, x1, x2, x3, t35_16, t16_22, t20_5, x5, x0, t9_0, t10_1, t10_1, (gdV (wt t10_1 true) x5), t13_2, t14_3, x5, t16_22, x0, x5, t19_4, t20_5, x5, t22_6, t22_6, (gdV (wt t22_6 true) t20_5), t25_7, t26_8, x4, t20_5, t29_9, t30_10, x5, t32_12, t33_13, t34_15, t35_16, t20_5, t37_17, x38, x39, x40, x41, x42, x43, x44, x45, x46], h14⟩))) (
k (.exit 0) ⟨#[x0, x1, x2, x3, x4, x5, x6, x5, x0, t9_0, t10_1, t10_1, (gdV (wt t10_1 true) x5), t13_2, t14_3, x15, x16, x17, x18, x19, x20, x21, x22, x23, x24, x25, x26, x27, x28, x29, x30, x31, x32, x33, x34, x35, x36, x37, x38, x39, x40, x41, x42, x43, x44, x45, x46], h⟩) := by kernel_rfl
theorem c98_2_eq {β : Type} (x0 x1 x2 x3 x4 x5 x6 x7 x8 x9 x10 x11 x12 x13 x14 x15 x16 x17 x18 x19 x20 x21 x22 x23 x24 x25 x26 x27 x28 x29 x30 x31 x32 x33 x34 x35 x36 x37 x38 x39 x40 x41 x42 x43 x44 x45 x46 : Value) (h : Heap) (k : Ex → St → Option β) : codeK Try.prog (evC Try.prog) loopL c98_2 ⟨#[x0, x1, x2, x3, x4, x5, x6, x7, x8, x9, x10, x11, x12, x13, x14, x15, x16, x17, x18, x19, x20, x21, x22, x23, x24, x25, x26, x27, x28, x29, x30, x31, x32, x33, x34, x35, x36, x37, x38, x39, x40, x41, x42, x43, x44, x45, x46], h⟩ k =
k .ret ⟨#[x0, x1, (Go.Value.int Go.IntKind.u64 0), (Go.Value.int Go.IntKind.i64 0), x4, x5, x6, x7, x8, x9, x10, x11, x12, x13, x14, x15, x16, x17, x18, x19, x20, x21, x22, x23, x24, x25, x26, x27, x28, x29, x30, x31, x32, x33, x34, x35, x36, x37, x38, x39, x40, x41, x42, x43, x44, x45, x46], h⟩ := by kernel_rfl
theorem call98 (x0 : Value) (h : Heap) : evC Try.prog 98 #[x0] h = codeK Try.prog (evC Try.prog) loopL c98_0 ⟨#[x0, undef, undef, undef, undef, undef, undef, undef, undef, undef, undef, undef, undef, undef, undef, undef, undef, undef, undef, undef, undef, undef, undef, undef, undef, undef, undef, undef, undef, undef, undef, undef, undef, undef, undef, undef, undef, undef, undef, undef, undef, undef, undef, undef, undef, undef, undef], nm h⟩ (retK Try.f98 Try.prog h) :=
  (evC_call 98 Try.f98 c98_0 Try.func98 (by kernel_rfl) #[x0] h).trans (by kernel_rfl)
theorem ret98 (x0 x1 x2 x3 x4 x5 x6 x7 x8 x9 x10 x11 x12 x13 x14 x15 x16 x17 x18 x19 x20 x21 x22 x23 x24 x25 x26 x27 x28 x29 x30 x31 x32 x33 x34 x35 x36 x37 x38 x39 x40 x41 x42 x43 x44 x45 x46 : Value) (h0 h : Heap) : retK Try.f98 Try.prog h0 .ret ⟨#[x0, x1, x2, x3, x4, x5, x6, x7, x8, x9, x10, x11, x12, x13, x14, x15, x16, x17, x18, x19, x20, x21, x22, x23, x24, x25, x26, x27, x28, x29, x30, x31, x32, x33, x34, x35, x36, x37, x38, x39, x40, x41, x42, x43, x44, x45, x46], h⟩ = fin h0 (some (.tuple #[x2, x3])) h := by kernel_rfl
theorem retn98 (x0 x1 x2 x3 x4 x5 x6 x7 x8 x9 x10 x11 x12 x13 x14 x15 x16 x17 x18 x19 x20 x21 x22 x23 x24 x25 x26 x27 x28 x29 x30 x31 x32 x33 x34 x35 x36 x37 x38 x39 x40 x41 x42 x43 x44 x45 x46 : Value) (h0 h : Heap) : retK Try.f98 Try.prog h0 .normal ⟨#[x0, x1, x2, x3, x4, x5, x6, x7, x8, x9, x10, x11, x12, x13, x14, x15, x16, x17, x18, x19, x20, x21, x22, x23, x24, x25, x26, x27, x28, x29, x30, x31, x32, x33, x34, x35, x36, x37, x38, x39, x40, x41, x42, x43, x44, x45, x46], h⟩ = fin h0 (some (.tuple #[x2, x3])) h := by kernel_rfl
end Go.Am
namespace Go.Am
open Go.Proofs
set_option maxRecDepth 100000
noncomputable def c58_0 : Code := bodyC Try.f58 []
theorem c58_0_eq {β : Type} (x0 x1 x2 x3 x4 x5 x6 x7 x8 x9 x10 x11 x12 : Value) (h : Heap) (k : Ex → St → Option β) : codeK Try.prog (evC Try.prog) loopL c58_0 ⟨#[x0, x1, x2, x3, x4, x5, x6, x7, x8, x9, x10, x11, x12], h⟩ k =
(nilCheckV x0).bind fun t6_0 =>
(fieldAddrV Try.prog 97 t6_0 0).bind fun t7_1 =>
(loadV Try.prog 23 t7_1 h).bind fun t8_2 =>
obH (evC Try.prog 106 #[t8_2, x1] h) fun t10_3 h4 =>
(nilCheckV x0).bind fun t11_5 =>
(fieldAddrV Try.prog 97 t11_5 0).bind fun t12_6 =>
(storeV Try.prog 23 t12_6 t10_3 h4).bind fun h7 =>
k .normal ⟨#[x0, x1, x2, x3, x0, x0, t6_0, t7_1, t8_2, x1, t10_3, t11_5, t12_6], h7⟩ := by kernel_rfl
theorem call58 (x0 x1 : Value) (h : Heap) : evC Try.prog 58 #[x0, x1] h = codeK Try.prog (evC Try.prog) loopL c58_0 ⟨#[x0, x1, undef, undef, undef, undef, undef, undef, undef, undef, undef, undef, undef], nm h⟩ (retK Try.f58 Try.prog h) :=
  (evC_call 58 Try.f58 c58_0 Try.func58 (by kernel_rfl) #[x0, x1] h).trans (by kernel_rfl)
theorem ret58 (x0 x1 x2 x3 x4 x5 x6 x7 x8 x9 x10 x11 x12 : Value) (h0 h : Heap) : retK Try.f58 Try.prog h0 .ret ⟨#[x0, x1, x2, x3, x4, x5, x6, x7, x8, x9, x10, x11, x12], h⟩ = fin h0 (some (.tuple #[])) h := by kernel_rfl
theorem retn58 (x0 x1 x2 x3 x4 x5 x6 x7 x8 x9 x10 x11 x12 : Value) (h0 h : Heap) : retK Try.f58 Try.prog h0 .normal ⟨#[x0, x1, x2, x3, x4, x5, x6, x7, x8, x9, x10, x11, x12], h⟩ = fin h0 (some (.tuple #[])) h := by kernel_rfl
end Go.Am
namespace Go.Am
open Go.Proofs
set_option maxRecDepth 100000
noncomputable def c62_0 : Code := bodyC Try.f62 []
theorem c62_0_eq {β : Type} (x0 x1 x2 x3 x4 x5 x6 x7 x8 x9 x10 x11 x12 x13 x14 x15 x16 x17 : Value) (h : Heap) (k : Ex → St → Option β) : codeK Try.prog (evC Try.prog) loopL c62_0 ⟨#[x0, x1, x2, x3, x4, x5, x6, x7, x8, x9, x10, x11, x12, x13, x14, x15, x16, x17], h⟩ k =
(lenV Try.prog 23 x1 h).bind fun t6_0 =>
obH (convV Try.prog 3 46 t6_0 h) fun t7_1 h2 =>
obH (evC Try.prog 58 #[x0, t7_1] h2) fun t8_3 h4 =>
(nilCheckV x0).bind fun t11_5 =>
(fieldAddrV Try.prog 97 t11_5 0).bind fun t12_6 =>
(loadV Try.prog 23 t12_6 h4).bind fun t13_7 =>
obH (appendV Try.prog 23 (some 23) t13_7 x1 h4) fun t15_8 h9 =>
(nilCheckV x0).bind fun t16_10 =>
(fieldAddrV Try.prog 97 t16_10 0).bind fun t17_11 =>
(storeV Try.prog 23 t17_11 t15_8 h9).bind fun h12 =>
k .normal ⟨#[x0, x1, x2, x3, x0, x1, t6_0, t7_1, t8_3, x0, x0, t11_5, t12_6, t13_7, x1, t15_8, t16_10, t17_11], h12⟩ := by kernel_rfl
theorem call62 (x0 x1 : Value) (h : Heap) : evC Try.prog 62 #[x0, x1] h = codeK Try.prog (evC Try.prog) loopL c62_0 ⟨#[x0, x1, undef, undef, undef, undef, undef, undef, undef, undef, undef, undef, undef, undef, undef, undef, undef, undef], nm h⟩ (retK Try.f62 Try.prog h) :=
  (evC_call 62 Try.f62 c62_0 Try.func62 (by kernel_rfl) #[x0, x1] h).trans (by kernel_rfl)
theorem ret62 (x0 x1 x2 x3 x4 x5 x6 x7 x8 x9 x10 x11 x12 x13 x14 x15 x16 x17 : Value) (h0 h : Heap) : retK Try.f62 Try.prog h0 .ret ⟨#[x0, x1, x2, x3, x4, x5, x6, x7, x8, x9, x10, x11, x12, x13, x14, x15, x16, x17], h⟩ = fin h0 (some (.tuple #[])) h := by kernel_rfl
theorem retn62 (x0 x1 x2 x3 x4 x5 x6 x7 x8 x9 x10 x11 x12 x13 x14 x15 x16 x17 : Value) (h0 h : Heap) : retK Try.f62 Try.prog h0 .normal ⟨#[x0, x1, x2, x3, x4, x5, x6, x7, x8, x9, x10, x11, x12, x13, x14, x15, x16, x17], h⟩ = fin h0 (some (.tuple #[])) h := by kernel_rfl
end Go.Am
namespace Go.Am
open Go.Proofs
set_option maxRecDepth 100000
noncomputable def c48_0 : Code := bodyC Try.f48 []
theorem c48_0_eq {β : Type} (x0 x1 x2 x3 x4 x5 x6 x7 x8 x9 x10 x11 x12 x13 x14 x15 x16 x17 x18 x19 x20 x21 x22 x23 x24 x25 x26 x27 x28 x29 x30 x31 x32 x33 x34 x35 x36 x37 x38 x39 : Value) (h : Heap) (k : Ex → St → Option β) : codeK Try.prog (evC Try.prog) loopL c48_0 ⟨#[x0, x1, x2, x3, x4, x5, x6, x7, x8, x9, x10, x11, x12, x13, x14, x15, x16, x17, x18, x19, x20, x21, x22, x23, x24, x25, x26, x27, x28, x29, x30, x31, x32, x33, x34, x35, x36, x37, x38, x39], h⟩ k =
(nilCheckV x0).bind fun t9_0 =>
(fieldAddrV Try.prog 83 t9_0 0).bind fun t10_1 =>
(loadV Try.prog 23 t10_1 h).bind fun t11_2 =>
obH (evC Try.prog 98 #[t11_2] h) fun t12_3 h4 =>
(extractV t12_3 0).bind fun t13_5 =>
(extractV t12_3 1).bind fun t14_6 =>
(nilCheckV x0).bind fun t16_7 =>
(fieldAddrV Try.prog 83 t16_7 1).bind fun t17_8 =>
(loadV Try.prog 4 t17_8 h4).bind fun t18_9 =>
(gd (wt t18_9 false) (binV Try.prog .eql 3 (.tmp 20) (.const (Go.Value.int Go.IntKind.i64 0)) (gdV (wt t18_9 false) t14_6) (Go.Value.int Go.IntKind.i64 0))).bind fun t21_10 =>
(pickV t18_9 (Go.Value.bool Bool.true) t21_10).bind fun t22_11 =>
(gd (wt t22_11 false) (binV Try.prog .gtr 46 (.tmp 24) (.tmp 25) (gdV (wt t22_11 false) t13_5) (gdV (wt t22_11 false) x1))).bind fun t26_12 =>
(pickV t22_11 (Go.Value.bool Bool.true) t26_12).bind fun t27_13 =>
cnd t27_13 (
obH (evC Try.prog 99 #[x0] h4) fun t29_14 h15 =>
k .ret ⟨#[x0, x1, x2, x3, (Go.Value.int Go.IntKind.u64 0), t13_5, t14_6, t12_3, x0, t9_0, t10_1, t11_2, t12_3, t13_5, t14_6, x0, t16_7, t17_8, t18_9, t18_9, (gdV (wt t18_9 false) t14_6), t21_10, t22_11, t22_11, (gdV (wt t22_11 false) t13_5), (gdV (wt t22_11 false) x1), t26_12, t27_13, x0, t29_14, x30, x31, x32, x33, x34, x35, x36, x37, x38, x39], h15⟩) (
(nilCheckV x0).bind fun t32_16 =>
(fieldAddrV Try.prog 83 t32_16 0).bind fun t33_17 =>
(loadV Try.prog 23 t33_17 h4).bind fun t34_18 =>
(sliceV Try.prog 23 t34_18 (some t14_6) none none h4).bind fun t36_19 =>
(nilCheckV x0).bind fun t37_20 =>
(fieldAddrV Try.prog 83 t37_20 0).bind fun t38_21 =>
(storeV Try.prog 23 t38_21 t36_19 h4).bind fun h22 =>
k .ret ⟨#[x0, x1, x2, x3, t13_5, t13_5, t14_6, t12_3, x0, t9_0, t10_1, t11_2, t12_3, t13_5, t14_6, x0, t16_7, t17_8, t18_9, t18_9, (gdV (wt t18_9 false) t14_6), t21_10, t22_11, t22_11, (gdV (wt t22_11 false) t13_5), (gdV (wt t22_11 false) x1), t26_12, t27_13, x28, x29, x0, x0, t32_16, t33_17, t34_18, t14_6, t36_19, t37_20, t38_21, t13_5], h22⟩) := by kernel_rfl
theorem call48 (x0 x1 : Value) (h : Heap) : evC Try.prog 48 #[x0, x1] h = codeK Try.prog (evC Try.prog) loopL c48_0 ⟨#[x0, x1, undef, undef, undef, undef, undef, undef, undef, undef, undef, undef, undef, undef, undef, undef, undef, undef, undef, undef, undef, undef, undef, undef, undef, undef, undef, undef, undef, undef, undef, undef, undef, undef, undef, undef, undef, undef, undef, undef], nm h⟩ (retK Try.f48 Try.prog h) :=
  (evC_call 48 Try.f48 c48_0 Try.func48 (by kernel_rfl) #[x0, x1] h).trans (by kernel_rfl)
theorem ret48 (x0 x1 x2 x3 x4 x5 x6 x7 x8 x9 x10 x11 x12 x13 x14 x15 x16 x17 x18 x19 x20 x21 x22 x23 x24 x25 x26 x27 x28 x29 x30 x31 x32 x33 x34 x35 x36 x37 x38 x39 : Value) (h0 h : Heap) : retK Try.f48 Try.prog h0 .ret ⟨#[x0, x1, x2, x3, x4, x5, x6, x7, x8, x9, x10, x11, x12, x13, x14, x15, x16, x17, x18, x19, x20, x21, x22, x23, x24, x25, x26, x27, x28, x29, x30, x31, x32, x33, x34, x35, x36, x37, x38, x39], h⟩ = fin h0 (some x4) h := by kernel_rfl
theorem retn48 (x0 x1 x2 x3 x4 x5 x6 x7 x8 x9 x10 x11 x12 x13 x14 x15 x16 x17 x18 x19 x20 x21 x22 x23 x24 x25 x26 x27 x28 x29 x30 x31 x32 x33 x34 x35 x36 x37 x38 x39 : Value) (h0 h : Heap) : retK Try.f48 Try.prog h0 .normal ⟨#[x0, x1, x2, x3, x4, x5, x6, x7, x8, x9, x10, x11, x12, x13, x14, x15, x16, x17, x18, x19, x20, x21, x22, x23, x24, x25, x26, x27, x28, x29, x30, x31, x32, x33, x34, x35, x36, x37, x38, x39], h⟩ = fin h0 (some x4) h := by kernel_rfl
end Go.Am
namespace Go.Am
open Go.Proofs
set_option maxRecDepth 100000
noncomputable def c55_0 : Code := bodyC Try.f55 []
theorem c55_0_eq {β : Type} (x0 x1 x2 x3 x4 x5 x6 x7 x8 x9 x10 x11 x12 x13 x14 x15 x16 x17 x18 x19 x20 x21 x22 x23 x24 x25 x26 x27 x28 x29 x30 x31 x32 x33 x34 x35 x36 x37 x38 x39 x40 x41 x42 x43 x44 x45 x46 x47 x48 x49 x50 x51 x52 x53 x54 x55 x56 x57 x58 x59 x60 x61 x62 x63 x64 x65 x66 x67 x68 x69 x70 x71 x72 x73 x74 x75 x76 x77 x78 x79 x80 x81 x82 x83 x84 x85 x86 x87 x88 x89 x90 x91 x92 x93 x94 : Value) (h : Heap) (k : Ex → St → Option β) : codeK Try.prog (evC Try.prog) loopL c55_0 ⟨#[x0, x1, x2, x3, x4, x5, x6, x7, x8, x9, x10, x11, x12, x13, x14, x15, x16, x17, x18, x19, x20, x21, x22, x23, x24, x25, x26, x27, x28, x29, x30, x31, x32, x33, x34, x35, x36, x37, x38, x39, x40, x41, x42, x43, x44, x45, x46, x47, x48, x49, x50, x51, x52, x53, x54, x55, x56, x57, x58, x59, x60, x61, x62, x63, x64, x65, x66, x67, x68, x69, x70, x71, x72, x73, x74, x75, x76, x77, x78, x79, x80, x81, x82, x83, x84, x85, x86, x87, x88, x89, x90, x91, x92, x93, x94], h⟩ k =
(nilCheckV x0).bind fun t10_0 =>
(fieldAddrV Try.prog 83 t10_0 0).bind fun t11_1 =>
(loadV Try.prog 23 t11_1 h).bind fun t12_2 =>
obH (evC Try.prog 98 #[t12_2] h) fun t13_3 h4 =>
(extractV t13_3 0).bind fun t14_5 =>
(extractV t13_3 1).bind fun t15_6 =>
(nilCheckV x0).bind fun t17_7 =>
(fieldAddrV Try.prog 83 t17_7 1).bind fun t18_8 =>
(loadV Try.prog 4 t18_8 h4).bind fun t19_9 =>
(gd (wt t19_9 false) (binV Try.prog .eql 3 (.tmp 21) (.const (Go.Value.int Go.IntKind.i64 0)) (gdV (wt t19_9 false) t15_6) (Go.Value.int Go.IntKind.i64 0))).bind fun t22_10 =>
(pickV t19_9 (Go.Value.bool Bool.true) t22_10).bind fun t23_11 =>
(gd (wt t23_11 false) (binV Try.prog .lss 3 (.tmp 25) (.const (Go.Value.int Go.IntKind.i64 0)) (gdV (wt t23_11 false) x1) (Go.Value.int Go.IntKind.i64 0))).bind fun t26_12 =>
(pickV t23_11 (Go.Value.bool Bool.true) t26_12).bind fun t27_13 =>
obH (gdH (wt t27_13 false) h4 (convV Try.prog 3 46 (gdV (wt t27_13 false) x1) h4)) fun t31_14 h15 =>
(gd (wt t27_13 false) (binV Try.prog .gtr 46 (.tmp 29) (.tmp 31) (gdV (wt t27_13 false) t14_5) t31_14)).bind fun t32_16 =>
(pickV t27_13 (Go.Value.bool Bool.true) t32_16).bind fun t33_17 =>
(gd (wt t33_17 false) (nilCheckV (gdV (wt t33_17 false) x0))).bind fun t37_18 =>
(gd (wt t33_17 false) (fieldAddrV Try.prog 83 t37_18 0)).bind fun t38_19 =>
(gd (wt t33_17 false) (loadV Try.prog 23 t38_19 h15)).bind fun t39_20 =>
(gd (wt t33_17 false) (lenV Try.prog 23 t39_20 h15)).bind fun t40_21 =>
(gd (wt t33_17 false) (binV Try.prog .sub 3 (.tmp 40) (.tmp 41) t40_21 (gdV (wt t33_17 false) t15_6))).bind fun t42_22 =>
obH (gdH (wt t33_17 false) h15 (convV Try.prog 3 46 t42_22 h15)) fun t43_23 h24 =>
(gd (wt t33_17 false) (binV Try.prog .gtr 46 (.tmp 35) (.tmp 43) (gdV (wt t33_17 false) t14_5) t43_23)).bind fun t44_25 =>
(pickV t33_17 (Go.Value.bool Bool.true) t44_25).bind fun t45_26 =>
cnd t45_26 (
(nilCheckV x0).bind fun t47_27 =>
(fieldAddrV Try.prog 83 t47_27 1).bind fun t48_28 =>
(loadV Try.prog 4 t48_28 h24).bind fun t49_29 =>
(unV Try.prog .not t49_29).bind fun t50_30 =>
(gd (wt t50_30 true) (binV Try.prog .gtr 3 (.tmp 52) (.const (Go.Value.int Go.IntKind.i64 0)) (gdV (wt t50_30 true) t15_6) (Go.Value.int Go.IntKind.i64 0))).bind fun t53_31 =>
(pickV t50_30 t53_31 (Go.Value.bool Bool.false)).bind fun t54_32 =>
(gd (wt t54_32 true) (binV Try.prog .eql 46 (.tmp 56) (.const (Go.Value.int Go.IntKind.u64 0)) (gdV (wt t54_32 true) t14_5) (Go.Value.int Go.IntKind.u64 0))).bind fun t57_33 =>
(pickV t54_32 t57_33 (Go.Value.bool Bool.false)).bind fun t58_34 =>
cnd t58_34 (
(nilCheckV x0).bind fun t61_35 =>
(fieldAddrV Try.prog 83 t61_35 0).bind fun t62_36 =>
(loadV Try.prog 23 t62_36 h24).bind fun t63_37 =>
(sliceV Try.prog 23 t63_37 (some t15_6) none none h24).bind fun t65_38 =>
(nilCheckV x0).bind fun t66_39 =>
(fieldAddrV Try.prog 83 t66_39 0).bind fun t67_40 =>
(storeV Try.prog 23 t67_40 t65_38 h24).bind fun h41 =>
k .ret ⟨#[x0, x1, x2, x3, (Go.Value.slice Option.none 0 0), t14_5, t15_6, x7, t13_3, x0, t10_0, t11_1, t12_2, t13_3, t14_5, t15_6, x0, t17_7, t18_8, t19_9, t19_9, (gdV (wt t19_9 false) t15_6), t22_10, t23_11, t23_11, (gdV (wt t23_11 false) x1), t26_12, t27_13, t27_13, (gdV (wt t27_13 false) t14_5), (gdV (wt t27_13 false) x1), t31_14, t32_16, t33_17, t33_17, (gdV (wt t33_17 false) t14_5), (gdV (wt t33_17 false) x0), t37_18, t38_19, t39_20, t40_21, (gdV (wt t33_17 false) t15_6), t42_22, t43_23, t44_25, t45_26, x0, t47_27, t48_28, t49_29, t50_30, t50_30, (gdV (wt t50_30 true) t15_6), t53_31, t54_32, t54_32, (gdV (wt t54_32 true) t14_5), t57_33, t58_34, x0, x0, t61_35, t62_36, t63_37, t15_6, t65_38, t66_39, t67_40, x68, x69, x70, x71, x72, x73, x74, x75, x76, x77, x78, x79, x80, x81, x82, x83, x84, x85, x86, x87, x88, x89, x90, x91, x92, x93, x94], h41⟩) (
obH (evC Try.prog 99 #[x0] h24) fun t69_42 h43 =>
k .ret ⟨#[x0, x1, x2, x3, (Go.Value.slice Option.none 0 0), t14_5, t15_6, x7, t13_3, x0, t10_0, t11_1, t12_2, t13_3, t14_5, t15_6, x0, t17_7, t18_8, t19_9, t19_9, (gdV (wt t19_9 false) t15_6), t22_10, t23_11, t23_11, (gdV (wt t23_11 false) x1), t26_12, t27_13, t27_13, (gdV (wt t27_13 false) t14_5), (gdV (wt t27_13 false) x1), t31_14, t32_16, t33_17, t33_17, (gdV (wt t33_17 false) t14_5), (gdV (wt t33_17 false) x0), t37_18, t38_19, t39_20, t40_21, (gdV (wt t33_17 false) t15_6), t42_22, t43_23, t44_25, t45_26, x0, t47_27, t48_28, t49_29, t50_30, t50_30, (gdV (wt t50_30 true) t15_6), t53_31, t54_32, t54_32, (gdV (wt t54_32 true) t14_5), t57_33, t58_34, x59, x60, x61, x62, x63, x64, x65, x66, x67, x0, t69_42, x70, x71, x72, x73, x74, x75, x76, x77, x78, x79, x80, x81, x82, x83, x84, x85, x86, x87, x88, x89, x90, x91, x92, x93, x94], h43⟩)) (
obH (buildSliceV Try.prog 23 0 #[] h24) fun t70_44 h45 =>
(nilCheckV x0).bind fun t72_46 =>
(fieldAddrV Try.prog 83 t72_46 0).bind fun t73_47 =>
(loadV Try.prog 23 t73_47 h45).bind fun t74_48 =>
obH (convV Try.prog 46 3 t14_5 h45) fun t78_49 h50 =>
(binV Try.prog .add 3 (.tmp 76) (.tmp 78) t15_6 t78_49).bind fun t79_51 =>
(sliceV Try.prog 23 t74_48 (some t15_6) (some t79_51) none h50).bind fun t80_52 =>
obH (appendV Try.prog 23 (some 23) t70_44 t80_52 h50) fun t81_53 h54 =>
(nilCheckV x0).bind fun t84_55 =>
(fieldAddrV Try.prog 83 t84_55 0).bind fun t85_56 =>
(loadV Try.prog 23 t85_56 h54).bind fun t86_57 =>
obH (convV Try.prog 46 3 t14_5 h54) fun t89_58 h59 =>
(binV Try.prog .add 3 (.tmp 87) (.tmp 89) t15_6 t89_58).bind fun t90_60 =>
(sliceV Try.prog 23 t86_57 (some t90_60) none none h59).bind fun t91_61 =>
(nilCheckV x0).bind fun t92_62 =>
(fieldAddrV Try.prog 83 t92_62 0).bind fun t93_63 =>
(storeV Try.prog 23 t93_63 t91_61 h59).bind fun h64 =>
k .ret ⟨#[x0, x1, x2, x3, t81_53, t14_5, t15_6, t81_53, t13_3, x0, t10_0, t11_1, t12_2, t13_3, t14_5, t15_6, x0, t17_7, t18_8, t19_9, t19_9, (gdV (wt t19_9 false) t15_6), t22_10, t23_11, t23_11, (gdV (wt t23_11 false) x1), t26_12, t27_13, t27_13, (gdV (wt t27_13 false) t14_5), (gdV (wt t27_13 false) x1), t31_14, t32_16, t33_17, t33_17, (gdV (wt t33_17 false) t14_5), (gdV (wt t33_17 false) x0), t37_18, t38_19, t39_20, t40_21, (gdV (wt t33_17 false) t15_6), t42_22, t43_23, t44_25, t45_26, x46, x47, x48, x49, x50, x51, x52, x53, x54, x55, x56, x57, x58, x59, x60, x61, x62, x63, x64, x65, x66, x67, x68, x69, t70_44, x0, t72_46, t73_47, t74_48, t15_6, t15_6, t14_5, t78_49, t79_51, t80_52, t81_53, x0, x0, t84_55, t85_56, t86_57, t15_6, t14_5, t89_58, t90_60, t91_61, t92_62, t93_63, t81_53], h64⟩) := by kernel_rfl
theorem call55 (x0 x1 : Value) (h : Heap) : evC Try.prog 55 #[x0, x1] h = codeK Try.prog (evC Try.prog) loopL c55_0 ⟨#[x0, x1, undef, undef, undef, undef, undef, undef, undef, undef, undef, undef, undef, undef, undef, undef, undef, undef, undef, undef, undef, undef, undef, undef, undef, undef, undef, undef, undef, undef, undef, undef, undef, undef, undef, undef, undef, undef, undef, undef, undef, undef, undef, undef, undef, undef, undef, undef, undef, undef, undef, undef, undef, undef, undef, undef, undef, undef, undef, undef, undef, undef, undef, undef, undef, undef, undef, undef, undef, undef, undef, undef, undef, undef, undef, undef, undef, undef, undef, undef, undef, undef, undef, undef, undef, undef, undef, undef, undef, undef, undef, undef, undef, undef, undef], nm h⟩ (retK Try.f55 Try.prog h) :=
  (evC_call 55 Try.f55 c55_0 Try.func55 (by kernel_rfl) #[x0, x1] h).trans (by kernel_rfl)
theorem ret55 (x0 x1 x2 x3 x4 x5 x6 x7 x8 x9 x10 x11 x12 x13 x14 x15 x16 x17 x18 x19 x20 x21 x22 x23 x24 x25 x26 x27 x28 x29 x30 x31 x32 x33 x34 x35 x36 x37 x38 x39 x40 x41 x42 x43 x44 x45 x46 x47 x48 x49 x50 x51 x52 x53 x54 x55 x56 x57 x58 x59 x60 x61 x62 x63 x64 x65 x66 x67 x68 x69 x70 x71 x72 x73 x74 x75 x76 x77 x78 x79 x80 x81 x82 x83 x84 x85 x86 x87 x88 x89 x90 x91 x92 x93 x94 : Value) (h0 h : Heap) : retK Try.f55 Try.prog h0 .ret ⟨#[x0, x1, x2, x3, x4, x5, x6, x7, x8, x9, x10, x11, x12, x13, x14, x15, x16, x17, x18, x19, x20, x21, x22, x23, x24, x25, x26, x27, x28, x29, x30, x31, x32, x33, x34, x35, x36, x37, x38, x39, x40, x41, x42, x43, x44, x45, x46, x47, x48, x49, x50, x51, x52, x53, x54, x55, x56, x57, x58, x59, x60, x61, x62, x63, x64, x65, x66, x67, x68, x69, x70, x71, x72, x73, x74, x75, x76, x77, x78, x79, x80, x81, x82, x83, x84, x85, x86, x87, x88, x89, x90, x91, x92, x93, x94], h⟩ = fin h0 (some x4) h := by kernel_rfl
theorem retn55 (x0 x1 x2 x3 x4 x5 x6 x7 x8 x9 x10 x11 x12 x13 x14 x15 x16 x17 x18 x19 x20 x21 x22 x23 x24 x25 x26 x27 x28 x29 x30 x31 x32 x33 x34 x35 x36 x37 x38 x39 x40 x41 x42 x43 x44 x45 x46 x47 x48 x49 x50 x51 x52 x53 x54 x55 x56 x57 x58 x59 x60 x61 x62 x63 x64 x65 x66 x67 x68 x69 x70 x71 x72 x73 x74 x75 x76 x77 x78 x79 x80 x81 x82 x83 x84 x85 x86 x87 x88 x89 x90 x91 x92 x93 x94 : Value) (h0 h : Heap) : retK Try.f55 Try.prog h0 .normal ⟨#[x0, x1, x2, x3, x4, x5, x6, x7, x8, x9, x10, x11, x12, x13, x14, x15, x16, x17, x18, x19, x20, x21, x22, x23, x24, x25, x26, x27, x28, x29, x30, x31, x32, x33, x34, x35, x36, x37, x38, x39, x40, x41, x42, x43, x44, x45, x46, x47, x48, x49, x50, x51, x52, x53, x54, x55, x56, x57, x58, x59, x60, x61, x62, x63, x64, x65, x66, x67, x68, x69, x70, x71, x72, x73, x74, x75, x76, x77, x78, x79, x80, x81, x82, x83, x84, x85, x86, x87, x88, x89, x90, x91, x92, x93, x94], h⟩ = fin h0 (some x4) h := by kernel_rfl
end Go.Am
namespace Go.Am
open Go.Proofs
set_option maxRecDepth 100000
noncomputable def c56_0 : Code := bodyC Try.f56 []
theorem c56_0_eq {β : Type} (x0 x1 x2 x3 x4 x5 x6 x7 x8 x9 x10 x11 x12 x13 x14 x15 : Value) (h : Heap) (k : Ex → St → Option β) : codeK Try.prog (evC Try.prog) loopL c56_0 ⟨#[x0, x1, x2, x3, x4, x5, x6, x7, x8, x9, x10, x11, x12, x13, x14, x15], h⟩ k =
(nilCheckV x0).bind fun t4_0 =>
(fieldAddrV Try.prog 83 t4_0 1).bind fun t5_1 =>
(loadV Try.prog 4 t5_1 h).bind fun t6_2 =>
(unV Try.prog .not t6_2).bind fun t7_3 =>
(gd (wt t7_3 true) (nilCheckV (gdV (wt t7_3 true) x0))).bind fun t10_4 =>
(gd (wt t7_3 true) (fieldAddrV Try.prog 83 t10_4 0)).bind fun t11_5 =>
(gd (wt t7_3 true) (loadV Try.prog 23 t11_5 h)).bind fun t12_6 =>
(gd (wt t7_3 true) (lenV Try.prog 23 t12_6 h)).bind fun t13_7 =>
(gd (wt t7_3 true) (binV Try.prog .eql 3 (.tmp 13) (.const (Go.Value.int Go.IntKind.i64 0)) t13_7 (Go.Value.int Go.IntKind.i64 0))).bind fun t14_8 =>
(pickV t7_3 t14_8 (Go.Value.bool Bool.false)).bind fun t15_9 =>
k .ret ⟨#[x0, x1, t15_9, x0, t4_0, t5_1, t6_2, t7_3, t7_3, (gdV (wt t7_3 true) x0), t10_4, t11_5, t12_6, t13_7, t14_8, t15_9], h⟩ := by kernel_rfl
theorem call56 (x0 : Value) (h : Heap) : evC Try.prog 56 #[x0] h = codeK Try.prog (evC Try.prog) loopL c56_0 ⟨#[x0, undef, undef, undef, undef, undef, undef, undef, undef, undef, undef, undef, undef, undef, undef, undef], nm h⟩ (retK Try.f56 Try.prog h) :=
  (evC_call 56 Try.f56 c56_0 Try.func56 (by kernel_rfl) #[x0] h).trans (by kernel_rfl)
theorem ret56 (x0 x1 x2 x3 x4 x5 x6 x7 x8 x9 x10 x11 x12 x13 x14 x15 : Value) (h0 h : Heap) : retK Try.f56 Try.prog h0 .ret ⟨#[x0, x1, x2, x3, x4, x5, x6, x7, x8, x9, x10, x11, x12, x13, x14, x15], h⟩ = fin h0 (some x2) h := by kernel_rfl
theorem retn56 (x0 x1 x2 x3 x4 x5 x6 x7 x8 x9 x10 x11 x12 x13 x14 x15 : Value) (h0 h : Heap) : retK Try.f56 Try.prog h0 .normal ⟨#[x0, x1, x2, x3, x4, x5, x6, x7, x8, x9, x10, x11, x12, x13, x14, x15], h⟩ = fin h0 (some x2) h := by kernel_rfl
end Go.Am
namespace Go.Am
open Go.Proofs
set_option maxRecDepth 100000
noncomputable def c99_0 : Code := bodyC Try.f99 []
theorem c99_0_eq {β : Type} (x0 x1 x2 x3 x4 x5 x6 x7 : Value) (h : Heap) (k : Ex → St → Option β) : codeK Try.prog (evC Try.prog) loopL c99_0 ⟨#[x0, x1, x2, x3, x4, x5, x6, x7], h⟩ k =
(nilCheckV x0).bind fun t4_0 =>
(fieldAddrV Try.prog 83 t4_0 1).bind fun t5_1 =>
(storeV Try.prog 4 t5_1 (Go.Value.bool Bool.true) h).bind fun h2 =>
(nilCheckV x0).bind fun t6_3 =>
(fieldAddrV Try.prog 83 t6_3 0).bind fun t7_4 =>
(storeV Try.prog 23 t7_4 (Go.Value.slice Option.none 0 0) h2).bind fun h5 =>
k .normal ⟨#[x0, x1, x0, x0, t4_0, t5_1, t6_3, t7_4], h5⟩ := by kernel_rfl
theorem call99 (x0 : Value) (h : Heap) : evC Try.prog 99 #[x0] h = codeK Try.prog (evC Try.prog) loopL c99_0 ⟨#[x0, undef, undef, undef, undef, undef, undef, undef], nm h⟩ (retK Try.f99 Try.prog h) :=
  (evC_call 99 Try.f99 c99_0 Try.func99 (by kernel_rfl) #[x0] h).trans (by kernel_rfl)
theorem ret99 (x0 x1 x2 x3 x4 x5 x6 x7 : Value) (h0 h : Heap) : retK Try.f99 Try.prog h0 .ret ⟨#[x0, x1, x2, x3, x4, x5, x6, x7], h⟩ = fin h0 (some (.tuple #[])) h := by kernel_rfl
theorem retn99 (x0 x1 x2 x3 x4 x5 x6 x7 : Value) (h0 h : Heap) : retK Try.f99 Try.prog h0 .normal ⟨#[x0, x1, x2, x3, x4, x5, x6, x7], h⟩ = fin h0 (some (.tuple #[])) h := by kernel_rfl
end Go.Am
namespace Go.Am
open Go.Proofs
set_option maxRecDepth 100000
noncomputable def c49_0 : Code := bodyC Try.f49 []
theorem c49_0_eq {β : Type} (x0 x1 x2 x3 x4 x5 x6 x7 x8 x9 x10 x11 x12 x13 x14 x15 x16 x17 x18 x19 x20 x21 x22 x23 x24 x25 x26 x27 x28 x29 x30 x31 x32 x33 x34 : Value) (h : Heap) (k : Ex → St → Option β) : codeK Try.prog (evC Try.prog) loopL c49_0 ⟨#[x0, x1, x2, x3, x4, x5, x6, x7, x8, x9, x10, x11, x12, x13, x14, x15, x16, x17, x18, x19, x20, x21, x22, x23, x24, x25, x26, x27, x28, x29, x30, x31, x32, x33, x34], h⟩ k =
(nilCheckV x0).bind fun t9_0 =>
(fieldAddrV Try.prog 150 t9_0 0).bind fun t10_1 =>
(loadV Try.prog 23 t10_1 h).bind fun t11_2 =>
obH (evC Try.prog 96 #[t11_2] h) fun t12_3 h4 =>
(extractV t12_3 0).bind fun t13_5 =>
(extractV t12_3 1).bind fun t14_6 =>
(binV Try.prog .eql 3 (.tmp 16) (.const (Go.Value.int Go.IntKind.i64 0)) t14_6 (Go.Value.int Go.IntKind.i64 0)).bind fun t17_7 =>
obH (gdH (wt t17_7 false) h4 (evC Try.prog 100 #[(gdV (wt t17_7 false) t13_5), (gdV (wt t17_7 false) x1)] h4)) fun t21_8 h9 =>
(gd (wt t17_7 false) (unV Try.prog .not t21_8)).bind fun t22_10 =>
(pickV t17_7 (Go.Value.bool Bool.true) t22_10).bind fun t23_11 =>
obH (evC Try.prog 97 #[x0, t23_11] h9) fun t24_12 h13 =>
cnd t24_12 (
k .ret ⟨#[x0, x1, x2, x3, (Go.Value.int Go.IntKind.u64 0), t13_5, t14_6, t12_3, x0, t9_0, t10_1, t11_2, t12_3, t13_5, t14_6, x0, t14_6, t17_7, t17_7, (gdV (wt t17_7 false) t13_5), (gdV (wt t17_7 false) x1), t21_8, t22_10, t23_11, t24_12, x25, x26, x27, x28, x29, x30, x31, x32, x33, x34], h13⟩) (
(nilCheckV x0).bind fun t27_14 =>
(fieldAddrV Try.prog 150 t27_14 0).bind fun t28_15 =>
(loadV Try.prog 23 t28_15 h13).bind fun t29_16 =>
(sliceV Try.prog 23 t29_16 (some t14_6) none none h13).bind fun t31_17 =>
(nilCheckV x0).bind fun t32_18 =>
(fieldAddrV Try.prog 150 t32_18 0).bind fun t33_19 =>
(storeV Try.prog 23 t33_19 t31_17 h13).bind fun h20 =>
k .ret ⟨#[x0, x1, x2, x3, t13_5, t13_5, t14_6, t12_3, x0, t9_0, t10_1, t11_2, t12_3, t13_5, t14_6, x0, t14_6, t17_7, t17_7, (gdV (wt t17_7 false) t13_5), (gdV (wt t17_7 false) x1), t21_8, t22_10, t23_11, t24_12, x0, x0, t27_14, t28_15, t29_16, t14_6, t31_17, t32_18, t33_19, t13_5], h20⟩) := by kernel_rfl
theorem call49 (x0 x1 : Value) (h : Heap) : evC Try.prog 49 #[x0, x1] h = codeK Try.prog (evC Try.prog) loopL c49_0 ⟨#[x0, x1, undef, undef, undef, undef, undef, undef, undef, undef, undef, undef, undef, undef, undef, undef, undef, undef, undef, undef, undef, undef, undef, undef, undef, undef, undef, undef, undef, undef, undef, undef, undef, undef, undef], nm h⟩ (retK Try.f49 Try.prog h) :=
  (evC_call 49 Try.f49 c49_0 Try.func49 (by kernel_rfl) #[x0, x1] h).trans (by kernel_rfl)
theorem ret49 (x0 x1 x2 x3 x4 x5 x6 x7 x8 x9 x10 x11 x12 x13 x14 x15 x16 x17 x18 x19 x20 x21 x22 x23 x24 x25 x26 x27 x28 x29 x30 x31 x32 x33 x34 : Value) (h0 h : Heap) : retK Try.f49 Try.prog h0 .ret ⟨#[x0, x1, x2, x3, x4, x5, x6, x7, x8, x9, x10, x11, x12, x13, x14, x15, x16, x17, x18, x19, x20, x21, x22, x23, x24, x25, x26, x27, x28, x29, x30, x31, x32, x33, x34], h⟩ = fin h0 (some x4) h := by kernel_rfl
theorem retn49 (x0 x1 x2 x3 x4 x5 x6 x7 x8 x9 x10 x11 x12 x13 x14 x15 x16 x17 x18 x19 x20 x21 x22 x23 x24 x25 x26 x27 x28 x29 x30 x31 x32 x33 x34 : Value) (h0 h : Heap) : retK Try.f49 Try.prog h0 .normal ⟨#[x0, x1, x2, x3, x4, x5, x6, x7, x8, x9, x10, x11, x12, x13, x14, x15, x16, x17, x18, x19, x20, x21, x22, x23, x24, x25, x26, x27, x28, x29, x30, x31, x32, x33, x34], h⟩ = fin h0 (some x4) h := by kernel_rfl
end Go.Am
namespace Go.Am
open Go.Proofs
set_option maxRecDepth 100000
noncomputable def c52_0 : Code := bodyC Try.f52 []
noncomputable def c52_1 : Code := bodyC Try.f52 [true, true, true, false, true, false, false]
noncomputable def c52_2 : Code := bodyC Try.f52 [true, true, true, true]
theorem c52_0_eq {β : Type} (x0 x1 x2 x3 x4 x5 x6 x7 x8 x9 x10 x11 x12 x13 x14 x15 x16 x17 x18 x19 x20 x21 x22 x23 x24 x25 x26 x27 x28 x29 x30 x31 x32 : Value) (h : Heap) (k : Ex → St → Option β) : codeK Try.prog (evC Try.prog) loopL c52_0 ⟨#[x0, x1, x2, x3, x4, x5, x6, x7, x8, x9, x10, x11, x12, x13, x14, x15, x16, x17, x18, x19, x20, x21, x22, x23, x24, x25, x26, x27, x28, x29, x30, x31, x32], h⟩ k =
obH (evC Try.prog 102 #[x0, (Go.Value.int Go.IntKind.u64 8)] h) fun t10_0 h1 =>
(lenV Try.prog 23 t10_0 h1).bind fun t12_2 =>
loopK Try.prog (evC Try.prog) c52_1 ⟨#[x0, x1, (Go.Value.float Go.FloatKind.f64 0), (Go.Value.int Go.IntKind.u64 0), t10_0, x5, x6, x7, x8, x0, t10_0, t10_0, t12_2, (Go.Value.int Go.IntKind.i64 0), x14, x15, x16, x17, x18, x19, x20, x21, x22, x23, x24, x25, x26, x27, x28, x29, x30, x31, x32], h1⟩ (blockK 0 (seqK Try.prog (evC Try.prog) c52_2 k)) := by kernel_rfl
theorem c52_1_eq {β : Type} (x0 x1 x2 x3 x4 x5 x6 x7 x8 x9 x10 x11 x12 x13 x14 x15 x16 x17 x18 x19 x20 x21 x22 x23 x24 x25 x26 x27 x28 x29 x30 x31 x32 : Value) (h : Heap) (k : Ex → St → Option β) : codeK Try.prog (evC Try.prog) loopL c52_1 ⟨#[x0, x1, x2, x3, x4, x5, x6, x7, x8, x9, x10, x11, x12, x13, x14, x15, x16, x17, x18, x19, x20, x21, x22, x23, x24, x25, x26, x27, x28, x29, x30, x31, x32], h⟩ k =
(binV Try.prog .lss 3 (.tmp 13) (.tmp 12) x13 x12).bind fun t14_3 =>
cnd t14_3 (
(indexAddrV Try.prog 23 x11 x13).bind fun t15_4 =>
(loadV Try.prog 5 t15_4 h).bind fun t16_5 =>
(binV Try.prog .shl 46 (.tmp 17) (.const (Go.Value.int Go.IntKind.u64 8)) x3 (Go.Value.int Go.IntKind.u64 8)).bind fun t18_6 =>
obH (convV Try.prog 5 46 t16_5 h) fun t20_7 h8 =>
(binV Try.prog .or 46 (.tmp 18) (.tmp 20) t18_6 t20_7).bind fun t21_9 =>
(binV Try.prog .add 3 (.tmp 13) (.const (Go.Value.int Go.IntKind.i64 1)) x13 (Go.Value.int Go.IntKind.i64 1)).bind fun t22_10 =>
k .normal ⟨#[x0, x1, x2, t21_9, x4, x5, t16_5, x7, x8, x9, x10, x11, x12, t22_10, t14_3, t15_4, t16_5, x3, t18_6, t16_5, t20_7, t21_9, t22_10, x23, x24, x25, x26, x27, x28, x29, x30, x31, x32], h8⟩) (
k (.exit 0) ⟨#[x0, x1, x2, x3, x4, x5, x6, x7, x8, x9, x10, x11, x12, x13, t14_3, x15, x16, x17, x18, x19, x20, x21, x22, x23, x24, x25, x26, x27, x28, x29, x30, x31, x32], h⟩) := by kernel_rfl
theorem c52_2_eq {β : Type} (x0 x1 x2 x3 x4 x5 x6 x7 x8 x9 x10 x11 x12 x13 x14 x15 x16 x17 x18 x19 x20 x21 x22 x23 x24 x25 x26 x27 x28 x29 x30 x31 x32 : Value) (h : Heap) (k : Ex → St → Option β) : codeK Try.prog (evC Try.prog) loopL c52_2 ⟨#[x0, x1, x2, x3, x4, x5, x6, x7, x8, x9, x10, x11, x12, x13, x14, x15, x16, x17, x18, x19, x20, x21, x22, x23, x24, x25, x26, x27, x28, x29, x30, x31, x32], h⟩ k =
obH (evC Try.prog 103 #[x3] h) fun t25_11 h12 =>
(extractV t25_11 0).bind fun t26_13 =>
(extractV t25_11 1).bind fun t27_14 =>
(unV Try.prog .not t27_14).bind fun t30_15 =>
obH (evC Try.prog 97 #[x0, t30_15] h12) fun t31_16 h17 =>
cnd t31_16 (
k .ret ⟨#[x0, x1, (Go.Value.float Go.FloatKind.f64 0), x3, x4, x5, x6, t26_13, t27_14, x9, x10, x11, x12, x13, x14, x15, x16, x17, x18, x19, x20, x21, x22, t25_11, x3, t25_11, t26_13, t27_14, x0, t27_14, t30_15, t31_16, x32], h17⟩) (
k .ret ⟨#[x0, x1, t26_13, x3, x4, x5, x6, t26_13, t27_14, x9, x10, x11, x12, x13, x14, x15, x16, x17, x18, x19, x20, x21, x22, t25_11, x3, t25_11, t26_13, t27_14, x0, t27_14, t30_15, t31_16, t26_13], h17⟩) := by kernel_rfl
theorem call52 (x0 : Value) (h : Heap) : evC Try.prog 52 #[x0] h = codeK Try.prog (evC Try.prog) loopL c52_0 ⟨#[x0, undef, undef, undef, undef, undef, undef, undef, undef, undef, undef, undef, undef, undef, undef, undef, undef, undef, undef, undef, undef, undef, undef, undef, undef, undef, undef, undef, undef, undef, undef, undef, undef], nm h⟩ (retK Try.f52 Try.prog h) :=
  (evC_call 52 Try.f52 c52_0 Try.func52 (by kernel_rfl) #[x0] h).trans (by kernel_rfl)
theorem ret52 (x0 x1 x2 x3 x4 x5 x6 x7 x8 x9 x10 x11 x12 x13 x14 x15 x16 x17 x18 x19 x20 x21 x22 x23 x24 x25 x26 x27 x28 x29 x30 x31 x32 : Value) (h0 h : Heap) : retK Try.f52 Try.prog h0 .ret ⟨#[x0, x1, x2, x3, x4, x5, x6, x7, x8, x9, x10, x11, x12, x13, x14, x15, x16, x17, x18, x19, x20, x21, x22, x23, x24, x25, x26, x27, x28, x29, x30, x31, x32], h⟩ = fin h0 (some x2) h := by kernel_rfl
theorem retn52 (x0 x1 x2 x3 x4 x5 x6 x7 x8 x9 x10 x11 x12 x13 x14 x15 x16 x17 x18 x19 x20 x21 x22 x23 x24 x25 x26 x27 x28 x29 x30 x31 x32 : Value) (h0 h : Heap) : retK Try.f52 Try.prog h0 .normal ⟨#[x0, x1, x2, x3, x4, x5, x6, x7, x8, x9, x10, x11, x12, x13, x14, x15, x16, x17, x18, x19, x20, x21, x22, x23, x24, x25, x26, x27, x28, x29, x30, x31, x32], h⟩ = fin h0 (some x2) h := by kernel_rfl
end Go.Am
namespace Go.Am
open Go.Proofs
set_option maxRecDepth 100000
noncomputable def c57_0 : Code := bodyC Try.f57 []
noncomputable def c57_1 : Code := bodyC Try.f57 [true, true, false, false]
theorem c57_0_eq {β : Type} (x0 x1 x2 x3 x4 x5 x6 x7 x8 x9 x10 x11 x12 x13 x14 x15 x16 x17 x18 x19 x20 x21 x22 x23 x24 x25 : Value) (h : Heap) (k : Ex → St → Option β) : codeK Try.prog (evC Try.prog) loopL c57_0 ⟨#[x0, x1, x2, x3, x4, x5, x6, x7, x8, x9, x10, x11, x12, x13, x14, x15, x16, x17, x18, x19, x20, x21, x22, x23, x24, x25], h⟩ k =
obH (evC Try.prog 105 #[x1] h) fun t7_0 h1 =>
loopK Try.prog (evC Try.prog) c57_1 ⟨#[x0, x1, x2, x3, t7_0, (Go.Value.int Go.IntKind.i64 7), x1, t7_0, x8, x9, x10, x11, x12, x13, x14, x15, x16, x17, x18, x19, x20, x21, x22, x23, x24, x25], h1⟩ (blockK 0 k) := by kernel_rfl
theorem c57_1_eq {β : Type} (x0 x1 x2 x3 x4 x5 x6 x7 x8 x9 x10 x11 x12 x13 x14 x15 x16 x17 x18 x19 x20 x21 x22 x23 x24 x25 : Value) (h : Heap) (k : Ex → St → Option β) : codeK Try.prog (evC Try.prog) loopL c57_1 ⟨#[x0, x1, x2, x3, x4, x5, x6, x7, x8, x9, x10, x11, x12, x13, x14, x15, x16, x17, x18, x19, x20, x21, x22, x23, x24, x25], h⟩ k =
(binV Try.prog .geq 3 (.tmp 8) (.const (Go.Value.int Go.IntKind.i64 0)) x5 (Go.Value.int Go.IntKind.i64 0)).bind fun t9_2 =>
cnd t9_2 (
(nilCheckV x0).bind fun t14_3 =>
(fieldAddrV Try.prog 146 t14_3 0).bind fun t15_4 =>
(loadV Try.prog 23 t15_4 h).bind fun t16_5 =>
(binV Try.prog .mul 3 (.const (Go.Value.int Go.IntKind.i64 8)) (.tmp 18) (Go.Value.int Go.IntKind.i64 8) x5).bind fun t19_6 =>
(binV Try.prog .shr 46 (.tmp 17) (.tmp 19) x4 t19_6).bind fun t20_7 =>
obH (convV Try.prog 46 5 t20_7 h) fun t21_8 h9 =>
obH (buildSliceV Try.prog 23 1 #[(0, t21_8)] h9) fun t22_10 h11 =>
obH (appendV Try.prog 23 (some 23) t16_5 t22_10 h11) fun t23_12 h13 =>
(nilCheckV x0).bind fun t24_14 =>
(fieldAddrV Try.prog 146 t24_14 0).bind fun t25_15 =>
(storeV Try.prog 23 t25_15 t23_12 h13).bind fun h16 =>
(binV Try.prog .sub 3 (.tmp 10) (.const (Go.Value.int Go.IntKind.i64 1)) x5 (Go.Value.int Go.IntKind.i64 1)).bind fun t11_17 =>
k .normal ⟨#[x0, x1, x2, x3, x4, t11_17, x6, x7, x5, t9_2, x5, t11_17, x0, x0, t14_3, t15_4, t16_5, x4, x5, t19_6, t20_7, t21_8, t22_10, t23_12, t24_14, t25_15], h16⟩) (
k (.exit 0) ⟨#[x0, x1, x2, x3, x4, x5, x6, x7, x5, t9_2, x10, x11, x12, x13, x14, x15, x16, x17, x18, x19, x20, x21, x22, x23, x24, x25], h⟩) := by kernel_rfl
theorem call57 (x0 x1 : Value) (h : Heap) : evC Try.prog 57 #[x0, x1] h = codeK Try.prog (evC Try.prog) loopL c57_0 ⟨#[x0, x1, undef, undef, undef, undef, undef, undef, undef, undef, undef, undef, undef, undef, undef, undef, undef, undef, undef, undef, undef, undef, undef, undef, undef, undef], nm h⟩ (retK Try.f57 Try.prog h) :=
  (evC_call 57 Try.f57 c57_0 Try.func57 (by kernel_rfl) #[x0, x1] h).trans (by kernel_rfl)
theorem ret57 (x0 x1 x2 x3 x4 x5 x6 x7 x8 x9 x10 x11 x12 x13 x14 x15 x16 x17 x18 x19 x20 x21 x22 x23 x24 x25 : Value) (h0 h : Heap) : retK Try.f57 Try.prog h0 .ret ⟨#[x0, x1, x2, x3, x4, x5, x6, x7, x8, x9, x10, x11, x12, x13, x14, x15, x16, x17, x18, x19, x20, x21, x22, x23, x24, x25], h⟩ = fin h0 (some (.tuple #[])) h := by kernel_rfl
theorem retn57 (x0 x1 x2 x3 x4 x5 x6 x7 x8 x9 x10 x11 x12 x13 x14 x15 x16 x17 x18 x19 x20 x21 x22 x23 x24 x25 : Value) (h0 h : Heap) : retK Try.f57 Try.prog h0 .normal ⟨#[x0, x1, x2, x3, x4, x5, x6, x7, x8, x9, x10, x11, x12, x13, x14, x15, x16, x17, x18, x19, x20, x21, x22, x23, x24, x25], h⟩ = fin h0 (some (.tuple #[])) h := by kernel_rfl
end Go.Am
namespace Go.Am
open Go.Proofs
set_option maxRecDepth 100000
noncomputable def c59_0 : Code := bodyC Try.f59 []
theorem c59_0_eq {β : Type} (x0 x1 x2 x3 x4 x5 x6 : Value) (h : Heap) (k : Ex → St → Option β) : codeK Try.prog (evC Try.prog) loopL c59_0 ⟨#[x0, x1, x2, x3, x4, x5, x6], h⟩ k =
obH (evC Try.prog 43 #[x0, x1] h) fun t6_0 h1 =>
k .normal ⟨#[x0, x1, x2, x3, x0, x1, t6_0], h1⟩ := by kernel_rfl
theorem call59 (x0 x1 : Value) (h : Heap) : evC Try.prog 59 #[x0, x1] h = codeK Try.prog (evC Try.prog) loopL c59_0 ⟨#[x0, x1, undef, undef, undef, undef, undef], nm h⟩ (retK Try.f59 Try.prog h) :=
  (evC_call 59 Try.f59 c59_0 Try.func59 (by kernel_rfl) #[x0, x1] h).trans (by kernel_rfl)
theorem ret59 (x0 x1 x2 x3 x4 x5 x6 : Value) (h0 h : Heap) : retK Try.f59 Try.prog h0 .ret ⟨#[x0, x1, x2, x3, x4, x5, x6], h⟩ = fin h0 (some (.tuple #[])) h := by kernel_rfl
theorem retn59 (x0 x1 x2 x3 x4 x5 x6 : Value) (h0 h : Heap) : retK Try.f59 Try.prog h0 .normal ⟨#[x0, x1, x2, x3, x4, x5, x6], h⟩ = fin h0 (some (.tuple #[])) h := by kernel_rfl
end Go.Am
namespace Go.Am
open Go.Proofs
set_option maxRecDepth 100000
noncomputable def c50_0 : Code := bodyC Try.f50 []
theorem c50_0_eq {β : Type} (x0 x1 x2 x3 x4 x5 x6 x7 x8 x9 x10 x11 x12 x13 x14 x15 x16 x17 x18 x19 x20 x21 x22 x23 x24 x25 x26 x27 x28 x29 x30 x31 x32 x33 x34 x35 x36 x37 x38 x39 x40 : Value) (h : Heap) (k : Ex → St → Option β) : codeK Try.prog (evC Try.prog) loopL c50_0 ⟨#[x0, x1, x2, x3, x4, x5, x6, x7, x8, x9, x10, x11, x12, x13, x14, x15, x16, x17, x18, x19, x20, x21, x22, x23, x24, x25, x26, x27, x28, x29, x30, x31, x32, x33, x34, x35, x36, x37, x38, x39, x40], h⟩ k =
(nilCheckV x0).bind fun t9_0 =>
(fieldAddrV Try.prog 83 t9_0 0).bind fun t10_1 =>
(loadV Try.prog 23 t10_1 h).bind fun t11_2 =>
obH (evC Try.prog 98 #[t11_2] h) fun t12_3 h4 =>
(extractV t12_3 0).bind fun t13_5 =>
(extractV t12_3 1).bind fun t14_6 =>
(nilCheckV x0).bind fun t16_7 =>
(fieldAddrV Try.prog 83 t16_7 1).bind fun t17_8 =>
(loadV Try.prog 4 t17_8 h4).bind fun t18_9 =>
(gd (wt t18_9 false) (binV Try.prog .eql 3 (.tmp 20) (.const (Go.Value.int Go.IntKind.i64 0)) (gdV (wt t18_9 false) t14_6) (Go.Value.int Go.IntKind.i64 0))).bind fun t21_10 =>
(pickV t18_9 (Go.Value.bool Bool.true) t21_10).bind fun t22_11 =>
(gd (wt t22_11 false) (binV Try.prog .andNot 46 (.tmp 24) (.tmp 25) (gdV (wt t22_11 false) t13_5) (gdV (wt t22_11 false) x1))).bind fun t26_12 =>
(gd (wt t22_11 false) (binV Try.prog .neq 46 (.tmp 26) (.const (Go.Value.int Go.IntKind.u64 0)) t26_12 (Go.Value.int Go.IntKind.u64 0))).bind fun t27_13 =>
(pickV t22_11 (Go.Value.bool Bool.true) t27_13).bind fun t28_14 =>
cnd t28_14 (
obH (evC Try.prog 99 #[x0] h4) fun t30_15 h16 =>
k .ret ⟨#[x0, x1, x2, x3, (Go.Value.int Go.IntKind.u64 0), t13_5, t14_6, t12_3, x0, t9_0, t10_1, t11_2, t12_3, t13_5, t14_6, x0, t16_7, t17_8, t18_9, t18_9, (gdV (wt t18_9 false) t14_6), t21_10, t22_11, t22_11, (gdV (wt t22_11 false) t13_5), (gdV (wt t22_11 false) x1), t26_12, t27_13, t28_14, x0, t30_15, x31, x32, x33, x34, x35, x36, x37, x38, x39, x40], h16⟩) (
(nilCheckV x0).bind fun t33_17 =>
(fieldAddrV Try.prog 83 t33_17 0).bind fun t34_18 =>
(loadV Try.prog 23 t34_18 h4).bind fun t35_19 =>
(sliceV Try.prog 23 t35_19 (some t14_6) none none h4).bind fun t37_20 =>
(nilCheckV x0).bind fun t38_21 =>
(fieldAddrV Try.prog 83 t38_21 0).bind fun t39_22 =>
(storeV Try.prog 23 t39_22 t37_20 h4).bind fun h23 =>
k .ret ⟨#[x0, x1, x2, x3, t13_5, t13_5, t14_6, t12_3, x0, t9_0, t10_1, t11_2, t12_3, t13_5, t14_6, x0, t16_7, t17_8, t18_9, t18_9, (gdV (wt t18_9 false) t14_6), t21_10, t22_11, t22_11, (gdV (wt t22_11 false) t13_5), (gdV (wt t22_11 false) x1), t26_12, t27_13, t28_14, x29, x30, x0, x0, t33_17, t34_18, t35_19, t14_6, t37_20, t38_21, t39_22, t13_5], h23⟩) := by kernel_rfl
theorem call50 (x0 x1 : Value) (h : Heap) : evC Try.prog 50 #[x0, x1] h = codeK Try.prog (evC Try.prog) loopL c50_0 ⟨#[x0, x1, undef, undef, undef, undef, undef, undef, undef, undef, undef, undef, undef, undef, undef, undef, undef, undef, undef, undef, undef, undef, undef, undef, undef, undef, undef, undef, undef, undef, undef, undef, undef, undef, undef, undef, undef, undef, undef, undef, undef], nm h⟩ (retK Try.f50 Try.prog h) :=
  (evC_call 50 Try.f50 c50_0 Try.func50 (by kernel_rfl) #[x0, x1] h).trans (by kernel_rfl)
theorem ret50 (x0 x1 x2 x3 x4 x5 x6 x7 x8 x9 x10 x11 x12 x13 x14 x15 x16 x17 x18 x19 x20 x21 x22 x23 x24 x25 x26 x27 x28 x29 x30 x31 x32 x33 x34 x35 x36 x37 x38 x39 x40 : Value) (h0 h : Heap) : retK Try.f50 Try.prog h0 .ret ⟨#[x0, x1, x2, x3, x4, x5, x6, x7, x8, x9, x10, x11, x12, x13, x14, x15, x16, x17, x18, x19, x20, x21, x22, x23, x24, x25, x26, x27, x28, x29, x30, x31, x32, x33, x34, x35, x36, x37, x38, x39, x40], h⟩ = fin h0 (some x4) h := by kernel_rfl
theorem retn50 (x0 x1 x2 x3 x4 x5 x6 x7 x8 x9 x10 x11 x12 x13 x14 x15 x16 x17 x18 x19 x20 x21 x22 x23 x24 x25 x26 x27 x28 x29 x30 x31 x32 x33 x34 x35 x36 x37 x38 x39 x40 : Value) (h0 h : Heap) : retK Try.f50 Try.prog h0 .normal ⟨#[x0, x1, x2, x3, x4, x5, x6, x7, x8, x9, x10, x11, x12, x13, x14, x15, x16, x17, x18, x19, x20, x21, x22, x23, x24, x25, x26, x27, x28, x29, x30, x31, x32, x33, x34, x35, x36, x37, x38, x39, x40], h⟩ = fin h0 (some x4) h := by kernel_rfl
end Go.Am
namespace Go.Am
open Go.Proofs
set_option maxRecDepth 100000
noncomputable def c53_0 : Code := bodyC Try.f53 []
noncomputable def c53_1 : Code := bodyC Try.f53 [true, true, true, false, true, false, false]
noncomputable def c53_2 : Code := bodyC Try.f53 [true, true, true, true]
theorem c53_0_eq {β : Type} (x0 x1 x2 x3 x4 x5 x6 x7 x8 x9 x10 x11 x12 x13 x14 x15 x16 x17 x18 x19 x20 x21 x22 x23 x24 x25 x26 x27 x28 x29 x30 x31 x32 x33 x34 x35 x36 x37 x38 x39 x40 x41 x42 x43 x44 x45 x46 x47 x48 x49 x50 x51 x52 x53 : Value) (h : Heap) (k : Ex → St → Option β) : codeK Try.prog (evC Try.prog) loopL c53_0 ⟨#[x0, x1, x2, x3, x4, x5, x6, x7, x8, x9, x10, x11, x12, x13, x14, x15, x16, x17, x18, x19, x20, x21, x22, x23, x24, x25, x26, x27, x28, x29, x30, x31, x32, x33, x34, x35, x36, x37, x38, x39, x40, x41, x42, x43, x44, x45, x46, x47, x48, x49, x50, x51, x52, x53], h⟩ k =
(nilCheckV x0).bind fun t8_0 =>
(fieldAddrV Try.prog 83 t8_0 1).bind fun t9_1 =>
(loadV Try.prog 4 t9_1 h).bind fun t10_2 =>
(gd (wt t10_2 false) (nilCheckV (gdV (wt t10_2 false) x0))).bind fun t13_3 =>
(gd (wt t10_2 false) (fieldAddrV Try.prog 83 t13_3 0)).bind fun t14_4 =>
(gd (wt t10_2 false) (loadV Try.prog 23 t14_4 h)).bind fun t15_5 =>
(gd (wt t10_2 false) (lenV Try.prog 23 t15_5 h)).bind fun t16_6 =>
(gd (wt t10_2 false) (binV Try.prog .lss 3 (.tmp 16) (.const (Go.Value.int Go.IntKind.i64 8)) t16_6 (Go.Value.int Go.IntKind.i64 8))).bind fun t17_7 =>
(pickV t10_2 (Go.Value.bool Bool.true) t17_7).bind fun t18_8 =>
cnd t18_8 (
obH (evC Try.prog 99 #[x0] h) fun t20_9 h10 =>
k .ret ⟨#[x0, x1, (Go.Value.float Go.FloatKind.f64 0), x3, x4, x5, x6, x0, t8_0, t9_1, t10_2, t10_2, (gdV (wt t10_2 false) x0), t13_3, t14_4, t15_5, t16_6, t17_7, t18_8, x0, t20_9, x21, x22, x23, x24, x25, x26, x27, x28, x29, x30, x31, x32, x33, x34, x35, x36, x37, x38, x39, x40, x41, x42, x43, x44, x45, x46, x47, x48, x49, x50, x51, x52, x53], h10⟩) (
loopK Try.prog (evC Try.prog) c53_1 ⟨#[x0, x1, (Go.Value.float Go.FloatKind.f64 0), (Go.Value.int Go.IntKind.u64 0), (Go.Value.int Go.IntKind.i64 0), x5, x6, x0, t8_0, t9_1, t10_2, t10_2, (gdV (wt t10_2 false) x0), t13_3, t14_4, t15_5, t16_6, t17_7, t18_8, x19, x20, x21, x22, x23, x24, x25, x26, x27, x28, x29, x30, x31, x32, x33, x34, x35, x36, x37, x38, x39, x40, x41, x42, x43, x44, x45, x46, x47, x48, x49, x50, x51, x52, x53], h⟩ (blockK 0 (seqK Try.prog (evC Try.prog) c53_2 k))) := by kernel_rfl
theorem c53_1_eq {β : Type} (x0 x1 x2 x3 x4 x5 x6 x7 x8 x9 x10 x11 x12 x13 x14 x15 x16 x17 x18 x19 x20 x21 x22 x23 x24 x25 x26 x27 x28 x29 x30 x31 x32 x33 x34 x35 x36 x37 x38 x39 x40 x41 x42 x43 x44 x45 x46 x47 x48 x49 x50 x51 x52 x53 : Value) (h : Heap) (k : Ex → St → Option β) : codeK Try.prog (evC Try.prog) loopL c53_1 ⟨#[x0, x1, x2, x3, x4, x5, x6, x7, x8, x9, x10, x11, x12, x13, x14, x15, x16, x17, x18, x19, x20, x21, x22, x23, x24, x25, x26, x27, x28, x29, x30, x31, x32, x33, x34, x35, x36, x37, x38, x39, x40, x41, x42, x43, x44, x45, x46, x47, x48, x49, x50, x51, x52, x53], h⟩ k =
(binV Try.prog .lss 3 (.tmp 21) (.const (Go.Value.int Go.IntKind.i64 8)) x4 (Go.Value.int Go.IntKind.i64 8)).bind fun t22_11 =>
cnd t22_11 (
(binV Try.prog .shl 46 (.tmp 25) (.const (Go.Value.int Go.IntKind.u64 8)) x3 (Go.Value.int Go.IntKind.u64 8)).bind fun t26_12 =>
(nilCheckV x0).bind fun t28_13 =>
(fieldAddrV Try.prog 83 t28_13 0).bind fun t29_14 =>
(loadV Try.prog 23 t29_14 h).bind fun t30_15 =>
(indexAddrV Try.prog 23 t30_15 x4).bind fun t32_16 =>
(loadV Try.prog 5 t32_16 h).bind fun t33_17 =>
obH (convV Try.prog 5 46 t33_17 h) fun t34_18 h19 =>
(binV Try.prog .or 46 (.tmp 26) (.tmp 34) t26_12 t34_18).bind fun t35_20 =>
(binV Try.prog .add 3 (.tmp 23) (.const (Go.Value.int Go.IntKind.i64 1)) x4 (Go.Value.int Go.IntKind.i64 1)).bind fun t24_21 =>
k .normal ⟨#[x0, x1, x2, t35_20, t24_21, x5, x6, x7, x8, x9, x10, x11, x12, x13, x14, x15, x16, x17, x18, x19, x20, x4, t22_11, x4, t24_21, x3, t26_12, x0, t28_13, t29_14, t30_15, x4, t32_16, t33_17, t34_18, t35_20, x36, x37, x38, x39, x40, x41, x42, x43, x44, x45, x46, x47, x48, x49, x50, x51, x52, x53], h19⟩) (
k (.exit 0) ⟨#[x0, x1, x2, x3, x4, x5, x6, x7, x8, x9, x10, x11, x12, x13, x14, x15, x16, x17, x18, x19, x20, x4, t22_11, x23, x24, x25, x26, x27, x28, x29, x30, x31, x32, x33, x34, x35, x36, x37, x38, x39, x40, x41, x42, x43, x44, x45, x46, x47, x48, x49, x50, x51, x52, x53], h⟩) := by kernel_rfl
theorem c53_2_eq {β : Type} (x0 x1 x2 x3 x4 x5 x6 x7 x8 x9 x10 x11 x12 x13 x14 x15 x16 x17 x18 x19 x20 x21 x22 x23 x24 x25 x26 x27 x28 x29 x30 x31 x32 x33 x34 x35 x36 x37 x38 x39 x40 x41 x42 x43 x44 x45 x46 x47 x48 x49 x50 x51 x52 x53 : Value) (h : Heap) (k : Ex → St → Option β) : codeK Try.prog (evC Try.prog) loopL c53_2 ⟨#[x0, x1, x2, x3, x4, x5, x6, x7, x8, x9, x10, x11, x12, x13, x14, x15, x16, x17, x18, x19, x20, x21, x22, x23, x24, x25, x26, x27, x28, x29, x30, x31, x32, x33, x34, x35, x36, x37, x38, x39, x40, x41, x42, x43, x44, x45, x46, x47, x48, x49, x50, x51, x52, x53], h⟩ k =
obH (evC Try.prog 104 #[x3] h) fun t38_22 h23 =>
(extractV t38_22 0).bind fun t39_24 =>
(extractV t38_22 1).bind fun t40_25 =>
(unV Try.prog .not t40_25).bind fun t42_26 =>
cnd t42_26 (
obH (evC Try.prog 99 #[x0] h23) fun t44_27 h28 =>
k .ret ⟨#[x0, x1, (Go.Value.float Go.FloatKind.f64 0), x3, x4, t39_24, t40_25, x7, x8, x9, x10, x11, x12, x13, x14, x15, x16, x17, x18, x19, x20, x21, x22, x23, x24, x25, x26, x27, x28, x29, x30, x31, x32, x33, x34, x35, t38_22, x3, t38_22, t39_24, t40_25, t40_25, t42_26, x0, t44_27, x45, x46, x47, x48, x49, x50, x51, x52, x53], h28⟩) (
(nilCheckV x0).bind fun t47_29 =>
(fieldAddrV Try.prog 83 t47_29 0).bind fun t48_30 =>
(loadV Try.prog 23 t48_30 h23).bind fun t49_31 =>
(sliceV Try.prog 23 t49_31 (some (Go.Value.int Go.IntKind.i64 8)) none none h23).bind fun t50_32 =>
(nilCheckV x0).bind fun t51_33 =>
(fieldAddrV Try.prog 83 t51_33 0).bind fun t52_34 =>
(storeV Try.prog 23 t52_34 t50_32 h23).bind fun h35 =>
k .ret ⟨#[x0, x1, t39_24, x3, x4, t39_24, t40_25, x7, x8, x9, x10, x11, x12, x13, x14, x15, x16, x17, x18, x19, x20, x21, x22, x23, x24, x25, x26, x27, x28, x29, x30, x31, x32, x33, x34, x35, t38_22, x3, t38_22, t39_24, t40_25, t40_25, t42_26, x43, x44, x0, x0, t47_29, t48_30, t49_31, t50_32, t51_33, t52_34, t39_24], h35⟩) := by kernel_rfl
theorem call53 (x0 : Value) (h : Heap) : evC Try.prog 53 #[x0] h = codeK Try.prog (evC Try.prog) loopL c53_0 ⟨#[x0, undef, undef, undef, undef, undef, undef, undef, undef, undef, undef, undef, undef, undef, undef, undef, undef, undef, undef, undef, undef, undef, undef, undef, undef, undef, undef, undef, undef, undef, undef, undef, undef, undef, undef, undef, undef, undef, undef, undef, undef, undef, undef, undef, undef, undef, undef, undef, undef, undef, undef, undef, undef, undef], nm h⟩ (retK Try.f53 Try.prog h) :=
  (evC_call 53 Try.f53 c53_0 Try.func53 (by kernel_rfl) #[x0] h).trans (by kernel_rfl)
theorem ret53 (x0 x1 x2 x3 x4 x5 x6 x7 x8 x9 x10 x11 x12 x13 x14 x15 x16 x17 x18 x19 x20 x21 x22 x23 x24 x25 x26 x27 x28 x29 x30 x31 x32 x33 x34 x35 x36 x37 x38 x39 x40 x41 x42 x43 x44 x45 x46 x47 x48 x49 x50 x51 x52 x53 : Value) (h0 h : Heap) : retK Try.f53 Try.prog h0 .ret ⟨#[x0, x1, x2, x3, x4, x5, x6, x7, x8, x9, x10, x11, x12, x13, x14, x15, x16, x17, x18, x19, x20, x21, x22, x23, x24, x25, x26, x27, x28, x29, x30, x31, x32, x33, x34, x35, x36, x37, x38, x39, x40, x41, x42, x43, x44, x45, x46, x47, x48, x49, x50, x51, x52, x53], h⟩ = fin h0 (some x2) h := by kernel_rfl
theorem retn53 (x0 x1 x2 x3 x4 x5 x6 x7 x8 x9 x10 x11 x12 x13 x14 x15 x16 x17 x18 x19 x20 x21 x22 x23 x24 x25 x26 x27 x28 x29 x30 x31 x32 x33 x34 x35 x36 x37 x38 x39 x40 x41 x42 x43 x44 x45 x46 x47 x48 x49 x50 x51 x52 x53 : Value) (h0 h : Heap) : retK Try.f53 Try.prog h0 .normal ⟨#[x0, x1, x2, x3, x4, x5, x6, x7, x8, x9, x10, x11, x12, x13, x14, x15, x16, x17, x18, x19, x20, x21, x22, x23, x24, x25, x26, x27, x28, x29, x30, x31, x32, x33, x34, x35, x36, x37, x38, x39, x40, x41, x42, x43, x44, x45, x46, x47, x48, x49, x50, x51, x52, x53], h⟩ = fin h0 (some x2) h := by kernel_rfl
end Go.Am
namespace Go.Am
open Go.Proofs
set_option maxRecDepth 100000
noncomputable def c60_0 : Code := bodyC Try.f60 []
noncomputable def c60_1 : Code := bodyC Try.f60 [true, true, false, false]
theorem c60_0_eq {β : Type} (x0 x1 x2 x3 x4 x5 x6 x7 x8 x9 x10 x11 x12 x13 x14 x15 x16 x17 x18 x19 x20 x21 x22 x23 x24 x25 x26 x27 : Value) (h : Heap) (k : Ex → St → Option β) : codeK Try.prog (evC Try.prog) loopL c60_0 ⟨#[x0, x1, x2, x3, x4, x5, x6, x7, x8, x9, x10, x11, x12, x13, x14, x15, x16, x17, x18, x19, x20, x21, x22, x23, x24, x25, x26, x27], h⟩ k =
obH (evC Try.prog 107 #[x1] h) fun t7_0 h1 =>
loopK Try.prog (evC Try.prog) c60_1 ⟨#[x0, x1, x2, x3, t7_0, (Go.Value.int Go.IntKind.i64 0), x1, t7_0, x8, x9, x10, x11, x12, x13, x14, x15, x16, x17, x18, x19, x20, x21, x22, x23, x24, x25, x26, x27], h1⟩ (blockK 0 k) := by kernel_rfl
theorem c60_1_eq {β : Type} (x0 x1 x2 x3 x4 x5 x6 x7 x8 x9 x10 x11 x12 x13 x14 x15 x16 x17 x18 x19 x20 x21 x22 x23 x24 x25 x26 x27 : Value) (h : Heap) (k : Ex → St → Option β) : codeK Try.prog (evC Try.prog) loopL c60_1 ⟨#[x0, x1, x2, x3, x4, x5, x6, x7, x8, x9, x10, x11, x12, x13, x14, x15, x16, x17, x18, x19, x20, x21, x22, x23, x24, x25, x26, x27], h⟩ k =
(binV Try.prog .lss 3 (.tmp 8) (.const (Go.Value.int Go.IntKind.i64 8)) x5 (Go.Value.int Go.IntKind.i64 8)).bind fun t9_2 =>
cnd t9_2 (
(nilCheckV x0).bind fun t14_3 =>
(fieldAddrV Try.prog 97 t14_3 0).bind fun t15_4 =>
(loadV Try.prog 23 t15_4 h).bind fun t16_5 =>
(binV Try.prog .mul 3 (.const (Go.Value.int Go.IntKind.i64 8)) (.tmp 18) (Go.Value.int Go.IntKind.i64 8) x5).bind fun t19_6 =>
(binV Try.prog .sub 3 (.const (Go.Value.int Go.IntKind.i64 56)) (.tmp 19) (Go.Value.int Go.IntKind.i64 56) t19_6).bind fun t20_7 =>
obH (convV Try.prog 3 138 t20_7 h) fun t21_8 h9 =>
(binV Try.prog .shr 46 (.tmp 17) (.tmp 21) x4 t21_8).bind fun t22_10 =>
obH (convV Try.prog 46 5 t22_10 h9) fun t23_11 h12 =>
obH (buildSliceV Try.prog 23 1 #[(0, t23_11)] h12) fun t24_13 h14 =>
obH (appendV Try.prog 23 (some 23) t16_5 t24_13 h14) fun t25_15 h16 =>
(nilCheckV x0).bind fun t26_17 =>
(fieldAddrV Try.prog 97 t26_17 0).bind fun t27_18 =>
(storeV Try.prog 23 t27_18 t25_15 h16).bind fun h19 =>
(binV Try.prog .add 3 (.tmp 10) (.const (Go.Value.int Go.IntKind.i64 1)) x5 (Go.Value.int Go.IntKind.i64 1)).bind fun t11_20 =>
k .normal ⟨#[x0, x1, x2, x3, x4, t11_20, x6, x7, x5, t9_2, x5, t11_20, x0, x0, t14_3, t15_4, t16_5, x4, x5, t19_6, t20_7, t21_8, t22_10, t23_11, t24_13, t25_15, t26_17, t27_18], h19⟩) (
k (.exit 0) ⟨#[x0, x1, x2, x3, x4, x5, x6, x7, x5, t9_2, x10, x11, x12, x13, x14, x15, x16, x17, x18, x19, x20, x21, x22, x23, x24, x25, x26, x27], h⟩) := by kernel_rfl
theorem call60 (x0 x1 : Value) (h : Heap) : evC Try.prog 60 #[x0, x1] h = codeK Try.prog (evC Try.prog) loopL c60_0 ⟨#[x0, x1, undef, undef, undef, undef, undef, undef, undef, undef, undef, undef, undef, undef, undef, undef, undef, undef, undef, undef, undef, undef, undef, undef, undef, undef, undef, undef], nm h⟩ (retK Try.f60 Try.prog h) :=
  (evC_call 60 Try.f60 c60_0 Try.func60 (by kernel_rfl) #[x0, x1] h).trans (by kernel_rfl)
theorem ret60 (x0 x1 x2 x3 x4 x5 x6 x7 x8 x9 x10 x11 x12 x13 x14 x15 x16 x17 x18 x19 x20 x21 x22 x23 x24 x25 x26 x27 : Value) (h0 h : Heap) : retK Try.f60 Try.prog h0 .ret ⟨#[x0, x1, x2, x3, x4, x5, x6, x7, x8, x9, x10, x11, x12, x13, x14, x15, x16, x17, x18, x19, x20, x21, x22, x23, x24, x25, x26, x27], h⟩ = fin h0 (some (.tuple #[])) h := by kernel_rfl
theorem retn60 (x0 x1 x2 x3 x4 x5 x6 x7 x8 x9 x10 x11 x12 x13 x14 x15 x16 x17 x18 x19 x20 x21 x22 x23 x24 x25 x26 x27 : Value) (h0 h : Heap) : retK Try.f60 Try.prog h0 .normal ⟨#[x0, x1, x2, x3, x4, x5, x6, x7, x8, x9, x10, x11, x12, x13, x14, x15, x16, x17, x18, x19, x20, x21, x22, x23, x24, x25, x26, x27], h⟩ = fin h0 (some (.tuple #[])) h := by kernel_rfl
end Go.Am
namespace Go.Am
open Go.Proofs
set_option maxRecDepth 100000
noncomputable def c100_0 : Code := bodyC Try.f100 []
theorem c100_0_eq {β : Type} (x0 x1 x2 x3 x4 x5 x6 x7 x8 : Value) (h : Heap) (k : Ex → St → Option β) : codeK Try.prog (evC Try.prog) loopL c100_0 ⟨#[x0, x1, x2, x3, x4, x5, x6, x7, x8], h⟩ k =
(binV Try.prog .andNot 47 (.tmp 5) (.tmp 6) x0 x1).bind fun t7_0 =>
(binV Try.prog .eql 47 (.tmp 7) (.const (Go.Value.int Go.IntKind.u64 0)) t7_0 (Go.Value.int Go.IntKind.u64 0)).bind fun t8_1 =>
k .ret ⟨#[x0, x1, x2, x3, t8_1, x0, x1, t7_0, t8_1], h⟩ := by kernel_rfl
theorem call100 (x0 x1 : Value) (h : Heap) : evC Try.prog 100 #[x0, x1] h = codeK Try.prog (evC Try.prog) loopL c100_0 ⟨#[x0, x1, undef, undef, undef, undef, undef, undef, undef], nm h⟩ (retK Try.f100 Try.prog h) :=
  (evC_call 100 Try.f100 c100_0 Try.func100 (by kernel_rfl) #[x0, x1] h).trans (by kernel_rfl)
theorem ret100 (x0 x1 x2 x3 x4 x5 x6 x7 x8 : Value) (h0 h : Heap) : retK Try.f100 Try.prog h0 .ret ⟨#[x0, x1, x2, x3, x4, x5, x6, x7, x8], h⟩ = fin h0 (some x4) h := by kernel_rfl
theorem retn100 (x0 x1 x2 x3 x4 x5 x6 x7 x8 : Value) (h0 h : Heap) : retK Try.f100 Try.prog h0 .normal ⟨#[x0, x1, x2, x3, x4, x5, x6, x7, x8], h⟩ = fin h0 (some x4) h := by kernel_rfl
end Go.Am
namespace Go.Am
open Go.Proofs
set_option maxRecDepth 100000
noncomputable def c41_0 : Code := bodyC Try.f41 []
theorem c41_0_eq {β : Type} (x0 x1 x2 x3 x4 x5 x6 x7 x8 x9 x10 x11 x12 x13 x14 x15 x16 x17 x18 x19 x20 x21 x22 x23 x24 x25 x26 x27 x28 x29 x30 x31 x32 x33 x34 x35 : Value) (h : Heap) (k : Ex → St → Option β) : codeK Try.prog (evC Try.prog) loopL c41_0 ⟨#[x0, x1, x2, x3, x4, x5, x6, x7, x8, x9, x10, x11, x12, x13, x14, x15, x16, x17, x18, x19, x20, x21, x22, x23, x24, x25, x26, x27, x28, x29, x30, x31, x32, x33, x34, x35], h⟩ k =
obH (evC Try.prog 42 #[] h) fun t3_0 h1 =>
(binV Try.prog .eql 71 (.tmp 4) (.const (Go.Value.pointer Option.none)) t3_0 (Go.Value.pointer Option.none)).bind fun t5_2 =>
cnd t5_2 (
k .ret ⟨#[(Go.Value.bool Bool.false), t3_0, x2, t3_0, t3_0, t5_2, x6, x7, x8, x9, x10, x11, x12, x13, x14, x15, x16, x17, x18, x19, x20, x21, x22, x23, x24, x25, x26, x27, x28, x29, x30, x31, x32, x33, x34, x35], h1⟩) (
obH (evC Try.prog 43 #[t3_0, (Go.Value.int Go.IntKind.u64 300)] h1) fun t7_3 h4 =>
obH (buildSliceV Try.prog 23 1 #[(0, (Go.Value.int Go.IntKind.u8 97))] h4) fun t9_5 h6 =>
obH (convV Try.prog 23 23 t9_5 h6) fun t10_7 h8 =>
obH (evC Try.prog 61 #[t3_0, t10_7] h8) fun t11_9 h10 =>
obH (evC Try.prog 44 #[t3_0] h10) fun t13_11 h12 =>
obH (evC Try.prog 45 #[t13_11] h12) fun t14_13 h14 =>
(binV Try.prog .eql 76 (.tmp 15) (.const (Go.Value.pointer Option.none)) t14_13 (Go.Value.pointer Option.none)).bind fun t16_15 =>
cnd t16_15 (
k .ret ⟨#[(Go.Value.bool Bool.false), t3_0, t14_13, t3_0, t3_0, t5_2, t3_0, t7_3, t3_0, t9_5, t10_7, t11_9, t3_0, t13_11, t14_13, t14_13, t16_15, x17, x18, x19, x20, x21, x22, x23, x24, x25, x26, x27, x28, x29, x30, x31, x32, x33, x34, x35], h14⟩) (
obH (evC Try.prog 44 #[t3_0] h14) fun t18_16 h17 =>
obH (convV Try.prog 23 9 t18_16 h17) fun t19_18 h19 =>
(binV Try.prog .eql 9 (.tmp 19) (.const (Go.Value.string { data := #[172, 2, 1, 97] })) t19_18 (Go.Value.string { data := #[172, 2, 1, 97] })).bind fun t20_20 =>
obH (gdH (wt t20_20 true) h19 (evC Try.prog 46 #[(gdV (wt t20_20 true) t14_13), (Go.Value.int Go.IntKind.u64 300)] h19)) fun t23_21 h22 =>
(gd (wt t20_20 true) (binV Try.prog .eql 46 (.tmp 23) (.const (Go.Value.int Go.IntKind.u64 300)) t23_21 (Go.Value.int Go.IntKind.u64 300))).bind fun t24_23 =>
(pickV t20_20 t24_23 (Go.Value.bool Bool.false)).bind fun t25_24 =>
obH (gdH (wt t25_24 true) h22 (evC Try.prog 54 #[(gdV (wt t25_24 true) t14_13), (Go.Value.int Go.IntKind.i64 1)] h22)) fun t28_25 h26 =>
obH (gdH (wt t25_24 true) h26 (convV Try.prog 23 9 t28_25 h26)) fun t29_27 h28 =>
(gd (wt t25_24 true) (binV Try.prog .eql 9 (.tmp 29) (.const (Go.Value.string { data := #[97] })) t29_27 (Go.Value.string { data := #[97] }))).bind fun t30_29 =>
(pickV t25_24 t30_29 (Go.Value.bool Bool.false)).bind fun t31_30 =>
obH (gdH (wt t31_30 true) h28 (evC Try.prog 47 #[(gdV (wt t31_30 true) t14_13)] h28)) fun t34_31 h32 =>
(pickV t31_30 t34_31 (Go.Value.bool Bool.false)).bind fun t35_33 =>
k .ret ⟨#[t35_33, t3_0, t14_13, t3_0, t3_0, t5_2, t3_0, t7_3, t3_0, t9_5, t10_7, t11_9, t3_0, t13_11, t14_13, t14_13, t16_15, t3_0, t18_16, t19_18, t20_20, t20_20, (gdV (wt t20_20 true) t14_13), t23_21, t24_23, t25_24, t25_24, (gdV (wt t25_24 true) t14_13), t28_25, t29_27, t30_29, t31_30, t31_30, (gdV (wt t31_30 true) t14_13), t34_31, t35_33], h32⟩)) := by kernel_rfl
theorem call41 (h : Heap) : evC Try.prog 41 #[] h = codeK Try.prog (evC Try.prog) loopL c41_0 ⟨#[undef, undef, undef, undef, undef, undef, undef, undef, undef, undef, undef, undef, undef, undef, undef, undef, undef, undef, undef, undef, undef, undef, undef, undef, undef, undef, undef, undef, undef, undef, undef, undef, undef, undef, undef, undef], nm h⟩ (retK Try.f41 Try.prog h) :=
  (evC_call 41 Try.f41 c41_0 Try.func41 (by kernel_rfl) #[] h).trans (by kernel_rfl)
theorem ret41 (x0 x1 x2 x3 x4 x5 x6 x7 x8 x9 x10 x11 x12 x13 x14 x15 x16 x17 x18 x19 x20 x21 x22 x23 x24 x25 x26 x27 x28 x29 x30 x31 x32 x33 x34 x35 : Value) (h0 h : Heap) : retK Try.f41 Try.prog h0 .ret ⟨#[x0, x1, x2, x3, x4, x5, x6, x7, x8, x9, x10, x11, x12, x13, x14, x15, x16, x17, x18, x19, x20, x21, x22, x23, x24, x25, x26, x27, x28, x29, x30, x31, x32, x33, x34, x35], h⟩ = fin h0 (some x0) h := by kernel_rfl
theorem retn41 (x0 x1 x2 x3 x4 x5 x6 x7 x8 x9 x10 x11 x12 x13 x14 x15 x16 x17 x18 x19 x20 x21 x22 x23 x24 x25 x26 x27 x28 x29 x30 x31 x32 x33 x34 x35 : Value) (h0 h : Heap) : retK Try.f41 Try.prog h0 .normal ⟨#[x0, x1, x2, x3, x4, x5, x6, x7, x8, x9, x10, x11, x12, x13, x14, x15, x16, x17, x18, x19, x20, x21, x22, x23, x24, x25, x26, x27, x28, x29, x30, x31, x32, x33, x34, x35], h⟩ = fin h0 (some x0) h := by kernel_rfl
end Go.Am
namespace Go.Am
open Go.Proofs
set_option maxRecDepth 100000
noncomputable def c9_0 : Code := bodyC Try.f9 []
noncomputable def c9_1 : Code := bodyC Try.f9 [true, true, true, true, false, true, false, false]
noncomputable def c9_2 : Code := bodyC Try.f9 [true, true, true, true, true]
theorem c9_0_eq {β : Type} (x0 x1 x2 x3 x4 x5 x6 x7 x8 x9 x10 x11 x12 x13 x14 x15 x16 x17 x18 x19 x20 x21 x22 x23 x24 x25 x26 x27 x28 x29 x30 x31 x32 x33 x34 x35 x36 x37 x38 x39 x40 x41 x42 x43 x44 x45 x46 x47 x48 x49 x50 x51 x52 x53 x54 x55 x56 x57 x58 x59 x60 x61 x62 x63 x64 x65 x66 x67 x68 x69 x70 x71 x72 x73 x74 x75 x76 x77 x78 x79 x80 x81 x82 x83 x84 x85 x86 x87 x88 x89 x90 x91 x92 x93 x94 x95 : Value) (h : Heap) (k : Ex → St → Option β) : codeK Try.prog (evC Try.prog) loopL c9_0 ⟨#[x0, x1, x2, x3, x4, x5, x6, x7, x8, x9, x10, x11, x12, x13, x14, x15, x16, x17, x18, x19, x20, x21, x22, x23, x24, x25, x26, x27, x28, x29, x30, x31, x32, x33, x34, x35, x36, x37, x38, x39, x40, x41, x42, x43, x44, x45, x46, x47, x48, x49, x50, x51, x52, x53, x54, x55, x56, x57, x58, x59, x60, x61, x62, x63, x64, x65, x66, x67, x68, x69, x70, x71, x72, x73, x74, x75, x76, x77, x78, x79, x80, x81, x82, x83, x84, x85, x86, x87, x88, x89, x90, x91, x92, x93, x94, x95], h⟩ k =
obH (evC Try.prog 41 #[] h) fun t11_0 h1 =>
(unV Try.prog .not t11_0).bind fun t12_2 =>
cnd t12_2 (
k .ret ⟨#[x0, x1, x2, x3, x4, x5, (Go.Value.bool Bool.false), x7, x8, x9, x10, t11_0, t12_2, x13, x14, x15, x16, x17, x18, x19, x20, x21, x22, x23, x24, x25, x26, x27, x28, x29, x30, x31, x32, x33, x34, x35, x36, x37, x38, x39, x40, x41, x42, x43, x44, x45, x46, x47, x48, x49, x50, x51, x52, x53, x54, x55, x56, x57, x58, x59, x60, x61, x62, x63, x64, x65, x66, x67, x68, x69, x70, x71, x72, x73, x74, x75, x76, x77, x78, x79, x80, x81, x82, x83, x84, x85, x86, x87, x88, x89, x90, x91, x92, x93, x94, x95], h1⟩) (
(lenV Try.prog 23 x0 h1).bind fun t14_3 =>
(binV Try.prog .gtr 3 (.tmp 14) (.const (Go.Value.int Go.IntKind.i64 200)) t14_3 (Go.Value.int Go.IntKind.i64 200)).bind fun t15_4 =>
(gd (wt t15_4 false) (lenV Try.prog 80 (gdV (wt t15_4 false) x1) h1)).bind fun t18_5 =>
(gd (wt t15_4 false) (binV Try.prog .gtr 3 (.tmp 18) (.const (Go.Value.int Go.IntKind.i64 30)) t18_5 (Go.Value.int Go.IntKind.i64 30))).bind fun t19_6 =>
(pickV t15_4 (Go.Value.bool Bool.true) t19_6).bind fun t20_7 =>
cnd t20_7 (
k .ret ⟨#[x0, x1, x2, x3, x4, x5, (Go.Value.bool Bool.true), x7, x8, x9, x10, t11_0, t12_2, x0, t14_3, t15_4, t15_4, (gdV (wt t15_4 false) x1), t18_5, t19_6, t20_7, x21, x22, x23, x24, x25, x26, x27, x28, x29, x30, x31, x32, x33, x34, x35, x36, x37, x38, x39, x40, x41, x42, x43, x44, x45, x46, x47, x48, x49, x50, x51, x52, x53, x54, x55, x56, x57, x58, x59, x60, x61, x62, x63, x64, x65, x66, x67, x68, x69, x70, x71, x72, x73, x74, x75, x76, x77, x78, x79, x80, x81, x82, x83, x84, x85, x86, x87, x88, x89, x90, x91, x92, x93, x94, x95], h1⟩) (
obH (evC Try.prog 45 #[x0] h1) fun t22_8 h9 =>
(buildV Try.prog 83 #[(0, x0)]).bind fun t24_10 =>
obH (boxV Try.prog 83 t24_10 h9) fun t25_11 h12 =>
loopK Try.prog (evC Try.prog) c9_1 ⟨#[x0, x1, x2, x3, x4, x5, (Go.Value.bool Bool.false), t22_8, t25_11, (Go.Value.int Go.IntKind.i64 0), x10, t11_0, t12_2, x0, t14_3, t15_4, t15_4, (gdV (wt t15_4 false) x1), t18_5, t19_6, t20_7, x0, t22_8, x0, t24_10, t25_11, x26, x27, x28, x29, x30, x31, x32, x33, x34, x35, x36, x37, x38, x39, x40, x41, x42, x43, x44, x45, x46, x47, x48, x49, x50, x51, x52, x53, x54, x55, x56, x57, x58, x59, x60, x61, x62, x63, x64, x65, x66, x67, x68, x69, x70, x71, x72, x73, x74, x75, x76, x77, x78, x79, x80, x81, x82, x83, x84, x85, x86, x87, x88, x89, x90, x91, x92, x93, x94, x95], h12⟩ (blockK 0 (seqK Try.prog (evC Try.prog) c9_2 k)))) := by kernel_rfl
theorem c9_1_eq {β : Type} (x0 x1 x2 x3 x4 x5 x6 x7 x8 x9 x10 x11 x12 x13 x14 x15 x16 x17 x18 x19 x20 x21 x22 x23 x24 x25 x26 x27 x28 x29 x30 x31 x32 x33 x34 x35 x36 x37 x38 x39 x40 x41 x42 x43 x44 x45 x46 x47 x48 x49 x50 x51 x52 x53 x54 x55 x56 x57 x58 x59 x60 x61 x62 x63 x64 x65 x66 x67 x68 x69 x70 x71 x72 x73 x74 x75 x76 x77 x78 x79 x80 x81 x82 x83 x84 x85 x86 x87 x88 x89 x90 x91 x92 x93 x94 x95 : Value) (h : Heap) (k : Ex → St → Option β) : codeK Try.prog (evC Try.prog) loopL c9_1 ⟨#[x0, x1, x2, x3, x4, x5, x6, x7, x8, x9, x10, x11, x12, x13, x14, x15, x16, x17, x18, x19, x20, x21, x22, x23, x24, x25, x26, x27, x28, x29, x30, x31, x32, x33, x34, x35, x36, x37, x38, x39, x40, x41, x42, x43, x44, x45, x46, x47, x48, x49, x50, x51, x52, x53, x54, x55, x56, x57, x58, x59, x60, x61, x62, x63, x64, x65, x66, x67, x68, x69, x70, x71, x72, x73, x74, x75, x76, x77, x78, x79, x80, x81, x82, x83, x84, x85, x86, x87, x88, x89, x90, x91, x92, x93, x94, x95], h⟩ k =
(lenV Try.prog 80 x1 h).bind fun t28_13 =>
(binV Try.prog .lss 3 (.tmp 26) (.tmp 28) x9 t28_13).bind fun t29_14 =>
cnd t29_14 (
(indexAddrV Try.prog 80 x1 x9).bind fun t34_15 =>
(fieldAddrV Try.prog 86 t34_15 0).bind fun t35_16 =>
(loadV Try.prog 3 t35_16 h).bind fun t36_17 =>
(binV Try.prog .eql 3 (.tmp 36) (.const (Go.Value.int Go.IntKind.i64 0)) t36_17 (Go.Value.int Go.IntKind.i64 0)).bind fun t47_18 =>
cnd t47_18 (
(indexAddrV Try.prog 80 x1 x9).bind fun t51_19 =>
(fieldAddrV Try.prog 86 t51_19 1).bind fun t52_20 =>
(loadV Try.prog 46 t52_20 h).bind fun t53_21 =>
obH (evC Try.prog 46 #[x7, t53_21] (nm h)) fun t54_22 h23 =>
(indexAddrV Try.prog 80 x1 x9).bind fun t58_24 =>
(fieldAddrV Try.prog 86 t58_24 1).bind fun t59_25 =>
(loadV Try.prog 46 t59_25 (am h23 h)).bind fun t60_26 =>
obH (evC Try.prog 48 #[x8, t60_26] (am h23 h)) fun t61_27 h28 =>
(binV Try.prog .eql 46 (.tmp 54) (.tmp 61) t54_22 t61_27).bind fun t62_29 =>
chk ((rb t59_25) ++ []) (h23.mods ++ []) (
(unV Try.prog .not t62_29).bind fun t88_30 =>
obH (gdH (wt t88_30 false) h28 (evC Try.prog 47 #[(gdV (wt t88_30 false) x7)] h28)) fun t91_31 h32 =>
obH (gdH (wt t88_30 false) h32 (evC Try.prog 56 #[(gdV (wt t88_30 false) x8)] h32)) fun t93_33 h34 =>
(gd (wt t88_30 false) (binV Try.prog .neq 4 (.tmp 91) (.tmp 93) t91_31 t93_33)).bind fun t94_35 =>
(pickV t88_30 (Go.Value.bool Bool.true) t94_35).bind fun t95_36 =>
cnd t95_36 (
k .ret ⟨#[x0, x1, x2, x3, x4, x5, (Go.Value.bool Bool.false), x7, x8, x9, t62_29, x11, x12, x13, x14, x15, x16, x17, x18, x19, x20, x21, x22, x23, x24, x25, x9, x1, t28_13, t29_14, x30, x31, x1, x9, t34_15, t35_16, t36_17, x37, x38, x39, x40, x41, x42, x43, x44, x45, t47_18, t47_18, x7, x1, x9, t51_19, t52_20, t53_21, t54_22, x8, x1, x9, t58_24, t59_25, t60_26, t61_27, t62_29, x63, x64, x65, x66, x67, x68, x69, x70, x71, x72, x73, x74, x75, x76, x77, x78, x79, x80, x81, x82, x83, x84, x85, x86, t62_29, t88_30, t88_30, (gdV (wt t88_30 false) x7), t91_31, (gdV (wt t88_30 false) x8), t93_33, t94_35, t95_36], h34⟩) (
(binV Try.prog .add 3 (.tmp 30) (.const (Go.Value.int Go.IntKind.i64 1)) x9 (Go.Value.int Go.IntKind.i64 1)).bind fun t31_37 =>
k .normal ⟨#[x0, x1, x2, x3, x4, x5, x6, x7, x8, t31_37, t62_29, x11, x12, x13, x14, x15, x16, x17, x18, x19, x20, x21, x22, x23, x24, x25, x9, x1, t28_13, t29_14, x9, t31_37, x1, x9, t34_15, t35_16, t36_17, x37, x38, x39, x40, x41, x42, x43, x44, x45, t47_18, t47_18, x7, x1, x9, t51_19, t52_20, t53_21, t54_22, x8, x1, x9, t58_24, t59_25, t60_26, t61_27, t62_29, x63, x64, x65, x66, x67, x68, x69, x70, x71, x72, x73, x74, x75, x76, x77, x78, x79, x80, x81, x82, x83, x84, x85, x86, t62_29, t88_30, t88_30, (gdV (wt t88_30 false) x7), t91_31, (gdV (wt t88_30 false) x8), t93_33, t94_35, t95_36], h34⟩))) (
(binV Try.prog .eql 3 (.tmp 36) (.const (Go.Value.int Go.IntKind.i64 1)) t36_17 (Go.Value.int Go.IntKind.i64 1)).bind fun t64_38 =>
cnd t64_38 (
(indexAddrV Try.prog 80 x1 x9).bind fun t68_39 =>
(fieldAddrV Try.prog 86 t68_39 1).bind fun t69_40 =>
(loadV Try.prog 46 t69_40 h).bind fun t70_41 =>
obH (evC Try.prog 49 #[x7, t70_41] (nm h)) fun t71_42 h43 =>
(indexAddrV Try.prog 80 x1 x9).bind fun t75_44 =>
(fieldAddrV Try.prog 86 t75_44 1).bind fun t76_45 =>
(loadV Try.prog 46 t76_45 (am h43 h)).bind fun t77_46 =>
obH (evC Try.prog 50 #[x8, t77_46] (am h43 h)) fun t78_47 h48 =>
(binV Try.prog .eql 46 (.tmp 71) (.tmp 78) t71_42 t78_47).bind fun t79_49 =>
chk ((rb t76_45) ++ []) (h43.mods ++ []) (
(unV Try.prog .not t79_49).bind fun t88_50 =>
obH (gdH (wt t88_50 false) h48 (evC Try.prog 47 #[(gdV (wt t88_50 false) x7)] h48)) fun t91_51 h52 =>
obH (gdH (wt t88_50 false) h52 (evC Try.prog 56 #[(gdV (wt t88_50 false) x8)] h52)) fun t93_53 h54 =>
(gd (wt t88_50 false) (binV Try.prog .neq 4 (.tmp 91) (.tmp 93) t91_51 t93_53)).bind fun t94_55 =>
(pickV t88_50 (Go.Value.bool Bool.true) t94_55).bind fun t95_56 =>
cnd t95_56 (
k .ret ⟨#[x0, x1, x2, x3, x4, x5, (Go.Value.bool Bool.false), x7, x8, x9, t79_49, x11, x12, x13, x14, x15, x16, x17, x18, x19, x20, x21, x22, x23, x24, x25, x9, x1, t28_13, t29_14, x30, x31, x1, x9, t34_15, t35_16, t36_17, x37, x38, x39, x40, x41, x42, x43, x44, x45, t47_18, t47_18, x48, x49, x50, x51, x52, x53, x54, x55, x56, x57, x58, x59, x60, x61, x62, t64_38, t64_38, x7, x1, x9, t68_39, t69_40, t70_41, t71_42, x8, x1, x9, t75_44, t76_45, t77_46, t78_47, t79_49, x80, x81, x82, x83, x84, x85, x86, t79_49, t88_50, t88_50, (gdV (wt t88_50 false) x7), t91_51, (gdV (wt t88_50 false) x8), t93_53, t94_55, t95_56], h54⟩) (
(binV Try.prog .add 3 (.tmp 30) (.const (Go.Value.int Go.IntKind.i64 1)) x9 (Go.Value.int Go.IntKind.i64 1)).bind fun t31_57 =>
k .normal ⟨#[x0, x1, x2, x3, x4, x5, x6, x7, x8, t31_57, t79_49, x11, x12, x13, x14, x15, x16, x17, x18, x19, x20, x21, x22, x23, x24, x25, x9, x1, t28_13, t29_14, x9, t31_57, x1, x9, t34_15, t35_16, t36_17, x37, x38, x39, x40, x41, x42, x43, x44, x45, t47_18, t47_18, x48, x49, x50, x51, x52, x53, x54, x55, x56, x57, x58, x59, x60, x61, x62, t64_38, t64_38, x7, x1, x9, t68_39, t69_40, t70_41, t71_42, x8, x1, x9, t75_44, t76_45, t77_46, t78_47, t79_49, x80, x81, x82, x83, x84, x85, x86, t79_49, t88_50, t88_50, (gdV (wt t88_50 false) x7), t91_51, (gdV (wt t88_50 false) x8), t93_53, t94_55, t95_56], h54⟩))) (
(binV Try.prog .eql 3 (.tmp 36) (.const (Go.Value.int Go.IntKind.i64 2)) t36_17 (Go.Value.int Go.IntKind.i64 2)).bind fun t81_58 =>
cnd t81_58 (
obH (evC Try.prog 52 #[x7] h) fun t83_59 h60 =>
obH (evC Try.prog 53 #[x8] h60) fun t85_61 h62 =>
obH (evC Try.prog 51 #[t83_59, t85_61] h62) fun t86_63 h64 =>
(unV Try.prog .not t86_63).bind fun t88_65 =>
obH (gdH (wt t88_65 false) h64 (evC Try.prog 47 #[(gdV (wt t88_65 false) x7)] h64)) fun t91_66 h67 =>
obH (gdH (wt t88_65 false) h67 (evC Try.prog 56 #[(gdV (wt t88_65 false) x8)] h67)) fun t93_68 h69 =>
(gd (wt t88_65 false) (binV Try.prog .neq 4 (.tmp 91) (.tmp 93) t91_66 t93_68)).bind fun t94_70 =>
(pickV t88_65 (Go.Value.bool Bool.true) t94_70).bind fun t95_71 =>
cnd t95_71 (
k .ret ⟨#[x0, x1, x2, x3, x4, x5, (Go.Value.bool Bool.false), x7, x8, x9, t86_63, x11, x12, x13, x14, x15, x16, x17, x18, x19, x20, x21, x22, x23, x24, x25, x9, x1, t28_13, t29_14, x30, x31, x1, x9, t34_15, t35_16, t36_17, x37, x38, x39, x40, x41, x42, x43, x44, x45, t47_18, t47_18, x48, x49, x50, x51, x52, x53, x54, x55, x56, x57, x58, x59, x60, x61, x62, t64_38, t64_38, x65, x66, x67, x68, x69, x70, x71, x72, x73, x74, x75, x76, x77, x78, x79, t81_58, t81_58, x7, t83_59, x8, t85_61, t86_63, t86_63, t88_65, t88_65, (gdV (wt t88_65 false) x7), t91_66, (gdV (wt t88_65 false) x8), t93_68, t94_70, t95_71], h69⟩) (
(binV Try.prog .add 3 (.tmp 30) (.const (Go.Value.int Go.IntKind.i64 1)) x9 (Go.Value.int Go.IntKind.i64 1)).bind fun t31_72 =>
k .normal ⟨#[x0, x1, x2, x3, x4, x5, x6, x7, x8, t31_72, t86_63, x11, x12, x13, x14, x15, x16, x17, x18, x19, x20, x21, x22, x23, x24, x25, x9, x1, t28_13, t29_14, x9, t31_72, x1, x9, t34_15, t35_16, t36_17, x37, x38, x39, x40, x41, x42, x43, x44, x45, t47_18, t47_18, x48, x49, x50, x51, x52, x53, x54, x55, x56, x57, x58, x59, x60, x61, x62, t64_38, t64_38, x65, x66, x67, x68, x69, x70, x71, x72, x73, x74, x75, x76, x77, x78, x79, t81_58, t81_58, x7, t83_59, x8, t85_61, t86_63, t86_63, t88_65, t88_65, (gdV (wt t88_65 false) x7), t91_66, (gdV (wt t88_65 false) x8), t93_68, t94_70, t95_71], h69⟩)) (
obH (evC Try.prog 54 #[x7, x2] h) fun t39_73 h74 =>
obH (convV Try.prog 23 9 t39_73 h74) fun t40_75 h76 =>
obH (evC Try.prog 55 #[x8, x2] (nm h76)) fun t43_77 h78 =>
obH (convV Try.prog 23 9 t43_77 (am h78 h76)) fun t44_79 h80 =>
(binV Try.prog .eql 9 (.tmp 40) (.tmp 44) t40_75 t44_79).bind fun t45_81 =>
chk ((rb t39_73) ++ []) (h78.mods ++ []) (
(unV Try.prog .not t45_81).bind fun t88_82 =>
obH (gdH (wt t88_82 false) h80 (evC Try.prog 47 #[(gdV (wt t88_82 false) x7)] h80)) fun t91_83 h84 =>
obH (gdH (wt t88_82 false) h84 (evC Try.prog 56 #[(gdV (wt t88_82 false) x8)] h84)) fun t93_85 h86 =>
(gd (wt t88_82 false) (binV Try.prog .neq 4 (.tmp 91) (.tmp 93) t91_83 t93_85)).bind fun t94_87 =>
(pickV t88_82 (Go.Value.bool Bool.true) t94_87).bind fun t95_88 =>
cnd t95_88 (
k .ret ⟨#[x0, x1, x2, x3, x4, x5, (Go.Value.bool Bool.false), x7, x8, x9, t45_81, x11, x12, x13, x14, x15, x16, x17, x18, x19, x20, x21, x22, x23, x24, x25, x9, x1, t28_13, t29_14, x30, x31, x1, x9, t34_15, t35_16, t36_17, x7, x2, t39_73, t40_75, x8, x2, t43_77, t44_79, t45_81, t47_18, t47_18, x48, x49, x50, x51, x52, x53, x54, x55, x56, x57, x58, x59, x60, x61, x62, t64_38, t64_38, x65, x66, x67, x68, x69, x70, x71, x72, x73, x74, x75, x76, x77, x78, x79, t81_58, t81_58, x82, x83, x84, x85, x86, t45_81, t88_82, t88_82, (gdV (wt t88_82 false) x7), t91_83, (gdV (wt t88_82 false) x8), t93_85, t94_87, t95_88], h86⟩) (
(binV Try.prog .add 3 (.tmp 30) (.const (Go.Value.int Go.IntKind.i64 1)) x9 (Go.Value.int Go.IntKind.i64 1)).bind fun t31_89 =>
k .normal ⟨#[x0, x1, x2, x3, x4, x5, x6, x7, x8, t31_89, t45_81, x11, x12, x13, x14, x15, x16, x17, x18, x19, x20, x21, x22, x23, x24, x25, x9, x1, t28_13, t29_14, x9, t31_89, x1, x9, t34_15, t35_16, t36_17, x7, x2, t39_73, t40_75, x8, x2, t43_77, t44_79, t45_81, t47_18, t47_18, x48, x49, x50, x51, x52, x53, x54, x55, x56, x57, x58, x59, x60, x61, x62, t64_38, t64_38, x65, x66, x67, x68, x69, x70, x71, x72, x73, x74, x75, x76, x77, x78, x79, t81_58, t81_58, x82, x83, x84, x85, x86, t45_81, t88_82, t88_82, (gdV (wt t88_82 false) x7), t91_83, (gdV (wt t88_82 false) x8), t93_85, t94_87, t95_88], h86⟩)))))) (
k (.exit 0) ⟨#[x0, x1, x2, x3, x4, x5, x6, x7, x8, x9, x10, x11, x12, x13, x14, x15, x16, x17, x18, x19, x20, x21, x22, x23, x24, x25, x9, x1, t28_13, t29_14, x30, x31, x32, x33, x34, x35, x36, x37, x38, x39, x40, x41, x42, x43, x44, x45, x46, x47, x48, x49, x50, x51, x52, x53, x54, x55, x56, x57, x58, x59, x60, x61, x62, x63, x64, x65, x66, x67, x68, x69, x70, x71, x72, x73, x74, x75, x76, x77, x78, x79, x80, x81, x82, x83, x84, x85, x86, x87, x88, x89, x90, x91, x92, x93, x94, x95], h⟩) := by kernel_rfl
theorem c9_2_eq {β : Type} (x0 x1 x2 x3 x4 x5 x6 x7 x8 x9 x10 x11 x12 x13 x14 x15 x16 x17 x18 x19 x20 x21 x22 x23 x24 x25 x26 x27 x28 x29 x30 x31 x32 x33 x34 x35 x36 x37 x38 x39 x40 x41 x42 x43 x44 x45 x46 x47 x48 x49 x50 x51 x52 x53 x54 x55 x56 x57 x58 x59 x60 x61 x62 x63 x64 x65 x66 x67 x68 x69 x70 x71 x72 x73 x74 x75 x76 x77 x78 x79 x80 x81 x82 x83 x84 x85 x86 x87 x88 x89 x90 x91 x92 x93 x94 x95 : Value) (h : Heap) (k : Ex → St → Option β) : codeK Try.prog (evC Try.prog) loopL c9_2 ⟨#[x0, x1, x2, x3, x4, x5, x6, x7, x8, x9, x10, x11, x12, x13, x14, x15, x16, x17, x18, x19, x20, x21, x22, x23, x24, x25, x26, x27, x28, x29, x30, x31, x32, x33, x34, x35, x36, x37, x38, x39, x40, x41, x42, x43, x44, x45, x46, x47, x48, x49, x50, x51, x52, x53, x54, x55, x56, x57, x58, x59, x60, x61, x62, x63, x64, x65, x66, x67, x68, x69, x70, x71, x72, x73, x74, x75, x76, x77, x78, x79, x80, x81, x82, x83, x84, x85, x86, x87, x88, x89, x90, x91, x92, x93, x94, x95], h⟩ k =
k .ret ⟨#[x0, x1, x2, x3, x4, x5, (Go.Value.bool Bool.true), x7, x8, x9, x10, x11, x12, x13, x14, x15, x16, x17, x18, x19, x20, x21, x22, x23, x24, x25, x26, x27, x28, x29, x30, x31, x32, x33, x34, x35, x36, x37, x38, x39, x40, x41, x42, x43, x44, x45, x46, x47, x48, x49, x50, x51, x52, x53, x54, x55, x56, x57, x58, x59, x60, x61, x62, x63, x64, x65, x66, x67, x68, x69, x70, x71, x72, x73, x74, x75, x76, x77, x78, x79, x80, x81, x82, x83, x84, x85, x86, x87, x88, x89, x90, x91, x92, x93, x94, x95], h⟩ := by kernel_rfl
theorem call9 (x0 x1 x2 : Value) (h : Heap) : evC Try.prog 9 #[x0, x1, x2] h = codeK Try.prog (evC Try.prog) loopL c9_0 ⟨#[x0, x1, x2, undef, undef, undef, undef, undef, undef, undef, undef, undef, undef, undef, undef, undef, undef, undef, undef, undef, undef, undef, undef, undef, undef, undef, undef, undef, undef, undef, undef, undef, undef, undef, undef, undef, undef, undef, undef, undef, undef, undef, undef, undef, undef, undef, undef, undef, undef, undef, undef, undef, undef, undef, undef, undef, undef, undef, undef, undef, undef, undef, undef, undef, undef, undef, undef, undef, undef, undef, undef, undef, undef, undef, undef, undef, undef, undef, undef, undef, undef, undef, undef, undef, undef, undef, undef, undef, undef, undef, undef, undef, undef, undef, undef, undef], nm h⟩ (retK Try.f9 Try.prog h) :=
  (evC_call 9 Try.f9 c9_0 Try.func9 (by kernel_rfl) #[x0, x1, x2] h).trans (by kernel_rfl)
theorem ret9 (x0 x1 x2 x3 x4 x5 x6 x7 x8 x9 x10 x11 x12 x13 x14 x15 x16 x17 x18 x19 x20 x21 x22 x23 x24 x25 x26 x27 x28 x29 x30 x31 x32 x33 x34 x35 x36 x37 x38 x39 x40 x41 x42 x43 x44 x45 x46 x47 x48 x49 x50 x51 x52 x53 x54 x55 x56 x57 x58 x59 x60 x61 x62 x63 x64 x65 x66 x67 x68 x69 x70 x71 x72 x73 x74 x75 x76 x77 x78 x79 x80 x81 x82 x83 x84 x85 x86 x87 x88 x89 x90 x91 x92 x93 x94 x95 : Value) (h0 h : Heap) : retK Try.f9 Try.prog h0 .ret ⟨#[x0, x1, x2, x3, x4, x5, x6, x7, x8, x9, x10, x11, x12, x13, x14, x15, x16, x17, x18, x19, x20, x21, x22, x23, x24, x25, x26, x27, x28, x29, x30, x31, x32, x33, x34, x35, x36, x37, x38, x39, x40, x41, x42, x43, x44, x45, x46, x47, x48, x49, x50, x51, x52, x53, x54, x55, x56, x57, x58, x59, x60, x61, x62, x63, x64, x65, x66, x67, x68, x69, x70, x71, x72, x73, x74, x75, x76, x77, x78, x79, x80, x81, x82, x83, x84, x85, x86, x87, x88, x89, x90, x91, x92, x93, x94, x95], h⟩ = fin h0 (some x6) h := by kernel_rfl
theorem retn9 (x0 x1 x2 x3 x4 x5 x6 x7 x8 x9 x10 x11 x12 x13 x14 x15 x16 x17 x18 x19 x20 x21 x22 x23 x24 x25 x26 x27 x28 x29 x30 x31 x32 x33 x34 x35 x36 x37 x38 x39 x40 x41 x42 x43 x44 x45 x46 x47 x48 x49 x50 x51 x52 x53 x54 x55 x56 x57 x58 x59 x60 x61 x62 x63 x64 x65 x66 x67 x68 x69 x70 x71 x72 x73 x74 x75 x76 x77 x78 x79 x80 x81 x82 x83 x84 x85 x86 x87 x88 x89 x90 x91 x92 x93 x94 x95 : Value) (h0 h : Heap) : retK Try.f9 Try.prog h0 .normal ⟨#[x0, x1, x2, x3, x4, x5, x6, x7, x8, x9, x10, x11, x12, x13, x14, x15, x16, x17, x18, x19, x20, x21, x22, x23, x24, x25, x26, x27, x28, x29, x30, x31, x32, x33, x34, x35, x36, x37, x38, x39, x40, x41, x42, x43, x44, x45, x46, x47, x48, x49, x50, x51, x52, x53, x54, x55, x56, x57, x58, x59, x60, x61, x62, x63, x64, x65, x66, x67, x68, x69, x70, x71, x72, x73, x74, x75, x76, x77, x78, x79, x80, x81, x82, x83, x84, x85, x86, x87, x88, x89, x90, x91, x92, x93, x94, x95], h⟩ = fin h0 (some x6) h := by kernel_rfl
end Go.Am
namespace Go.Am
open Go.Proofs
set_option maxRecDepth 100000
noncomputable def c11_0 : Code := bodyC Try.f11 []
noncomputable def c11_1 : Code := bodyC Try.f11 [true, true, true, true, false, true, false, false]
noncomputable def c11_2 : Code := bodyC Try.f11 [true, true, true, true, true]
noncomputable def c11_3 : Code := bodyC Try.f11 [true, true, true, true, false, true, false, false, true, false, false, true, true]
noncomputable def c11_4 : Code := bodyC Try.f11 [true, true, true, true, false, true, false, false, true, true]
noncomputable def c11_5 : Code := bodyC Try.f11 [true, true, true, true, true, true, false, true, false, false]
noncomputable def c11_6 : Code := bodyC Try.f11 [true, true, true, true, true, true, true]
noncomputable def c11_7 : Code := bodyC Try.f11 [true, true, true, true, true, true, false, true, false, false, true, false, false, true, true]
noncomputable def c11_8 : Code := bodyC Try.f11 [true, true, true, true, true, true, false, true, false, false, true, true]
theorem c11_0_eq {β : Type} (x0 x1 x2 x3 x4 x5 x6 x7 x8 x9 x10 x11 x12 x13 x14 x15 x16 x17 x18 x19 x20 x21 x22 x23 x24 x25 x26 x27 x28 x29 x30 x31 x32 x33 x34 x35 x36 x37 x38 x39 x40 x41 x42 x43 x44 x45 x46 x47 x48 x49 x50 x51 x52 x53 x54 x55 x56 x57 x58 x59 x60 x61 x62 x63 x64 x65 x66 x67 x68 x69 x70 x71 x72 x73 x74 x75 x76 x77 x78 x79 x80 x81 x82 x83 x84 x85 x86 x87 x88 x89 x90 x91 x92 x93 x94 x95 x96 x97 x98 x99 x100 x101 x102 x103 x104 x105 x106 x107 x108 x109 x110 x111 x112 x113 x114 x115 x116 x117 x118 x119 x120 x121 x122 x123 x124 x125 x126 x127 x128 x129 x130 x131 x132 x133 x134 x135 x136 x137 x138 x139 x140 x141 x142 x143 x144 x145 x146 x147 x148 x149 x150 x151 x152 x153 x154 x155 x156 x157 x158 x159 x160 x161 x162 x163 : Value) (h : Heap) (k : Ex → St → Option β) : codeK Try.prog (evC Try.prog) loopL c11_0 ⟨#[x0, x1, x2, x3, x4, x5, x6, x7, x8, x9, x10, x11, x12, x13, x14, x15, x16, x17, x18, x19, x20, x21, x22, x23, x24, x25, x26, x27, x28, x29, x30, x31, x32, x33, x34, x35, x36, x37, x38, x39, x40, x41, x42, x43, x44, x45, x46, x47, x48, x49, x50, x51, x52, x53, x54, x55, x56, x57, x58, x59, x60, x61, x62, x63, x64, x65, x66, x67, x68, x69, x70, x71, x72, x73, x74, x75, x76, x77, x78, x79, x80, x81, x82, x83, x84, x85, x86, x87, x88, x89, x90, x91, x92, x93, x94, x95, x96, x97, x98, x99, x100, x101, x102, x103, x104, x105, x106, x107, x108, x109, x110, x111, x112, x113, x114, x115, x116, x117, x118, x119, x120, x121, x122, x123, x124, x125, x126, x127, x128, x129, x130, x131, x132, x133, x134, x135, x136, x137, x138, x139, x140, x141, x142, x143, x144, x145, x146, x147, x148, x149, x150, x151, x152, x153, x154, x155, x156, x157, x158, x159, x160, x161, x162, x163], h⟩ k =
obH (evC Try.prog 41 #[] h) fun t9_0 h1 =>
(unV Try.prog .not t9_0).bind fun t10_2 =>
cnd t10_2 (
k .ret ⟨#[x0, x1, (Go.Value.bool Bool.false), x3, x4, x5, x6, x7, x8, t9_0, t10_2, x11, x12, x13, x14, x15, x16, x17, x18, x19, x20, x21, x22, x23, x24, x25, x26, x27, x28, x29, x30, x31, x32, x33, x34, x35, x36, x37, x38, x39, x40, x41, x42, x43, x44, x45, x46, x47, x48, x49, x50, x51, x52, x53, x54, x55, x56, x57, x58, x59, x60, x61, x62, x63, x64, x65, x66, x67, x68, x69, x70, x71, x72, x73, x74, x75, x76, x77, x78, x79, x80, x81, x82, x83, x84, x85, x86, x87, x88, x89, x90, x91, x92, x93, x94, x95, x96, x97, x98, x99, x100, x101, x102, x103, x104, x105, x106, x107, x108, x109, x110, x111, x112, x113, x114, x115, x116, x117, x118, x119, x120, x121, x122, x123, x124, x125, x126, x127, x128, x129, x130, x131, x132, x133, x134, x135, x136, x137, x138, x139, x140, x141, x142, x143, x144, x145, x146, x147, x148, x149, x150, x151, x152, x153, x154, x155, x156, x157, x158, x159, x160, x161, x162, x163], h1⟩) (
(lenV Try.prog 80 x0 h1).bind fun t12_3 =>
(binV Try.prog .gtr 3 (.tmp 12) (.const (Go.Value.int Go.IntKind.i64 30)) t12_3 (Go.Value.int Go.IntKind.i64 30)).bind fun t13_4 =>
cnd t13_4 (
k .ret ⟨#[x0, x1, (Go.Value.bool Bool.true), x3, x4, x5, x6, x7, x8, t9_0, t10_2, x0, t12_3, t13_4, x14, x15, x16, x17, x18, x19, x20, x21, x22, x23, x24, x25, x26, x27, x28, x29, x30, x31, x32, x33, x34, x35, x36, x37, x38, x39, x40, x41, x42, x43, x44, x45, x46, x47, x48, x49, x50, x51, x52, x53, x54, x55, x56, x57, x58, x59, x60, x61, x62, x63, x64, x65, x66, x67, x68, x69, x70, x71, x72, x73, x74, x75, x76, x77, x78, x79, x80, x81, x82, x83, x84, x85, x86, x87, x88, x89, x90, x91, x92, x93, x94, x95, x96, x97, x98, x99, x100, x101, x102, x103, x104, x105, x106, x107, x108, x109, x110, x111, x112, x113, x114, x115, x116, x117, x118, x119, x120, x121, x122, x123, x124, x125, x126, x127, x128, x129, x130, x131, x132, x133, x134, x135, x136, x137, x138, x139, x140, x141, x142, x143, x144, x145, x146, x147, x148, x149, x150, x151, x152, x153, x154, x155, x156, x157, x158, x159, x160, x161, x162, x163], h1⟩) (
obH (evC Try.prog 42 #[] h1) fun t14_5 h6 =>
(buildV Try.prog 97 #[]).bind fun t15_7 =>
obH (boxV Try.prog 97 t15_7 h6) fun t16_8 h9 =>
loopK Try.prog (evC Try.prog) c11_1 ⟨#[x0, x1, (Go.Value.bool Bool.false), t14_5, t16_8, (Go.Value.int Go.IntKind.i64 0), x6, x7, x8, t9_0, t10_2, x0, t12_3, t13_4, t14_5, t15_7, t16_8, x17, x18, x19, x20, x21, x22, x23, x24, x25, x26, x27, x28, x29, x30, x31, x32, x33, x34, x35, x36, x37, x38, x39, x40, x41, x42, x43, x44, x45, x46, x47, x48, x49, x50, x51, x52, x53, x54, x55, x56, x57, x58, x59, x60, x61, x62, x63, x64, x65, x66, x67, x68, x69, x70, x71, x72, x73, x74, x75, x76, x77, x78, x79, x80, x81, x82, x83, x84, x85, x86, x87, x88, x89, x90, x91, x92, x93, x94, x95, x96, x97, x98, x99, x100, x101, x102, x103, x104, x105, x106, x107, x108, x109, x110, x111, x112, x113, x114, x115, x116, x117, x118, x119, x120, x121, x122, x123, x124, x125, x126, x127, x128, x129, x130, x131, x132, x133, x134, x135, x136, x137, x138, x139, x140, x141, x142, x143, x144, x145, x146, x147, x148, x149, x150, x151, x152, x153, x154, x155, x156, x157, x158, x159, x160, x161, x162, x163], h9⟩ (blockK 0 (seqK Try.prog (evC Try.prog) c11_2 k)))) := by kernel_rfl
theorem c11_1_eq {β : Type} (x0 x1 x2 x3 x4 x5 x6 x7 x8 x9 x10 x11 x12 x13 x14 x15 x16 x17 x18 x19 x20 x21 x22 x23 x24 x25 x26 x27 x28 x29 x30 x31 x32 x33 x34 x35 x36 x37 x38 x39 x40 x41 x42 x43 x44 x45 x46 x47 x48 x49 x50 x51 x52 x53 x54 x55 x56 x57 x58 x59 x60 x61 x62 x63 x64 x65 x66 x67 x68 x69 x70 x71 x72 x73 x74 x75 x76 x77 x78 x79 x80 x81 x82 x83 x84 x85 x86 x87 x88 x89 x90 x91 x92 x93 x94 x95 x96 x97 x98 x99 x100 x101 x102 x103 x104 x105 x106 x107 x108 x109 x110 x111 x112 x113 x114 x115 x116 x117 x118 x119 x120 x121 x122 x123 x124 x125 x126 x127 x128 x129 x130 x131 x132 x133 x134 x135 x136 x137 x138 x139 x140 x141 x142 x143 x144 x145 x146 x147 x148 x149 x150 x151 x152 x153 x154 x155 x156 x157 x158 x159 x160 x161 x162 x163 : Value) (h : Heap) (k : Ex → St → Option β) : codeK Try.prog (evC Try.prog) loopL c11_1 ⟨#[x0, x1, x2, x3, x4, x5, x6, x7, x8, x9, x10, x11, x12, x13, x14, x15, x16, x17, x18, x19, x20, x21, x22, x23, x24, x25, x26, x27, x28, x29, x30, x31, x32, x33, x34, x35, x36, x37, x38, x39, x40, x41, x42, x43, x44, x45, x46, x47, x48, x49, x50, x51, x52, x53, x54, x55, x56, x57, x58, x59, x60, x61, x62, x63, x64, x65, x66, x67, x68, x69, x70, x71, x72, x73, x74, x75, x76, x77, x78, x79, x80, x81, x82, x83, x84, x85, x86, x87, x88, x89, x90, x91, x92, x93, x94, x95, x96, x97, x98, x99, x100, x101, x102, x103, x104, x105, x106, x107, x108, x109, x110, x111, x112, x113, x114, x115, x116, x117, x118, x119, x120, x121, x122, x123, x124, x125, x126, x127, x128, x129, x130, x131, x132, x133, x134, x135, x136, x137, x138, x139, x140, x141, x142, x143, x144, x145, x146, x147, x148, x149, x150, x151, x152, x153, x154, x155, x156, x157, x158, x159, x160, x161, x162, x163], h⟩ k =
(lenV Try.prog 80 x0 h).bind fun t19_10 =>
(binV Try.prog .lss 3 (.tmp 17) (.tmp 19) x5 t19_10).bind fun t20_11 =>
cnd t20_11 (
(indexAddrV Try.prog 80 x0 x5).bind fun t25_12 =>
(fieldAddrV Try.prog 86 t25_12 3).bind fun t26_13 =>
(loadV Try.prog 23 t26_13 h).bind fun t27_14 =>
(lenV Try.prog 23 t27_14 h).bind fun t28_15 =>
(binV Try.prog .gtr 3 (.tmp 28) (.const (Go.Value.int Go.IntKind.i64 100)) t28_15 (Go.Value.int Go.IntKind.i64 100)).bind fun t29_16 =>
cnd t29_16 (
k .ret ⟨#[x0, x1, (Go.Value.bool Bool.true), x3, x4, x5, x6, x7, x8, x9, x10, x11, x12, x13, x14, x15, x16, x5, x0, t19_10, t20_11, x21, x22, x0, x5, t25_12, t26_13, t27_14, t28_15, t29_16, x30, x31, x32, x33, x34, x35, x36, x37, x38, x39, x40, x41, x42, x43, x44, x45, x46, x47, x48, x49, x50, x51, x52, x53, x54, x55, x56, x57, x58, x59, x60, x61, x62, x63, x64, x65, x66, x67, x68, x69, x70, x71, x72, x73, x74, x75, x76, x77, x78, x79, x80, x81, x82, x83, x84, x85, x86, x87, x88, x89, x90, x91, x92, x93, x94, x95, x96, x97, x98, x99, x100, x101, x102, x103, x104, x105, x106, x107, x108, x109, x110, x111, x112, x113, x114, x115, x116, x117, x118, x119, x120, x121, x122, x123, x124, x125, x126, x127, x128, x129, x130, x131, x132, x133, x134, x135, x136, x137, x138, x139, x140, x141, x142, x143, x144, x145, x146, x147, x148, x149, x150, x151, x152, x153, x154, x155, x156, x157, x158, x159, x160, x161, x162, x163], h⟩) (
(indexAddrV Try.prog 80 x0 x5).bind fun t32_17 =>
(fieldAddrV Try.prog 86 t32_17 0).bind fun t33_18 =>
(loadV Try.prog 3 t33_18 h).bind fun t34_19 =>
(binV Try.prog .eql 3 (.tmp 34) (.const (Go.Value.int Go.IntKind.i64 0)) t34_19 (Go.Value.int Go.IntKind.i64 0)).bind fun t50_20 =>
cnd t50_20 (
(indexAddrV Try.prog 80 x0 x5).bind fun t54_21 =>
(fieldAddrV Try.prog 86 t54_21 1).bind fun t55_22 =>
(loadV Try.prog 46 t55_22 h).bind fun t56_23 =>
obH (evC Try.prog 43 #[x3, t56_23] h) fun t57_24 h25 =>
(indexAddrV Try.prog 80 x0 x5).bind fun t61_26 =>
(fieldAddrV Try.prog 86 t61_26 1).bind fun t62_27 =>
(loadV Try.prog 46 t62_27 h25).bind fun t63_28 =>
obH (evC Try.prog 58 #[x4, t63_28] h25) fun t64_29 h30 =>
codeK Try.prog (evC Try.prog) loopL c11_3 ⟨#[x0, x1, x2, x3, x4, x5, x6, x7, x8, x9, x10, x11, x12, x13, x14, x15, x16, x5, x0, t19_10, t20_11, x21, x22, x0, x5, t25_12, t26_13, t27_14, t28_15, t29_16, x0, x5, t32_17, t33_18, t34_19, x35, x36, x37, x38, x39, x40, x41, x42, x43, x44, x45, x46, x47, x48, t50_20, t50_20, x3, x0, x5, t54_21, t55_22, t56_23, t57_24, x4, x0, x5, t61_26, t62_27, t63_28, t64_29, x65, x66, x67, x68, x69, x70, x71, x72, x73, x74, x75, x76, x77, x78, x79, x80, x81, x82, x83, x84, x85, x86, x87, x88, x89, x90, x91, x92, x93, x94, x95, x96, x97, x98, x99, x100, x101, x102, x103, x104, x105, x106, x107, x108, x109, x110, x111, x112, x113, x114, x115, x116, x117, x118, x119, x120, x121, x122, x123, x124, x125, x126, x127, x128, x129, x130, x131, x132, x133, x134, x135, x136, x137, x138, x139, x140, x141, x142, x143, x144, x145, x146, x147, x148, x149, x150, x151, x152, x153, x154, x155, x156, x157, x158, x159, x160, x161, x162, x163], h30⟩ (blockK 1 (seqK Try.prog (evC Try.prog) c11_4 k))) (
(binV Try.prog .eql 3 (.tmp 34) (.const (Go.Value.int Go.IntKind.i64 1)) t34_19 (Go.Value.int Go.IntKind.i64 1)).bind fun t66_31 =>
cnd t66_31 (
(indexAddrV Try.prog 80 x0 x5).bind fun t70_32 =>
(fieldAddrV Try.prog 86 t70_32 1).bind fun t71_33 =>
(loadV Try.prog 46 t71_33 h).bind fun t72_34 =>
obH (evC Try.prog 59 #[x3, t72_34] h) fun t73_35 h36 =>
(indexAddrV Try.prog 80 x0 x5).bind fun t77_37 =>
(fieldAddrV Try.prog 86 t77_37 1).bind fun t78_38 =>
(loadV Try.prog 46 t78_38 h36).bind fun t79_39 =>
obH (evC Try.prog 58 #[x4, t79_39] h36) fun t80_40 h41 =>
codeK Try.prog (evC Try.prog) loopL c11_3 ⟨#[x0, x1, x2, x3, x4, x5, x6, x7, x8, x9, x10, x11, x12, x13, x14, x15, x16, x5, x0, t19_10, t20_11, x21, x22, x0, x5, t25_12, t26_13, t27_14, t28_15, t29_16, x0, x5, t32_17, t33_18, t34_19, x35, x36, x37, x38, x39, x40, x41, x42, x43, x44, x45, x46, x47, x48, t50_20, t50_20, x51, x52, x53, x54, x55, x56, x57, x58, x59, x60, x61, x62, x63, x64, t66_31, t66_31, x3, x0, x5, t70_32, t71_33, t72_34, t73_35, x4, x0, x5, t77_37, t78_38, t79_39, t80_40, x81, x82, x83, x84, x85, x86, x87, x88, x89, x90, x91, x92, x93, x94, x95, x96, x97, x98, x99, x100, x101, x102, x103, x104, x105, x106, x107, x108, x109, x110, x111, x112, x113, x114, x115, x116, x117, x118, x119, x120, x121, x122, x123, x124, x125, x126, x127, x128, x129, x130, x131, x132, x133, x134, x135, x136, x137, x138, x139, x140, x141, x142, x143, x144, x145, x146, x147, x148, x149, x150, x151, x152, x153, x154, x155, x156, x157, x158, x159, x160, x161, x162, x163], h41⟩ (blockK 1 (seqK Try.prog (evC Try.prog) c11_4 k))) (
(binV Try.prog .eql 3 (.tmp 34) (.const (Go.Value.int Go.IntKind.i64 2)) t34_19 (Go.Value.int Go.IntKind.i64 2)).bind fun t82_42 =>
cnd t82_42 (
(indexAddrV Try.prog 80 x0 x5).bind fun t86_43 =>
(fieldAddrV Try.prog 86 t86_43 2).bind fun t87_44 =>
(loadV Try.prog 84 t87_44 h).bind fun t88_45 =>
obH (evC Try.prog 57 #[x3, t88_45] h) fun t89_46 h47 =>
(indexAddrV Try.prog 80 x0 x5).bind fun t93_48 =>
(fieldAddrV Try.prog 86 t93_48 2).bind fun t94_49 =>
(loadV Try.prog 84 t94_49 h47).bind fun t95_50 =>
obH (evC Try.prog 60 #[x4, t95_50] h47) fun t96_51 h52 =>
codeK Try.prog (evC Try.prog) loopL c11_3 ⟨#[x0, x1, x2, x3, x4, x5, x6, x7, x8, x9, x10, x11, x12, x13, x14, x15, x16, x5, x0, t19_10, t20_11, x21, x22, x0, x5, t25_12, t26_13, t27_14, t28_15, t29_16, x0, x5, t32_17, t33_18, t34_19, x35, x36, x37, x38, x39, x40, x41, x42, x43, x44, x45, x46, x47, x48, t50_20, t50_20, x51, x52, x53, x54, x55, x56, x57, x58, x59, x60, x61, x62, x63, x64, t66_31, t66_31, x67, x68, x69, x70, x71, x72, x73, x74, x75, x76, x77, x78, x79, x80, t82_42, t82_42, x3, x0, x5, t86_43, t87_44, t88_45, t89_46, x4, x0, x5, t93_48, t94_49, t95_50, t96_51, x97, x98, x99, x100, x101, x102, x103, x104, x105, x106, x107, x108, x109, x110, x111, x112, x113, x114, x115, x116, x117, x118, x119, x120, x121, x122, x123, x124, x125, x126, x127, x128, x129, x130, x131, x132, x133, x134, x135, x136, x137, x138, x139, x140, x141, x142, x143, x144, x145, x146, x147, x148, x149, x150, x151, x152, x153, x154, x155, x156, x157, x158, x159, x160, x161, x162, x163], h52⟩ (blockK 1 (seqK Try.prog (evC Try.prog) c11_4 k))) (
(indexAddrV Try.prog 80 x0 x5).bind fun t38_53 =>
(fieldAddrV Try.prog 86 t38_53 3).bind fun t39_54 =>
(loadV Try.prog 23 t39_54 h).bind fun t40_55 =>
obH (evC Try.prog 61 #[x3, t40_55] h) fun t41_56 h57 =>
(indexAddrV Try.prog 80 x0 x5).bind fun t45_58 =>
(fieldAddrV Try.prog 86 t45_58 3).bind fun t46_59 =>
(loadV Try.prog 23 t46_59 h57).bind fun t47_60 =>
obH (evC Try.prog 62 #[x4, t47_60] h57) fun t48_61 h62 =>
codeK Try.prog (evC Try.prog) loopL c11_3 ⟨#[x0, x1, x2, x3, x4, x5, x6, x7, x8, x9, x10, x11, x12, x13, x14, x15, x16, x5, x0, t19_10, t20_11, x21, x22, x0, x5, t25_12, t26_13, t27_14, t28_15, t29_16, x0, x5, t32_17, t33_18, t34_19, x3, x0, x5, t38_53, t39_54, t40_55, t41_56, x4, x0, x5, t45_58, t46_59, t47_60, t48_61, t50_20, t50_20, x51, x52, x53, x54, x55, x56, x57, x58, x59, x60, x61, x62, x63, x64, t66_31, t66_31, x67, x68, x69, x70, x71, x72, x73, x74, x75, x76, x77, x78, x79, x80, t82_42, t82_42, x83, x84, x85, x86, x87, x88, x89, x90, x91, x92, x93, x94, x95, x96, x97, x98, x99, x100, x101, x102, x103, x104, x105, x106, x107, x108, x109, x110, x111, x112, x113, x114, x115, x116, x117, x118, x119, x120, x121, x122, x123, x124, x125, x126, x127, x128, x129, x130, x131, x132, x133, x134, x135, x136, x137, x138, x139, x140, x141, x142, x143, x144, x145, x146, x147, x148, x149, x150, x151, x152, x153, x154, x155, x156, x157, x158, x159, x160, x161, x162, x163], h62⟩ (blockK 1 (seqK Try.prog (evC Try.prog) c11_4 k))))))) (
k (.exit 0) ⟨#[x0, x1, x2, x3, x4, x5, x6, x7, x8, x9, x10, x11, x12, x13, x14, x15, x16, x5, x0, t19_10, t20_11, x21, x22, x23, x24, x25, x26, x27, x28, x29, x30, x31, x32, x33, x34, x35, x36, x37, x38, x39, x40, x41, x42, x43, x44, x45, x46, x47, x48, x49, x50, x51, x52, x53, x54, x55, x56, x57, x58, x59, x60, x61, x62, x63, x64, x65, x66, x67, x68, x69, x70, x71, x72, x73, x74, x75, x76, x77, x78, x79, x80, x81, x82, x83, x84, x85, x86, x87, x88, x89, x90, x91, x92, x93, x94, x95, x96, x97, x98, x99, x100, x101, x102, x103, x104, x105, x106, x107, x108, x109, x110, x111, x112, x113, x114, x115, x116, x117, x118, x119, x120, x121, x122, x123, x124, x125, x126, x127, x128, x129, x130, x131, x132, x133, x134, x135, x136, x137, x138, x139, x140, x141, x142, x143, x144, x145, x146, x147, x148, x149, x150, x151, x152, x153, x154, x155, x156, x157, x158, x159, x160, x161, x162, x163], h⟩) := by kernel_rfl
theorem c11_2_eq {β : Type} (x0 x1 x2 x3 x4 x5 x6 x7 x8 x9 x10 x11 x12 x13 x14 x15 x16 x17 x18 x19 x20 x21 x22 x23 x24 x25 x26 x27 x28 x29 x30 x31 x32 x33 x34 x35 x36 x37 x38 x39 x40 x41 x42 x43 x44 x45 x46 x47 x48 x49 x50 x51 x52 x53 x54 x55 x56 x57 x58 x59 x60 x61 x62 x63 x64 x65 x66 x67 x68 x69 x70 x71 x72 x73 x74 x75 x76 x77 x78 x79 x80 x81 x82 x83 x84 x85 x86 x87 x88 x89 x90 x91 x92 x93 x94 x95 x96 x97 x98 x99 x100 x101 x102 x103 x104 x105 x106 x107 x108 x109 x110 x111 x112 x113 x114 x115 x116 x117 x118 x119 x120 x121 x122 x123 x124 x125 x126 x127 x128 x129 x130 x131 x132 x133 x134 x135 x136 x137 x138 x139 x140 x141 x142 x143 x144 x145 x146 x147 x148 x149 x150 x151 x152 x153 x154 x155 x156 x157 x158 x159 x160 x161 x162 x163 : Value) (h : Heap) (k : Ex → St → Option β) : codeK Try.prog (evC Try.prog) loopL c11_2 ⟨#[x0, x1, x2, x3, x4, x5, x6, x7, x8, x9, x10, x11, x12, x13, x14, x15, x16, x17, x18, x19, x20, x21, x22, x23, x24, x25, x26, x27, x28, x29, x30, x31, x32, x33, x34, x35, x36, x37, x38, x39, x40, x41, x42, x43, x44, x45, x46, x47, x48, x49, x50, x51, x52, x53, x54, x55, x56, x57, x58, x59, x60, x61, x62, x63, x64, x65, x66, x67, x68, x69, x70, x71, x72, x73, x74, x75, x76, x77, x78, x79, x80, x81, x82, x83, x84, x85, x86, x87, x88, x89, x90, x91, x92, x93, x94, x95, x96, x97, x98, x99, x100, x101, x102, x103, x104, x105, x106, x107, x108, x109, x110, x111, x112, x113, x114, x115, x116, x117, x118, x119, x120, x121, x122, x123, x124, x125, x126, x127, x128, x129, x130, x131, x132, x133, x134, x135, x136, x137, x138, x139, x140, x141, x142, x143, x144, x145, x146, x147, x148, x149, x150, x151, x152, x153, x154, x155, x156, x157, x158, x159, x160, x161, x162, x163], h⟩ k =
obH (evC Try.prog 44 #[x3] h) fun t107_63 h64 =>
obH (evC Try.prog 45 #[t107_63] h64) fun t108_65 h66 =>
loopK Try.prog (evC Try.prog) c11_5 ⟨#[x0, x1, x2, x3, x4, x5, t108_65, (Go.Value.int Go.IntKind.i64 0), x8, x9, x10, x11, x12, x13, x14, x15, x16, x17, x18, x19, x20, x21, x22, x23, x24, x25, x26, x27, x28, x29, x30, x31, x32, x33, x34, x35, x36, x37, x38, x39, x40, x41, x42, x43, x44, x45, x46, x47, x48, x49, x50, x51, x52, x53, x54, x55, x56, x57, x58, x59, x60, x61, x62, x63, x64, x65, x66, x67, x68, x69, x70, x71, x72, x73, x74, x75, x76, x77, x78, x79, x80, x81, x82, x83, x84, x85, x86, x87, x88, x89, x90, x91, x92, x93, x94, x95, x96, x97, x98, x99, x100, x101, x102, x103, x104, x105, x3, t107_63, t108_65, x109, x110, x111, x112, x113, x114, x115, x116, x117, x118, x119, x120, x121, x122, x123, x124, x125, x126, x127, x128, x129, x130, x131, x132, x133, x134, x135, x136, x137, x138, x139, x140, x141, x142, x143, x144, x145, x146, x147, x148, x149, x150, x151, x152, x153, x154, x155, x156, x157, x158, x159, x160, x161, x162, x163], h66⟩ (blockK 3 (seqK Try.prog (evC Try.prog) c11_6 k)) := by kernel_rfl
theorem c11_3_eq {β : Type} (x0 x1 x2 x3 x4 x5 x6 x7 x8 x9 x10 x11 x12 x13 x14 x15 x16 x17 x18 x19 x20 x21 x22 x23 x24 x25 x26 x27 x28 x29 x30 x31 x32 x33 x34 x35 x36 x37 x38 x39 x40 x41 x42 x43 x44 x45 x46 x47 x48 x49 x50 x51 x52 x53 x54 x55 x56 x57 x58 x59 x60 x61 x62 x63 x64 x65 x66 x67 x68 x69 x70 x71 x72 x73 x74 x75 x76 x77 x78 x79 x80 x81 x82 x83 x84 x85 x86 x87 x88 x89 x90 x91 x92 x93 x94 x95 x96 x97 x98 x99 x100 x101 x102 x103 x104 x105 x106 x107 x108 x109 x110 x111 x112 x113 x114 x115 x116 x117 x118 x119 x120 x121 x122 x123 x124 x125 x126 x127 x128 x129 x130 x131 x132 x133 x134 x135 x136 x137 x138 x139 x140 x141 x142 x143 x144 x145 x146 x147 x148 x149 x150 x151 x152 x153 x154 x155 x156 x157 x158 x159 x160 x161 x162 x163 : Value) (h : Heap) (k : Ex → St → Option β) : codeK Try.prog (evC Try.prog) loopL c11_3 ⟨#[x0, x1, x2, x3, x4, x5, x6, x7, x8, x9, x10, x11, x12, x13, x14, x15, x16, x17, x18, x19, x20, x21, x22, x23, x24, x25, x26, x27, x28, x29, x30, x31, x32, x33, x34, x35, x36, x37, x38, x39, x40, x41, x42, x43, x44, x45, x46, x47, x48, x49, x50, x51, x52, x53, x54, x55, x56, x57, x58, x59, x60, x61, x62, x63, x64, x65, x66, x67, x68, x69, x70, x71, x72, x73, x74, x75, x76, x77, x78, x79, x80, x81, x82, x83, x84, x85, x86, x87, x88, x89, x90, x91, x92, x93, x94, x95, x96, x97, x98, x99, x100, x101, x102, x103, x104, x105, x106, x107, x108, x109, x110, x111, x112, x113, x114, x115, x116, x117, x118, x119, x120, x121, x122, x123, x124, x125, x126, x127, x128, x129, x130, x131, x132, x133, x134, x135, x136, x137, x138, x139, x140, x141, x142, x143, x144, x145, x146, x147, x148, x149, x150, x151, x152, x153, x154, x155, x156, x157, x158, x159, x160, x161, x162, x163], h⟩ k =
obH (evC Try.prog 44 #[x3] (nm h)) fun t98_67 h68 =>
obH (convV Try.prog 23 9 t98_67 (am h68 h)) fun t99_69 h70 =>
(nilCheckV x4).bind fun t101_71 =>
(fieldAddrV Try.prog 97 t101_71 0).bind fun t102_72 =>
(loadV Try.prog 23 t102_72 h70).bind fun t103_73 =>
obH (convV Try.prog 23 9 t103_73 h70) fun t104_74 h75 =>
(binV Try.prog .neq 9 (.tmp 99) (.tmp 104) t99_69 t104_74).bind fun t105_76 =>
chk ((rb t103_73) ++ ((rb t102_72) ++ [])) (h68.mods ++ []) (
cnd t105_76 (
k .ret ⟨#[x0, x1, (Go.Value.bool Bool.false), x3, x4, x5, x6, x7, x8, x9, x10, x11, x12, x13, x14, x15, x16, x17, x18, x19, x20, x21, x22, x23, x24, x25, x26, x27, x28, x29, x30, x31, x32, x33, x34, x35, x36, x37, x38, x39, x40, x41, x42, x43, x44, x45, x46, x47, x48, x49, x50, x51, x52, x53, x54, x55, x56, x57, x58, x59, x60, x61, x62, x63, x64, x65, x66, x67, x68, x69, x70, x71, x72, x73, x74, x75, x76, x77, x78, x79, x80, x81, x82, x83, x84, x85, x86, x87, x88, x89, x90, x91, x92, x93, x94, x95, x96, x3, t98_67, t99_69, x4, t101_71, t102_72, t103_73, t104_74, t105_76, x106, x107, x108, x109, x110, x111, x112, x113, x114, x115, x116, x117, x118, x119, x120, x121, x122, x123, x124, x125, x126, x127, x128, x129, x130, x131, x132, x133, x134, x135, x136, x137, x138, x139, x140, x141, x142, x143, x144, x145, x146, x147, x148, x149, x150, x151, x152, x153, x154, x155, x156, x157, x158, x159, x160, x161, x162, x163], h75⟩) (
k .normal ⟨#[x0, x1, x2, x3, x4, x5, x6, x7, x8, x9, x10, x11, x12, x13, x14, x15, x16, x17, x18, x19, x20, x21, x22, x23, x24, x25, x26, x27, x28, x29, x30, x31, x32, x33, x34, x35, x36, x37, x38, x39, x40, x41, x42, x43, x44, x45, x46, x47, x48, x49, x50, x51, x52, x53, x54, x55, x56, x57, x58, x59, x60, x61, x62, x63, x64, x65, x66, x67, x68, x69, x70, x71, x72, x73, x74, x75, x76, x77, x78, x79, x80, x81, x82, x83, x84, x85, x86, x87, x88, x89, x90, x91, x92, x93, x94, x95, x96, x3, t98_67, t99_69, x4, t101_71, t102_72, t103_73, t104_74, t105_76, x106, x107, x108, x109, x110, x111, x112, x113, x114, x115, x116, x117, x118, x119, x120, x121, x122, x123, x124, x125, x126, x127, x128, x129, x130, x131, x132, x133, x134, x135, x136, x137, x138, x139, x140, x141, x142, x143, x144, x145, x146, x147, x148, x149, x150, x151, x152, x153, x154, x155, x156, x157, x158, x159, x160, x161, x162, x163], h75⟩)) := by kernel_rfl
theorem c11_4_eq {β : Type} (x0 x1 x2 x3 x4 x5 x6 x7 x8 x9 x10 x11 x12 x13 x14 x15 x16 x17 x18 x19 x20 x21 x22 x23 x24 x25 x26 x27 x28 x29 x30 x31 x32 x33 x34 x35 x36 x37 x38 x39 x40 x41 x42 x43 x44 x45 x46 x47 x48 x49 x50 x51 x52 x53 x54 x55 x56 x57 x58 x59 x60 x61 x62 x63 x64 x65 x66 x67 x68 x69 x70 x71 x72 x73 x74 x75 x76 x77 x78 x79 x80 x81 x82 x83 x84 x85 x86 x87 x88 x89 x90 x91 x92 x93 x94 x95 x96 x97 x98 x99 x100 x101 x102 x103 x104 x105 x106 x107 x108 x109 x110 x111 x112 x113 x114 x115 x116 x117 x118 x119 x120 x121 x122 x123 x124 x125 x126 x127 x128 x129 x130 x131 x132 x133 x134 x135 x136 x137 x138 x139 x140 x141 x142 x143 x144 x145 x146 x147 x148 x149 x150 x151 x152 x153 x154 x155 x156 x157 x158 x159 x160 x161 x162 x163 : Value) (h : Heap) (k : Ex → St → Option β) : codeK Try.prog (evC Try.prog) loopL c11_4 ⟨#[x0, x1, x2, x3, x4, x5, x6, x7, x8, x9, x10, x11, x12, x13, x14, x15, x16, x17, x18, x19, x20, x21, x22, x23, x24, x25, x26, x27, x28, x29, x30, x31, x32, x33, x34, x35, x36, x37, x38, x39, x40, x41, x42, x43, x44, x45, x46, x47, x48, x49, x50, x51, x52, x53, x54, x55, x56, x57, x58, x59, x60, x61, x62, x63, x64, x65, x66, x67, x68, x69, x70, x71, x72, x73, x74, x75, x76, x77, x78, x79, x80, x81, x82, x83, x84, x85, x86, x87, x88, x89, x90, x91, x92, x93, x94, x95, x96, x97, x98, x99, x100, x101, x102, x103, x104, x105, x106, x107, x108, x109, x110, x111, x112, x113, x114, x115, x116, x117, x118, x119, x120, x121, x122, x123, x124, x125, x126, x127, x128, x129, x130, x131, x132, x133, x134, x135, x136, x137, x138, x139, x140, x141, x142, x143, x144, x145, x146, x147, x148, x149, x150, x151, x152, x153, x154, x155, x156, x157, x158, x159, x160, x161, x162, x163], h⟩ k =
(binV Try.prog .add 3 (.tmp 21) (.const (Go.Value.int Go.IntKind.i64 1)) x5 (Go.Value.int Go.IntKind.i64 1)).bind fun t22_77 =>
k .normal ⟨#[x0, x1, x2, x3, x4, t22_77, x6, x7, x8, x9, x10, x11, x12, x13, x14, x15, x16, x17, x18, x19, x20, x5, t22_77, x23, x24, x25, x26, x27, x28, x29, x30, x31, x32, x33, x34, x35, x36, x37, x38, x39, x40, x41, x42, x43, x44, x45, x46, x47, x48, x49, x50, x51, x52, x53, x54, x55, x56, x57, x58, x59, x60, x61, x62, x63, x64, x65, x66, x67, x68, x69, x70, x71, x72, x73, x74, x75, x76, x77, x78, x79, x80, x81, x82, x83, x84, x85, x86, x87, x88, x89, x90, x91, x92, x93, x94, x95, x96, x97, x98, x99, x100, x101, x102, x103, x104, x105, x106, x107, x108, x109, x110, x111, x112, x113, x114, x115, x116, x117, x118, x119, x120, x121, x122, x123, x124, x125, x126, x127, x128, x129, x130, x131, x132, x133, x134, x135, x136, x137, x138, x139, x140, x141, x142, x143, x144, x145, x146, x147, x148, x149, x150, x151, x152, x153, x154, x155, x156, x157, x158, x159, x160, x161, x162, x163], h⟩ := by kernel_rfl
theorem c11_5_eq {β : Type} (x0 x1 x2 x3 x4 x5 x6 x7 x8 x9 x10 x11 x12 x13 x14 x15 x16 x17 x18 x19 x20 x21 x22 x23 x24 x25 x26 x27 x28 x29 x30 x31 x32 x33 x34 x35 x36 x37 x38 x39 x40 x41 x42 x43 x44 x45 x46 x47 x48 x49 x50 x51 x52 x53 x54 x55 x56 x57 x58 x59 x60 x61 x62 x63 x64 x65 x66 x67 x68 x69 x70 x71 x72 x73 x74 x75 x76 x77 x78 x79 x80 x81 x82 x83 x84 x85 x86 x87 x88 x89 x90 x91 x92 x93 x94 x95 x96 x97 x98 x99 x100 x101 x102 x103 x104 x105 x106 x107 x108 x109 x110 x111 x112 x113 x114 x115 x116 x117 x118 x119 x120 x121 x122 x123 x124 x125 x126 x127 x128 x129 x130 x131 x132 x133 x134 x135 x136 x137 x138 x139 x140 x141 x142 x143 x144 x145 x146 x147 x148 x149 x150 x151 x152 x153 x154 x155 x156 x157 x158 x159 x160 x161 x162 x163 : Value) (h : Heap) (k : Ex → St → Option β) : codeK Try.prog (evC Try.prog) loopL c11_5 ⟨#[x0, x1, x2, x3, x4, x5, x6, x7, x8, x9, x10, x11, x12, x13, x14, x15, x16, x17, x18, x19, x20, x21, x22, x23, x24, x25, x26, x27, x28, x29, x30, x31, x32, x33, x34, x35, x36, x37, x38, x39, x40, x41, x42, x43, x44, x45, x46, x47, x48, x49, x50, x51, x52, x53, x54, x55, x56, x57, x58, x59, x60, x61, x62, x63, x64, x65, x66, x67, x68, x69, x70, x71, x72, x73, x74, x75, x76, x77, x78, x79, x80, x81, x82, x83, x84, x85, x86, x87, x88, x89, x90, x91, x92, x93, x94, x95, x96, x97, x98, x99, x100, x101, x102, x103, x104, x105, x106, x107, x108, x109, x110, x111, x112, x113, x114, x115, x116, x117, x118, x119, x120, x121, x122, x123, x124, x125, x126, x127, x128, x129, x130, x131, x132, x133, x134, x135, x136, x137, x138, x139, x140, x141, x142, x143, x144, x145, x146, x147, x148, x149, x150, x151, x152, x153, x154, x155, x156, x157, x158, x159, x160, x161, x162, x163], h⟩ k =
(lenV Try.prog 80 x0 h).bind fun t111_78 =>
(binV Try.prog .lss 3 (.tmp 109) (.tmp 111) x7 t111_78).bind fun t112_79 =>
cnd t112_79 (
(indexAddrV Try.prog 80 x0 x7).bind fun t117_80 =>
(fieldAddrV Try.prog 86 t117_80 0).bind fun t118_81 =>
(loadV Try.prog 3 t118_81 h).bind fun t119_82 =>
(binV Try.prog .eql 3 (.tmp 119) (.const (Go.Value.int Go.IntKind.i64 0)) t119_82 (Go.Value.int Go.IntKind.i64 0)).bind fun t131_83 =>
cnd t131_83 (
obH (evC Try.prog 46 #[x6, (Go.Value.int Go.IntKind.u64 18446744073709551615)] (nm h)) fun t133_84 h85 =>
(indexAddrV Try.prog 80 x0 x7).bind fun t136_86 =>
(fieldAddrV Try.prog 86 t136_86 1).bind fun t137_87 =>
(loadV Try.prog 46 t137_87 (am h85 h)).bind fun t138_88 =>
(binV Try.prog .eql 46 (.tmp 133) (.tmp 138) t133_84 t138_88).bind fun t139_89 =>
chk ((rb t137_87) ++ []) (h85.mods ++ []) (
codeK Try.prog (evC Try.prog) loopL c11_7 ⟨#[x0, x1, x2, x3, x4, x5, x6, x7, t139_89, x9, x10, x11, x12, x13, x14, x15, x16, x17, x18, x19, x20, x21, x22, x23, x24, x25, x26, x27, x28, x29, x30, x31, x32, x33, x34, x35, x36, x37, x38, x39, x40, x41, x42, x43, x44, x45, x46, x47, x48, x49, x50, x51, x52, x53, x54, x55, x56, x57, x58, x59, x60, x61, x62, x63, x64, x65, x66, x67, x68, x69, x70, x71, x72, x73, x74, x75, x76, x77, x78, x79, x80, x81, x82, x83, x84, x85, x86, x87, x88, x89, x90, x91, x92, x93, x94, x95, x96, x97, x98, x99, x100, x101, x102, x103, x104, x105, x106, x107, x108, x7, x0, t111_78, t112_79, x113, x114, x0, x7, t117_80, t118_81, t119_82, x120, x121, x122, x123, x124, x125, x126, x127, x128, x129, t131_83, t131_83, x6, t133_84, x0, x7, t136_86, t137_87, t138_88, t139_89, x140, x141, x142, x143, x144, x145, x146, x147, x148, x149, x150, x151, x152, x153, x154, x155, x156, x157, x158, x159, x160, x161, x162, x163], (am h85 h)⟩ (blockK 4 (seqK Try.prog (evC Try.prog) c11_8 k)))) (
(binV Try.prog .eql 3 (.tmp 119) (.const (Go.Value.int Go.IntKind.i64 1)) t119_82 (Go.Value.int Go.IntKind.i64 1)).bind fun t141_90 =>
cnd t141_90 (
obH (evC Try.prog 49 #[x6, (Go.Value.int Go.IntKind.u64 18446744073709551615)] (nm h)) fun t143_91 h92 =>
(indexAddrV Try.prog 80 x0 x7).bind fun t146_93 =>
(fieldAddrV Try.prog 86 t146_93 1).bind fun t147_94 =>
(loadV Try.prog 46 t147_94 (am h92 h)).bind fun t148_95 =>
(binV Try.prog .eql 46 (.tmp 143) (.tmp 148) t143_91 t148_95).bind fun t149_96 =>
chk ((rb t147_94) ++ []) (h92.mods ++ []) (
codeK Try.prog (evC Try.prog) loopL c11_7 ⟨#[x0, x1, x2, x3, x4, x5, x6, x7, t149_96, x9, x10, x11, x12, x13, x14, x15, x16, x17, x18, x19, x20, x21, x22, x23, x24, x25, x26, x27, x28, x29, x30, x31, x32, x33, x34, x35, x36, x37, x38, x39, x40, x41, x42, x43, x44, x45, x46, x47, x48, x49, x50, x51, x52, x53, x54, x55, x56, x57, x58, x59, x60, x61, x62, x63, x64, x65, x66, x67, x68, x69, x70, x71, x72, x73, x74, x75, x76, x77, x78, x79, x80, x81, x82, x83, x84, x85, x86, x87, x88, x89, x90, x91, x92, x93, x94, x95, x96, x97, x98, x99, x100, x101, x102, x103, x104, x105, x106, x107, x108, x7, x0, t111_78, t112_79, x113, x114, x0, x7, t117_80, t118_81, t119_82, x120, x121, x122, x123, x124, x125, x126, x127, x128, x129, t131_83, t131_83, x132, x133, x134, x135, x136, x137, x138, x139, t141_90, t141_90, x6, t143_91, x0, x7, t146_93, t147_94, t148_95, t149_96, x150, x151, x152, x153, x154, x155, x156, x157, x158, x159, x160, x161, x162, x163], (am h92 h)⟩ (blockK 4 (seqK Try.prog (evC Try.prog) c11_8 k)))) (
(binV Try.prog .eql 3 (.tmp 119) (.const (Go.Value.int Go.IntKind.i64 2)) t119_82 (Go.Value.int Go.IntKind.i64 2)).bind fun t151_97 =>
cnd t151_97 (
obH (evC Try.prog 52 #[x6] (nm h)) fun t153_98 h99 =>
(indexAddrV Try.prog 80 x0 x7).bind fun t156_100 =>
(fieldAddrV Try.prog 86 t156_100 2).bind fun t157_101 =>
(loadV Try.prog 84 t157_101 (am h99 h)).bind fun t158_102 =>
obH (evC Try.prog 51 #[t153_98, t158_102] (am h99 h)) fun t159_103 h104 =>
chk ((rb t157_101) ++ []) (h99.mods ++ []) (
codeK Try.prog (evC Try.prog) loopL c11_7 ⟨#[x0, x1, x2, x3, x4, x5, x6, x7, t159_103, x9, x10, x11, x12, x13, x14, x15, x16, x17, x18, x19, x20, x21, x22, x23, x24, x25, x26, x27, x28, x29, x30, x31, x32, x33, x34, x35, x36, x37, x38, x39, x40, x41, x42, x43, x44, x45, x46, x47, x48, x49, x50, x51, x52, x53, x54, x55, x56, x57, x58, x59, x60, x61, x62, x63, x64, x65, x66, x67, x68, x69, x70, x71, x72, x73, x74, x75, x76, x77, x78, x79, x80, x81, x82, x83, x84, x85, x86, x87, x88, x89, x90, x91, x92, x93, x94, x95, x96, x97, x98, x99, x100, x101, x102, x103, x104, x105, x106, x107, x108, x7, x0, t111_78, t112_79, x113, x114, x0, x7, t117_80, t118_81, t119_82, x120, x121, x122, x123, x124, x125, x126, x127, x128, x129, t131_83, t131_83, x132, x133, x134, x135, x136, x137, x138, x139, t141_90, t141_90, x142, x143, x144, x145, x146, x147, x148, x149, t151_97, t151_97, x6, t153_98, x0, x7, t156_100, t157_101, t158_102, t159_103, x160, x161, x162, x163], h104⟩ (blockK 4 (seqK Try.prog (evC Try.prog) c11_8 k)))) (
obH (evC Try.prog 54 #[x6, (Go.Value.int Go.IntKind.i64 100)] (nm h)) fun t121_105 h106 =>
obH (convV Try.prog 23 9 t121_105 (am h106 h)) fun t122_107 h108 =>
(indexAddrV Try.prog 80 x0 x7).bind fun t125_109 =>
(fieldAddrV Try.prog 86 t125_109 3).bind fun t126_110 =>
(loadV Try.prog 23 t126_110 h108).bind fun t127_111 =>
obH (convV Try.prog 23 9 t127_111 h108) fun t128_112 h113 =>
(binV Try.prog .eql 9 (.tmp 122) (.tmp 128) t122_107 t128_112).bind fun t129_114 =>
chk ((rb t127_111) ++ ((rb t126_110) ++ [])) (h106.mods ++ []) (
codeK Try.prog (evC Try.prog) loopL c11_7 ⟨#[x0, x1, x2, x3, x4, x5, x6, x7, t129_114, x9, x10, x11, x12, x13, x14, x15, x16, x17, x18, x19, x20, x21, x22, x23, x24, x25, x26, x27, x28, x29, x30, x31, x32, x33, x34, x35, x36, x37, x38, x39, x40, x41, x42, x43, x44, x45, x46, x47, x48, x49, x50, x51, x52, x53, x54, x55, x56, x57, x58, x59, x60, x61, x62, x63, x64, x65, x66, x67, x68, x69, x70, x71, x72, x73, x74, x75, x76, x77, x78, x79, x80, x81, x82, x83, x84, x85, x86, x87, x88, x89, x90, x91, x92, x93, x94, x95, x96, x97, x98, x99, x100, x101, x102, x103, x104, x105, x106, x107, x108, x7, x0, t111_78, t112_79, x113, x114, x0, x7, t117_80, t118_81, t119_82, x6, t121_105, t122_107, x0, x7, t125_109, t126_110, t127_111, t128_112, t129_114, t131_83, t131_83, x132, x133, x134, x135, x136, x137, x138, x139, t141_90, t141_90, x142, x143, x144, x145, x146, x147, x148, x149, t151_97, t151_97, x152, x153, x154, x155, x156, x157, x158, x159, x160, x161, x162, x163], h113⟩ (blockK 4 (seqK Try.prog (evC Try.prog) c11_8 k))))))) (
k (.exit 3) ⟨#[x0, x1, x2, x3, x4, x5, x6, x7, x8, x9, x10, x11, x12, x13, x14, x15, x16, x17, x18, x19, x20, x21, x22, x23, x24, x25, x26, x27, x28, x29, x30, x31, x32, x33, x34, x35, x36, x37, x38, x39, x40, x41, x42, x43, x44, x45, x46, x47, x48, x49, x50, x51, x52, x53, x54, x55, x56, x57, x58, x59, x60, x61, x62, x63, x64, x65, x66, x67, x68, x69, x70, x71, x72, x73, x74, x75, x76, x77, x78, x79, x80, x81, x82, x83, x84, x85, x86, x87, x88, x89, x90, x91, x92, x93, x94, x95, x96, x97, x98, x99, x100, x101, x102, x103, x104, x105, x106, x107, x108, x7, x0, t111_78, t112_79, x113, x114, x115, x116, x117, x118, x119, x120, x121, x122, x123, x124, x125, x126, x127, x128, x129, x130, x131, x132, x133, x134, x135, x136, x137, x138, x139, x140, x141, x142, x143, x144, x145, x146, x147, x148, x149, x150, x151, x152, x153, x154, x155, x156, x157, x158, x159, x160, x161, x162, x163], h⟩) := by kernel_rfl
theorem c11_6_eq {β : Type} (x0 x1 x2 x3 x4 x5 x6 x7 x8 x9 x10 x11 x12 x13 x14 x15 x16 x17 x18 x19 x20 x21 x22 x23 x24 x25 x26 x27 x28 x29 x30 x31 x32 x33 x34 x35 x36 x37 x38 x39 x40 x41 x42 x43 x44 x45 x46 x47 x48 x49 x50 x51 x52 x53 x54 x55 x56 x57 x58 x59 x60 x61 x62 x63 x64 x65 x66 x67 x68 x69 x70 x71 x72 x73 x74 x75 x76 x77 x78 x79 x80 x81 x82 x83 x84 x85 x86 x87 x88 x89 x90 x91 x92 x93 x94 x95 x96 x97 x98 x99 x100 x101 x102 x103 x104 x105 x106 x107 x108 x109 x110 x111 x112 x113 x114 x115 x116 x117 x118 x119 x120 x121 x122 x123 x124 x125 x126 x127 x128 x129 x130 x131 x132 x133 x134 x135 x136 x137 x138 x139 x140 x141 x142 x143 x144 x145 x146 x147 x148 x149 x150 x151 x152 x153 x154 x155 x156 x157 x158 x159 x160 x161 x162 x163 : Value) (h : Heap) (k : Ex → St → Option β) : codeK Try.prog (evC Try.prog) loopL c11_6 ⟨#[x0, x1, x2, x3, x4, x5, x6, x7, x8, x9, x10, x11, x12, x13, x14, x15, x16, x17, x18, x19, x20, x21, x22, x23, x24, x25, x26, x27, x28, x29, x30, x31, x32, x33, x34, x35, x36, x37, x38, x39, x40, x41, x42, x43, x44, x45, x46, x47, x48, x49, x50, x51, x52, x53, x54, x55, x56, x57, x58, x59, x60, x61, x62, x63, x64, x65, x66, x67, x68, x69, x70, x71, x72, x73, x74, x75, x76, x77, x78, x79, x80, x81, x82, x83, x84, x85, x86, x87, x88, x89, x90, x91, x92, x93, x94, x95, x96, x97, x98, x99, x100, x101, x102, x103, x104, x105, x106, x107, x108, x109, x110, x111, x112, x113, x114, x115, x116, x117, x118, x119, x120, x121, x122, x123, x124, x125, x126, x127, x128, x129, x130, x131, x132, x133, x134, x135, x136, x137, x138, x139, x140, x141, x142, x143, x144, x145, x146, x147, x148, x149, x150, x151, x152, x153, x154, x155, x156, x157, x158, x159, x160, x161, x162, x163], h⟩ k =
obH (evC Try.prog 47 #[x6] h) fun t163_115 h116 =>
k .ret ⟨#[x0, x1, t163_115, x3, x4, x5, x6, x7, x8, x9, x10, x11, x12, x13, x14, x15, x16, x17, x18, x19, x20, x21, x22, x23, x24, x25, x26, x27, x28, x29, x30, x31, x32, x33, x34, x35, x36, x37, x38, x39, x40, x41, x42, x43, x44, x45, x46, x47, x48, x49, x50, x51, x52, x53, x54, x55, x56, x57, x58, x59, x60, x61, x62, x63, x64, x65, x66, x67, x68, x69, x70, x71, x72, x73, x74, x75, x76, x77, x78, x79, x80, x81, x82, x83, x84, x85, x86, x87, x88, x89, x90, x91, x92, x93, x94, x95, x96, x97, x98, x99, x100, x101, x102, x103, x104, x105, x106, x107, x108, x109, x110, x111, x112, x113, x114, x115, x116, x117, x118, x119, x120, x121, x122, x123, x124, x125, x126, x127, x128, x129, x130, x131, x132, x133, x134, x135, x136, x137, x138, x139, x140, x141, x142, x143, x144, x145, x146, x147, x148, x149, x150, x151, x152, x153, x154, x155, x156, x157, x158, x159, x160, x161, x6, t163_115], h116⟩ := by kernel_rfl
theorem c11_7_eq {β : Type} (x0 x1 x2 x3 x4 x5 x6 x7 x8 x9 x10 x11 x12 x13 x14 x15 x16 x17 x18 x19 x20 x21 x22 x23 x24 x25 x26 x27 x28 x29 x30 x31 x32 x33 x34 x35 x36 x37 x38 x39 x40 x41 x42 x43 x44 x45 x46 x47 x48 x49 x50 x51 x52 x53 x54 x55 x56 x57 x58 x59 x60 x61 x62 x63 x64 x65 x66 x67 x68 x69 x70 x71 x72 x73 x74 x75 x76 x77 x78 x79 x80 x81 x82 x83 x84 x85 x86 x87 x88 x89 x90 x91 x92 x93 x94 x95 x96 x97 x98 x99 x100 x101 x102 x103 x104 x105 x106 x107 x108 x109 x110 x111 x112 x113 x114 x115 x116 x117 x118 x119 x120 x121 x122 x123 x124 x125 x126 x127 x128 x129 x130 x131 x132 x133 x134 x135 x136 x137 x138 x139 x140 x141 x142 x143 x144 x145 x146 x147 x148 x149 x150 x151 x152 x153 x154 x155 x156 x157 x158 x159 x160 x161 x162 x163 : Value) (h : Heap) (k : Ex → St → Option β) : codeK Try.prog (evC Try.prog) loopL c11_7 ⟨#[x0, x1, x2, x3, x4, x5, x6, x7, x8, x9, x10, x11, x12, x13, x14, x15, x16, x17, x18, x19, x20, x21, x22, x23, x24, x25, x26, x27, x28, x29, x30, x31, x32, x33, x34, x35, x36, x37, x38, x39, x40, x41, x42, x43, x44, x45, x46, x47, x48, x49, x50, x51, x52, x53, x54, x55, x56, x57, x58, x59, x60, x61, x62, x63, x64, x65, x66, x67, x68, x69, x70, x71, x72, x73, x74, x75, x76, x77, x78, x79, x80, x81, x82, x83, x84, x85, x86, x87, x88, x89, x90, x91, x92, x93, x94, x95, x96, x97, x98, x99, x100, x101, x102, x103, x104, x105, x106, x107, x108, x109, x110, x111, x112, x113, x114, x115, x116, x117, x118, x119, x120, x121, x122, x123, x124, x125, x126, x127, x128, x129, x130, x131, x132, x133, x134, x135, x136, x137, x138, x139, x140, x141, x142, x143, x144, x145, x146, x147, x148, x149, x150, x151, x152, x153, x154, x155, x156, x157, x158, x159, x160, x161, x162, x163], h⟩ k =
(unV Try.prog .not x8).bind fun t161_117 =>
cnd t161_117 (
k .ret ⟨#[x0, x1, (Go.Value.bool Bool.false), x3, x4, x5, x6, x7, x8, x9, x10, x11, x12, x13, x14, x15, x16, x17, x18, x19, x20, x21, x22, x23, x24, x25, x26, x27, x28, x29, x30, x31, x32, x33, x34, x35, x36, x37, x38, x39, x40, x41, x42, x43, x44, x45, x46, x47, x48, x49, x50, x51, x52, x53, x54, x55, x56, x57, x58, x59, x60, x61, x62, x63, x64, x65, x66, x67, x68, x69, x70, x71, x72, x73, x74, x75, x76, x77, x78, x79, x80, x81, x82, x83, x84, x85, x86, x87, x88, x89, x90, x91, x92, x93, x94, x95, x96, x97, x98, x99, x100, x101, x102, x103, x104, x105, x106, x107, x108, x109, x110, x111, x112, x113, x114, x115, x116, x117, x118, x119, x120, x121, x122, x123, x124, x125, x126, x127, x128, x129, x130, x131, x132, x133, x134, x135, x136, x137, x138, x139, x140, x141, x142, x143, x144, x145, x146, x147, x148, x149, x150, x151, x152, x153, x154, x155, x156, x157, x158, x159, x8, t161_117, x162, x163], h⟩) (
k .normal ⟨#[x0, x1, x2, x3, x4, x5, x6, x7, x8, x9, x10, x11, x12, x13, x14, x15, x16, x17, x18, x19, x20, x21, x22, x23, x24, x25, x26, x27, x28, x29, x30, x31, x32, x33, x34, x35, x36, x37, x38, x39, x40, x41, x42, x43, x44, x45, x46, x47, x48, x49, x50, x51, x52, x53, x54, x55, x56, x57, x58, x59, x60, x61, x62, x63, x64, x65, x66, x67, x68, x69, x70, x71, x72, x73, x74, x75, x76, x77, x78, x79, x80, x81, x82, x83, x84, x85, x86, x87, x88, x89, x90, x91, x92, x93, x94, x95, x96, x97, x98, x99, x100, x101, x102, x103, x104, x105, x106, x107, x108, x109, x110, x111, x112, x113, x114, x115, x116, x117, x118, x119, x120, x121, x122, x123, x124, x125, x126, x127, x128, x129, x130, x131, x132, x133, x134, x135, x136, x137, x138, x139, x140, x141, x142, x143, x144, x145, x146, x147, x148, x149, x150, x151, x152, x153, x154, x155, x156, x157, x158, x159, x8, t161_117, x162, x163], h⟩) := by kernel_rfl
theorem c11_8_eq {β : Type} (x0 x1 x2 x3 x4 x5 x6 x7 x8 x9 x10 x11 x12 x13 x14 x15 x16 x17 x18 x19 x20 x21 x22 x23 x24 x25 x26 x27 x28 x29 x30 x31 x32 x33 x34 x35 x36 x37 x38 x39 x40 x41 x42 x43 x44 x45 x46 x47 x48 x49 x50 x51 x52 x53 x54 x55 x56 x57 x58 x59 x60 x61 x62 x63 x64 x65 x66 x67 x68 x69 x70 x71 x72 x73 x74 x75 x76 x77 x78 x79 x80 x81 x82 x83 x84 x85 x86 x87 x88 x89 x90 x91 x92 x93 x94 x95 x96 x97 x98 x99 x100 x101 x102 x103 x104 x105 x106 x107 x108 x109 x110 x111 x112 x113 x114 x115 x116 x117 x118 x119 x120 x121 x122 x123 x124 x125 x126 x127 x128 x129 x130 x131 x132 x133 x134 x135 x136 x137 x138 x139 x140 x141 x142 x143 x144 x145 x146 x147 x148 x149 x150 x151 x152 x153 x154 x155 x156 x157 x158 x159 x160 x161 x162 x163 : Value) (h : Heap) (k : Ex → St → Option β) : codeK Try.prog (evC Try.prog) loopL c11_8 ⟨#[x0, x1, x2, x3, x4, x5, x6, x7, x8, x9, x10, x11, x12, x13, x14, x15, x16, x17, x18, x19, x20, x21, x22, x23, x24, x25, x26, x27, x28, x29, x30, x31, x32, x33, x34, x35, x36, x37, x38, x39, x40, x41, x42, x43, x44, x45, x46, x47, x48, x49, x50, x51, x52, x53, x54, x55, x56, x57, x58, x59, x60, x61, x62, x63, x64, x65, x66, x67, x68, x69, x70, x71, x72, x73, x74, x75, x76, x77, x78, x79, x80, x81, x82, x83, x84, x85, x86, x87, x88, x89, x90, x91, x92, x93, x94, x95, x96, x97, x98, x99, x100, x101, x102, x103, x104, x105, x106, x107, x108, x109, x110, x111, x112, x113, x114, x115, x116, x117, x118, x119, x120, x121, x122, x123, x124, x125, x126, x127, x128, x129, x130, x131, x132, x133, x134, x135, x136, x137, x138, x139, x140, x141, x142, x143, x144, x145, x146, x147, x148, x149, x150, x151, x152, x153, x154, x155, x156, x157, x158, x159, x160, x161, x162, x163], h⟩ k =
(binV Try.prog .add 3 (.tmp 113) (.const (Go.Value.int Go.IntKind.i64 1)) x7 (Go.Value.int Go.IntKind.i64 1)).bind fun t114_118 =>
k .normal ⟨#[x0, x1, x2, x3, x4, x5, x6, t114_118, x8, x9, x10, x11, x12, x13, x14, x15, x16, x17, x18, x19, x20, x21, x22, x23, x24, x25, x26, x27, x28, x29, x30, x31, x32, x33, x34, x35, x36, x37, x38, x39, x40, x41, x42, x43, x44, x45, x46, x47, x48, x49, x50, x51, x52, x53, x54, x55, x56, x57, x58, x59, x60, x61, x62, x63, x64, x65, x66, x67, x68, x69, x70, x71, x72, x73, x74, x75, x76, x77, x78, x79, x80, x81, x82, x83, x84, x85, x86, x87, x88, x89, x90, x91, x92, x93, x94, x95, x96, x97, x98, x99, x100, x101, x102, x103, x104, x105, x106, x107, x108, x109, x110, x111, x112, x7, t114_118, x115, x116, x117, x118, x119, x120, x121, x122, x123, x124, x125, x126, x127, x128, x129, x130, x131, x132, x133, x134, x135, x136, x137, x138, x139, x140, x141, x142, x143, x144, x145, x146, x147, x148, x149, x150, x151, x152, x153, x154, x155, x156, x157, x158, x159, x160, x161, x162, x163], h⟩ := by kernel_rfl
theorem call11 (x0 : Value) (h : Heap) : evC Try.prog 11 #[x0] h = codeK Try.prog (evC Try.prog) loopL c11_0 ⟨#[x0, undef, undef, undef, undef, undef, undef, undef, undef, undef, undef, undef, undef, undef, undef, undef, undef, undef, undef, undef, undef, undef, undef, undef, undef, undef, undef, undef, undef, undef, undef, undef, undef, undef, undef, undef, undef, undef, undef, undef, undef, undef, undef, undef, undef, undef, undef, undef, undef, undef, undef, undef, undef, undef, undef, undef, undef, undef, undef, undef, undef, undef, undef, undef, undef, undef, undef, undef, undef, undef, undef, undef, undef, undef, undef, undef, undef, undef, undef, undef, undef, undef, undef, undef, undef, undef, undef, undef, undef, undef, undef, undef, undef, undef, undef, undef, undef, undef, undef, undef, undef, undef, undef, undef, undef, undef, undef, undef, undef, undef, undef, undef, undef, undef, undef, undef, undef, undef, undef, undef, undef, undef, undef, undef, undef, undef, undef, undef, undef, undef, undef, undef, undef, undef, undef, undef, undef, undef, undef, undef, undef, undef, undef, undef, undef, undef, undef, undef, undef, undef, undef, undef, undef, undef, undef, undef, undef, undef, undef, undef, undef, undef, undef, undef], nm h⟩ (retK Try.f11 Try.prog h) :=
  (evC_call 11 Try.f11 c11_0 Try.func11 (by kernel_rfl) #[x0] h).trans (by kernel_rfl)
theorem ret11 (x0 x1 x2 x3 x4 x5 x6 x7 x8 x9 x10 x11 x12 x13 x14 x15 x16 x17 x18 x19 x20 x21 x22 x23 x24 x25 x26 x27 x28 x29 x30 x31 x32 x33 x34 x35 x36 x37 x38 x39 x40 x41 x42 x43 x44 x45 x46 x47 x48 x49 x50 x51 x52 x53 x54 x55 x56 x57 x58 x59 x60 x61 x62 x63 x64 x65 x66 x67 x68 x69 x70 x71 x72 x73 x74 x75 x76 x77 x78 x79 x80 x81 x82 x83 x84 x85 x86 x87 x88 x89 x90 x91 x92 x93 x94 x95 x96 x97 x98 x99 x100 x101 x102 x103 x104 x105 x106 x107 x108 x109 x110 x111 x112 x113 x114 x115 x116 x117 x118 x119 x120 x121 x122 x123 x124 x125 x126 x127 x128 x129 x130 x131 x132 x133 x134 x135 x136 x137 x138 x139 x140 x141 x142 x143 x144 x145 x146 x147 x148 x149 x150 x151 x152 x153 x154 x155 x156 x157 x158 x159 x160 x161 x162 x163 : Value) (h0 h : Heap) : retK Try.f11 Try.prog h0 .ret ⟨#[x0, x1, x2, x3, x4, x5, x6, x7, x8, x9, x10, x11, x12, x13, x14, x15, x16, x17, x18, x19, x20, x21, x22, x23, x24, x25, x26, x27, x28, x29, x30, x31, x32, x33, x34, x35, x36, x37, x38, x39, x40, x41, x42, x43, x44, x45, x46, x47, x48, x49, x50, x51, x52, x53, x54, x55, x56, x57, x58, x59, x60, x61, x62, x63, x64, x65, x66, x67, x68, x69, x70, x71, x72, x73, x74, x75, x76, x77, x78, x79, x80, x81, x82, x83, x84, x85, x86, x87, x88, x89, x90, x91, x92, x93, x94, x95, x96, x97, x98, x99, x100, x101, x102, x103, x104, x105, x106, x107, x108, x109, x110, x111, x112, x113, x114, x115, x116, x117, x118, x119, x120, x121, x122, x123, x124, x125, x126, x127, x128, x129, x130, x131, x132, x133, x134, x135, x136, x137, x138, x139, x140, x141, x142, x143, x144, x145, x146, x147, x148, x149, x150, x151, x152, x153, x154, x155, x156, x157, x158, x159, x160, x161, x162, x163], h⟩ = fin h0 (some x2) h := by kernel_rfl
theorem retn11 (x0 x1 x2 x3 x4 x5 x6 x7 x8 x9 x10 x11 x12 x13 x14 x15 x16 x17 x18 x19 x20 x21 x22 x23 x24 x25 x26 x27 x28 x29 x30 x31 x32 x33 x34 x35 x36 x37 x38 x39 x40 x41 x42 x43 x44 x45 x46 x47 x48 x49 x50 x51 x52 x53 x54 x55 x56 x57 x58 x59 x60 x61 x62 x63 x64 x65 x66 x67 x68 x69 x70 x71 x72 x73 x74 x75 x76 x77 x78 x79 x80 x81 x82 x83 x84 x85 x86 x87 x88 x89 x90 x91 x92 x93 x94 x95 x96 x97 x98 x99 x100 x101 x102 x103 x104 x105 x106 x107 x108 x109 x110 x111 x112 x113 x114 x115 x116 x117 x118 x119 x120 x121 x122 x123 x124 x125 x126 x127 x128 x129 x130 x131 x132 x133 x134 x135 x136 x137 x138 x139 x140 x141 x142 x143 x144 x145 x146 x147 x148 x149 x150 x151 x152 x153 x154 x155 x156 x157 x158 x159 x160 x161 x162 x163 : Value) (h0 h : Heap) : retK Try.f11 Try.prog h0 .normal ⟨#[x0, x1, x2, x3, x4, x5, x6, x7, x8, x9, x10, x11, x12, x13, x14, x15, x16, x17, x18, x19, x20, x21, x22, x23, x24, x25, x26, x27, x28, x29, x30, x31, x32, x33, x34, x35, x36, x37, x38, x39, x40, x41, x42, x43, x44, x45, x46, x47, x48, x49, x50, x51, x52, x53, x54, x55, x56, x57, x58, x59, x60, x61, x62, x63, x64, x65, x66, x67, x68, x69, x70, x71, x72, x73, x74, x75, x76, x77, x78, x79, x80, x81, x82, x83, x84, x85, x86, x87, x88, x89, x90, x91, x92, x93, x94, x95, x96, x97, x98, x99, x100, x101, x102, x103, x104, x105, x106, x107, x108, x109, x110, x111, x112, x113, x114, x115, x116, x117, x118, x119, x120, x121, x122, x123, x124, x125, x126, x127, x128, x129, x130, x131, x132, x133, x134, x135, x136, x137, x138, x139, x140, x141, x142, x143, x144, x145, x146, x147, x148, x149, x150, x151, x152, x153, x154, x155, x156, x157, x158, x159, x160, x161, x162, x163], h⟩ = fin h0 (some x2) h := by kernel_rfl
end Go.Am
