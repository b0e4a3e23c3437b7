/- What the texts of functions come to in the machine (printed by a program of this seat; Lean checks it). -/
import Derived.Test.YtojjjicjpimhoaaKB
import Derived.Test.YtojjjicjpimhoaaChecked
import Derived.KernelRfl
set_option linter.all false
namespace Go.Am
open Go.Proofs
set_option maxRecDepth 100000
noncomputable def c80_0 : Code := bodyC Try.f80 []
theorem c80_0_eq {β : Type} (x0 x1 x2 x3 x4 x5 x6 x7 x8 : Value) (h : Heap) (k : Ex → St → Option β) : codeK Try.prog (evC Try.prog) loopL c80_0 ⟨#[x0, x1, x2, x3, x4, x5, x6, x7, x8], h⟩ k =
obH (builtinV Try.prog .max #[3, 3] #[x0, (Go.Value.int Go.IntKind.i64 0)] h) fun t4_0 h1 =>
obH (builtinV Try.prog .min #[3, 3] #[t4_0, (Go.Value.int Go.IntKind.i64 64)] h1) fun t5_2 h3 =>
(binV Try.prog .shl 47 (.const (Go.Value.int Go.IntKind.u64 1)) (.tmp 6) (Go.Value.int Go.IntKind.u64 1) t5_2).bind fun t7_4 =>
(binV Try.prog .sub 47 (.tmp 7) (.const (Go.Value.int Go.IntKind.u64 1)) t7_4 (Go.Value.int Go.IntKind.u64 1)).bind fun t8_5 =>
k .ret ⟨#[t5_2, x1, t8_5, x0, t4_0, t5_2, t5_2, t7_4, t8_5], h3⟩ := by kernel_rfl
theorem call80 (x0 : Value) (h : Heap) : evC Try.prog 80 #[x0] h = codeK Try.prog (evC Try.prog) loopL c80_0 ⟨#[x0, undef, undef, undef, undef, undef, undef, undef, undef], nm h⟩ (retK Try.f80 Try.prog h) :=
  (evC_call 80 Try.f80 c80_0 Try.func80 (by kernel_rfl) #[x0] h).trans (by kernel_rfl)
theorem ret80 (x0 x1 x2 x3 x4 x5 x6 x7 x8 : Value) (h0 h : Heap) : retK Try.f80 Try.prog h0 .ret ⟨#[x0, x1, x2, x3, x4, x5, x6, x7, x8], h⟩ = fin h0 (some x2) h := by kernel_rfl
theorem retn80 (x0 x1 x2 x3 x4 x5 x6 x7 x8 : Value) (h0 h : Heap) : retK Try.f80 Try.prog h0 .normal ⟨#[x0, x1, x2, x3, x4, x5, x6, x7, x8], h⟩ = fin h0 (some x2) h := by kernel_rfl
end Go.Am
namespace Go.Am
open Go.Proofs
set_option maxRecDepth 100000
noncomputable def c112_0 : Code := bodyC Try.f112 []
theorem c112_0_eq {β : Type} (x0 x1 x2 x3 x4 x5 x6 x7 x8 x9 x10 x11 x12 x13 x14 x15 x16 x17 : Value) (h : Heap) (k : Ex → St → Option β) : codeK Try.prog (evC Try.prog) loopL c112_0 ⟨#[x0, x1, x2, x3, x4, x5, x6, x7, x8, x9, x10, x11, x12, x13, x14, x15, x16, x17], h⟩ k =
(binV Try.prog .geq 3 (.tmp 5) (.const (Go.Value.int Go.IntKind.i64 0)) x1 (Go.Value.int Go.IntKind.i64 0)).bind fun t6_0 =>
(gd (wt t6_0 true) (binV Try.prog .lss 3 (.tmp 8) (.const (Go.Value.int Go.IntKind.i64 64)) (gdV (wt t6_0 true) x1) (Go.Value.int Go.IntKind.i64 64))).bind fun t9_1 =>
(pickV t6_0 t9_1 (Go.Value.bool Bool.false)).bind fun t10_2 =>
(gd (wt t10_2 true) (binV Try.prog .shr 47 (.tmp 12) (.tmp 13) (gdV (wt t10_2 true) x0) (gdV (wt t10_2 true) x1))).bind fun t14_3 =>
(gd (wt t10_2 true) (binV Try.prog .and 47 (.tmp 14) (.const (Go.Value.int Go.IntKind.u64 1)) t14_3 (Go.Value.int Go.IntKind.u64 1))).bind fun t15_4 =>
(gd (wt t10_2 true) (binV Try.prog .eql 47 (.tmp 15) (.const (Go.Value.int Go.IntKind.u64 1)) t15_4 (Go.Value.int Go.IntKind.u64 1))).bind fun t16_5 =>
(pickV t10_2 t16_5 (Go.Value.bool Bool.false)).bind fun t17_6 =>
k .ret ⟨#[x0, x1, x2, x3, t17_6, x1, t6_0, t6_0, (gdV (wt t6_0 true) x1), t9_1, t10_2, t10_2, (gdV (wt t10_2 true) x0), (gdV (wt t10_2 true) x1), t14_3, t15_4, t16_5, t17_6], h⟩ := by kernel_rfl
theorem call112 (x0 x1 : Value) (h : Heap) : evC Try.prog 112 #[x0, x1] h = codeK Try.prog (evC Try.prog) loopL c112_0 ⟨#[x0, x1, undef, undef, undef, undef, undef, undef, undef, undef, undef, undef, undef, undef, undef, undef, undef, undef], nm h⟩ (retK Try.f112 Try.prog h) :=
  (evC_call 112 Try.f112 c112_0 Try.func112 (by kernel_rfl) #[x0, x1] h).trans (by kernel_rfl)
theorem ret112 (x0 x1 x2 x3 x4 x5 x6 x7 x8 x9 x10 x11 x12 x13 x14 x15 x16 x17 : Value) (h0 h : Heap) : retK Try.f112 Try.prog h0 .ret ⟨#[x0, x1, x2, x3, x4, x5, x6, x7, x8, x9, x10, x11, x12, x13, x14, x15, x16, x17], h⟩ = fin h0 (some x4) h := by kernel_rfl
theorem retn112 (x0 x1 x2 x3 x4 x5 x6 x7 x8 x9 x10 x11 x12 x13 x14 x15 x16 x17 : Value) (h0 h : Heap) : retK Try.f112 Try.prog h0 .normal ⟨#[x0, x1, x2, x3, x4, x5, x6, x7, x8, x9, x10, x11, x12, x13, x14, x15, x16, x17], h⟩ = fin h0 (some x4) h := by kernel_rfl
end Go.Am
namespace Go.Am
open Go.Proofs
set_option maxRecDepth 100000
noncomputable def c114_0 : Code := bodyC Try.f114 []
theorem c114_0_eq {β : Type} (x0 x1 x2 x3 x4 x5 x6 x7 x8 x9 x10 x11 x12 x13 x14 x15 x16 x17 x18 : Value) (h : Heap) (k : Ex → St → Option β) : codeK Try.prog (evC Try.prog) loopL c114_0 ⟨#[x0, x1, x2, x3, x4, x5, x6, x7, x8, x9, x10, x11, x12, x13, x14, x15, x16, x17, x18], h⟩ k =
(binV Try.prog .geq 3 (.tmp 5) (.const (Go.Value.int Go.IntKind.i64 0)) x1 (Go.Value.int Go.IntKind.i64 0)).bind fun t6_0 =>
(gd (wt t6_0 true) (binV Try.prog .leq 3 (.tmp 8) (.const (Go.Value.int Go.IntKind.i64 63)) (gdV (wt t6_0 true) x1) (Go.Value.int Go.IntKind.i64 63))).bind fun t9_1 =>
(pickV t6_0 t9_1 (Go.Value.bool Bool.false)).bind fun t10_2 =>
obH (gdH (wt t10_2 true) h (convV Try.prog 3 138 (gdV (wt t10_2 true) x1) h)) fun t14_3 h4 =>
(gd (wt t10_2 true) (binV Try.prog .shr 46 (.tmp 12) (.tmp 14) (gdV (wt t10_2 true) x0) t14_3)).bind fun t15_5 =>
(gd (wt t10_2 true) (binV Try.prog .and 46 (.tmp 15) (.const (Go.Value.int Go.IntKind.u64 1)) t15_5 (Go.Value.int Go.IntKind.u64 1))).bind fun t16_6 =>
(gd (wt t10_2 true) (binV Try.prog .eql 46 (.tmp 16) (.const (Go.Value.int Go.IntKind.u64 1)) t16_6 (Go.Value.int Go.IntKind.u64 1))).bind fun t17_7 =>
(pickV t10_2 t17_7 (Go.Value.bool Bool.false)).bind fun t18_8 =>
k .ret ⟨#[x0, x1, x2, x3, t18_8, x1, t6_0, t6_0, (gdV (wt t6_0 true) x1), t9_1, t10_2, t10_2, (gdV (wt t10_2 true) x0), (gdV (wt t10_2 true) x1), t14_3, t15_5, t16_6, t17_7, t18_8], h4⟩ := by kernel_rfl
theorem call114 (x0 x1 : Value) (h : Heap) : evC Try.prog 114 #[x0, x1] h = codeK Try.prog (evC Try.prog) loopL c114_0 ⟨#[x0, x1, undef, undef, undef, undef, undef, undef, undef, undef, undef, undef, undef, undef, undef, undef, undef, undef, undef], nm h⟩ (retK Try.f114 Try.prog h) :=
  (evC_call 114 Try.f114 c114_0 Try.func114 (by kernel_rfl) #[x0, x1] h).trans (by kernel_rfl)
theorem ret114 (x0 x1 x2 x3 x4 x5 x6 x7 x8 x9 x10 x11 x12 x13 x14 x15 x16 x17 x18 : Value) (h0 h : Heap) : retK Try.f114 Try.prog h0 .ret ⟨#[x0, x1, x2, x3, x4, x5, x6, x7, x8, x9, x10, x11, x12, x13, x14, x15, x16, x17, x18], h⟩ = fin h0 (some x4) h := by kernel_rfl
theorem retn114 (x0 x1 x2 x3 x4 x5 x6 x7 x8 x9 x10 x11 x12 x13 x14 x15 x16 x17 x18 : Value) (h0 h : Heap) : retK Try.f114 Try.prog h0 .normal ⟨#[x0, x1, x2, x3, x4, x5, x6, x7, x8, x9, x10, x11, x12, x13, x14, x15, x16, x17, x18], h⟩ = fin h0 (some x4) h := by kernel_rfl
end Go.Am
namespace Go.Am
open Go.Proofs
set_option maxRecDepth 100000
noncomputable def c124_0 : Code := bodyC Try.f124 []
noncomputable def c124_1 : Code := bodyC Try.f124 [true, true, false, false, false]
noncomputable def c124_2 : Code := bodyC Try.f124 [true, true, true]
theorem c124_0_eq {β : Type} (x0 x1 x2 x3 x4 x5 x6 x7 x8 x9 x10 : Value) (h : Heap) (k : Ex → St → Option β) : codeK Try.prog (evC Try.prog) loopL c124_0 ⟨#[x0, x1, x2, x3, x4, x5, x6, x7, x8, x9, x10], h⟩ k =
loopK Try.prog (evC Try.prog) c124_1 ⟨#[x0, x1, (Go.Value.int Go.IntKind.i64 0), (Go.Value.int Go.IntKind.i64 1), x4, x5, x6, x7, x8, x9, x10], h⟩ (blockK 0 (seqK Try.prog (evC Try.prog) c124_2 k)) := by kernel_rfl
theorem c124_1_eq {β : Type} (x0 x1 x2 x3 x4 x5 x6 x7 x8 x9 x10 : Value) (h : Heap) (k : Ex → St → Option β) : codeK Try.prog (evC Try.prog) loopL c124_1 ⟨#[x0, x1, x2, x3, x4, x5, x6, x7, x8, x9, x10], h⟩ k =
(binV Try.prog .geq 46 (.tmp 4) (.const (Go.Value.int Go.IntKind.u64 128)) x0 (Go.Value.int Go.IntKind.u64 128)).bind fun t5_0 =>
cnd t5_0 (
(binV Try.prog .shr 46 (.tmp 6) (.const (Go.Value.int Go.IntKind.u64 7)) x0 (Go.Value.int Go.IntKind.u64 7)).bind fun t7_1 =>
(binV Try.prog .add 3 (.tmp 8) (.const (Go.Value.int Go.IntKind.i64 1)) x3 (Go.Value.int Go.IntKind.i64 1)).bind fun t9_2 =>
k .normal ⟨#[t7_1, x1, x2, t9_2, x0, t5_0, x0, t7_1, x3, t9_2, x10], h⟩) (
k (.exit 0) ⟨#[x0, x1, x2, x3, x0, t5_0, x6, x7, x8, x9, x10], h⟩) := by kernel_rfl
theorem c124_2_eq {β : Type} (x0 x1 x2 x3 x4 x5 x6 x7 x8 x9 x10 : Value) (h : Heap) (k : Ex → St → Option β) : codeK Try.prog (evC Try.prog) loopL c124_2 ⟨#[x0, x1, x2, x3, x4, x5, x6, x7, x8, x9, x10], h⟩ k =
k .ret ⟨#[x0, x1, x3, x3, x4, x5, x6, x7, x8, x9, x3], h⟩ := by kernel_rfl
theorem call124 (x0 : Value) (h : Heap) : evC Try.prog 124 #[x0] h = codeK Try.prog (evC Try.prog) loopL c124_0 ⟨#[x0, undef, undef, undef, undef, undef, undef, undef, undef, undef, undef], nm h⟩ (retK Try.f124 Try.prog h) :=
  (evC_call 124 Try.f124 c124_0 Try.func124 (by kernel_rfl) #[x0] h).trans (by kernel_rfl)
theorem ret124 (x0 x1 x2 x3 x4 x5 x6 x7 x8 x9 x10 : Value) (h0 h : Heap) : retK Try.f124 Try.prog h0 .ret ⟨#[x0, x1, x2, x3, x4, x5, x6, x7, x8, x9, x10], h⟩ = fin h0 (some x2) h := by kernel_rfl
theorem retn124 (x0 x1 x2 x3 x4 x5 x6 x7 x8 x9 x10 : Value) (h0 h : Heap) : retK Try.f124 Try.prog h0 .normal ⟨#[x0, x1, x2, x3, x4, x5, x6, x7, x8, x9, x10], h⟩ = fin h0 (some x2) h := by kernel_rfl
end Go.Am
namespace Go.Am
open Go.Proofs
set_option maxRecDepth 100000
noncomputable def c94_0 : Code := bodyC Try.f94 []
noncomputable def c94_1 : Code := bodyC Try.f94 [true, true, false, false, false]
noncomputable def c94_2 : Code := bodyC Try.f94 [true, true, true]
theorem c94_0_eq {β : Type} (x0 x1 x2 x3 x4 x5 x6 x7 x8 x9 x10 x11 x12 x13 x14 x15 x16 x17 x18 x19 x20 x21 x22 : Value) (h : Heap) (k : Ex → St → Option β) : codeK Try.prog (evC Try.prog) loopL c94_0 ⟨#[x0, x1, x2, x3, x4, x5, x6, x7, x8, x9, x10, x11, x12, x13, x14, x15, x16, x17, x18, x19, x20, x21, x22], h⟩ k =
obH (appendV Try.prog 23 (some 23) (Go.Value.slice Option.none 0 0) x0 h) fun t7_0 h1 =>
loopK Try.prog (evC Try.prog) c94_1 ⟨#[x0, x1, x2, x3, (Go.Value.slice Option.none 0 0), t7_0, x0, t7_0, x8, x9, x10, x11, x12, x13, x14, x15, x16, x17, x18, x19, x20, x21, x22], h1⟩ (blockK 0 (seqK Try.prog (evC Try.prog) c94_2 k)) := by kernel_rfl
theorem c94_1_eq {β : Type} (x0 x1 x2 x3 x4 x5 x6 x7 x8 x9 x10 x11 x12 x13 x14 x15 x16 x17 x18 x19 x20 x21 x22 : Value) (h : Heap) (k : Ex → St → Option β) : codeK Try.prog (evC Try.prog) loopL c94_1 ⟨#[x0, x1, x2, x3, x4, x5, x6, x7, x8, x9, x10, x11, x12, x13, x14, x15, x16, x17, x18, x19, x20, x21, x22], h⟩ k =
(binV Try.prog .geq 46 (.tmp 8) (.const (Go.Value.int Go.IntKind.u64 128)) x1 (Go.Value.int Go.IntKind.u64 128)).bind fun t9_2 =>
cnd t9_2 (
obH (convV Try.prog 46 5 x1 h) fun t12_3 h4 =>
(binV Try.prog .or 5 (.tmp 12) (.const (Go.Value.int Go.IntKind.u8 128)) t12_3 (Go.Value.int Go.IntKind.u8 128)).bind fun t13_5 =>
obH (buildSliceV Try.prog 23 1 #[(0, t13_5)] h4) fun t14_6 h7 =>
obH (appendV Try.prog 23 (some 23) x5 t14_6 h7) fun t15_8 h9 =>
(binV Try.prog .shr 46 (.tmp 16) (.const (Go.Value.int Go.IntKind.u64 7)) x1 (Go.Value.int Go.IntKind.u64 7)).bind fun t17_10 =>
k .normal ⟨#[x0, t17_10, x2, x3, x4, t15_8, x6, x7, x1, t9_2, x5, x1, t12_3, t13_5, t14_6, t15_8, x1, t17_10, x18, x19, x20, x21, x22], h9⟩) (
k (.exit 0) ⟨#[x0, x1, x2, x3, x4, x5, x6, x7, x1, t9_2, x10, x11, x12, x13, x14, x15, x16, x17, x18, x19, x20, x21, x22], h⟩) := by kernel_rfl
theorem c94_2_eq {β : Type} (x0 x1 x2 x3 x4 x5 x6 x7 x8 x9 x10 x11 x12 x13 x14 x15 x16 x17 x18 x19 x20 x21 x22 : Value) (h : Heap) (k : Ex → St → Option β) : codeK Try.prog (evC Try.prog) loopL c94_2 ⟨#[x0, x1, x2, x3, x4, x5, x6, x7, x8, x9, x10, x11, x12, x13, x14, x15, x16, x17, x18, x19, x20, x21, x22], h⟩ k =
obH (convV Try.prog 46 5 x1 h) fun t20_11 h12 =>
obH (buildSliceV Try.prog 23 1 #[(0, t20_11)] h12) fun t21_13 h14 =>
obH (appendV Try.prog 23 (some 23) x5 t21_13 h14) fun t22_15 h16 =>
k .ret ⟨#[x0, x1, x2, x3, t22_15, x5, x6, x7, x8, x9, x10, x11, x12, x13, x14, x15, x16, x17, x5, x1, t20_11, t21_13, t22_15], h16⟩ := by kernel_rfl
theorem call94 (x0 x1 : Value) (h : Heap) : evC Try.prog 94 #[x0, x1] h = codeK Try.prog (evC Try.prog) loopL c94_0 ⟨#[x0, x1, undef, undef, undef, undef, undef, undef, undef, undef, undef, undef, undef, undef, undef, undef, undef, undef, undef, undef, undef, undef, undef], nm h⟩ (retK Try.f94 Try.prog h) :=
  (evC_call 94 Try.f94 c94_0 Try.func94 (by kernel_rfl) #[x0, x1] h).trans (by kernel_rfl)
theorem ret94 (x0 x1 x2 x3 x4 x5 x6 x7 x8 x9 x10 x11 x12 x13 x14 x15 x16 x17 x18 x19 x20 x21 x22 : Value) (h0 h : Heap) : retK Try.f94 Try.prog h0 .ret ⟨#[x0, x1, x2, x3, x4, x5, x6, x7, x8, x9, x10, x11, x12, x13, x14, x15, x16, x17, x18, x19, x20, x21, x22], h⟩ = fin h0 (some x4) h := by kernel_rfl
theorem retn94 (x0 x1 x2 x3 x4 x5 x6 x7 x8 x9 x10 x11 x12 x13 x14 x15 x16 x17 x18 x19 x20 x21 x22 : Value) (h0 h : Heap) : retK Try.f94 Try.prog h0 .normal ⟨#[x0, x1, x2, x3, x4, x5, x6, x7, x8, x9, x10, x11, x12, x13, x14, x15, x16, x17, x18, x19, x20, x21, x22], h⟩ = fin h0 (some x4) h := by kernel_rfl
end Go.Am
namespace Go.Am
open Go.Proofs
set_option maxRecDepth 100000
noncomputable def c96_0 : Code := bodyC Try.f96 []
noncomputable def c96_1 : Code := bodyC Try.f96 [true, false, true, false, false]
noncomputable def c96_2 : Code := bodyC Try.f96 [true, true]
theorem c96_0_eq {β : Type} (x0 x1 x2 x3 x4 x5 x6 x7 x8 x9 x10 x11 x12 x13 x14 x15 x16 x17 x18 x19 x20 x21 x22 x23 x24 x25 x26 x27 x28 x29 x30 x31 x32 x33 x34 x35 x36 x37 x38 x39 x40 x41 : Value) (h : Heap) (k : Ex → St → Option β) : codeK Try.prog (evC Try.prog) loopL c96_0 ⟨#[x0, x1, x2, x3, x4, x5, x6, x7, x8, x9, x10, x11, x12, x13, x14, x15, x16, x17, x18, x19, x20, x21, x22, x23, x24, x25, x26, x27, x28, x29, x30, x31, x32, x33, x34, x35, x36, x37, x38, x39, x40, x41], h⟩ k =
(lenV Try.prog 23 x0 h).bind fun t7_0 =>
loopK Try.prog (evC Try.prog) c96_1 ⟨#[x0, x1, (Go.Value.int Go.IntKind.u64 0), (Go.Value.int Go.IntKind.i64 0), x4, x5, x0, t7_0, (Go.Value.int Go.IntKind.i64 0), x9, x10, x11, x12, x13, x14, x15, x16, x17, x18, x19, x20, x21, x22, x23, x24, x25, x26, x27, x28, x29, x30, x31, x32, x33, x34, x35, x36, x37, x38, x39, x40, x41], h⟩ (blockK 0 (seqK Try.prog (evC Try.prog) c96_2 k)) := by kernel_rfl
theorem c96_1_eq {β : Type} (x0 x1 x2 x3 x4 x5 x6 x7 x8 x9 x10 x11 x12 x13 x14 x15 x16 x17 x18 x19 x20 x21 x22 x23 x24 x25 x26 x27 x28 x29 x30 x31 x32 x33 x34 x35 x36 x37 x38 x39 x40 x41 : Value) (h : Heap) (k : Ex → St → Option β) : codeK Try.prog (evC Try.prog) loopL c96_1 ⟨#[x0, x1, x2, x3, x4, x5, x6, x7, x8, x9, x10, x11, x12, x13, x14, x15, x16, x17, x18, x19, x20, x21, x22, x23, x24, x25, x26, x27, x28, x29, x30, x31, x32, x33, x34, x35, x36, x37, x38, x39, x40, x41], h⟩ k =
(binV Try.prog .lss 3 (.tmp 8) (.tmp 7) x8 x7).bind fun t9_1 =>
cnd t9_1 (
(indexAddrV Try.prog 23 x6 x8).bind fun t11_2 =>
(loadV Try.prog 5 t11_2 h).bind fun t12_3 =>
(binV Try.prog .eql 3 (.tmp 13) (.const (Go.Value.int Go.IntKind.i64 10)) x8 (Go.Value.int Go.IntKind.i64 10)).bind fun t14_4 =>
cnd t14_4 (
k (.exit 0) ⟨#[x0, x1, x2, x3, x8, t12_3, x6, x7, x8, t9_1, x8, t11_2, t12_3, x8, t14_4, x15, x16, x17, x18, x19, x20, x21, x22, x23, x24, x25, x26, x27, x28, x29, x30, x31, x32, x33, x34, x35, x36, x37, x38, x39, x40, x41], h⟩) (
(binV Try.prog .and 5 (.tmp 16) (.const (Go.Value.int Go.IntKind.u8 127)) t12_3 (Go.Value.int Go.IntKind.u8 127)).bind fun t17_5 =>
obH (convV Try.prog 5 46 t17_5 h) fun t18_6 h7 =>
(binV Try.prog .mul 3 (.const (Go.Value.int Go.IntKind.i64 7)) (.tmp 19) (Go.Value.int Go.IntKind.i64 7) x8).bind fun t20_8 =>
(binV Try.prog .shl 46 (.tmp 18) (.tmp 20) t18_6 t20_8).bind fun t21_9 =>
(binV Try.prog .or 46 (.tmp 15) (.tmp 21) x2 t21_9).bind fun t22_10 =>
(binV Try.prog .lss 5 (.tmp 23) (.const (Go.Value.int Go.IntKind.u8 128)) t12_3 (Go.Value.int Go.IntKind.u8 128)).bind fun t24_11 =>
cnd t24_11 (
obH (evC Try.prog 124 #[t22_10] h7) fun t26_12 h13 =>
(binV Try.prog .add 3 (.tmp 27) (.const (Go.Value.int Go.IntKind.i64 1)) x8 (Go.Value.int Go.IntKind.i64 1)).bind fun t28_14 =>
(binV Try.prog .neq 3 (.tmp 26) (.tmp 28) t26_12 t28_14).bind fun t29_15 =>
(gd (wt t29_15 false) (binV Try.prog .eql 3 (.tmp 31) (.const (Go.Value.int Go.IntKind.i64 9)) (gdV (wt t29_15 false) x8) (Go.Value.int Go.IntKind.i64 9))).bind fun t32_16 =>
(gd (wt (gdV (wt t29_15 false) t32_16) true) (binV Try.prog .gtr 5 (.tmp 34) (.const (Go.Value.int Go.IntKind.u8 1)) (gdV (wt (gdV (wt t29_15 false) t32_16) true) t12_3) (Go.Value.int Go.IntKind.u8 1))).bind fun t35_17 =>
(gd (wt t29_15 false) (pickV (gdV (wt t29_15 false) t32_16) t35_17 (Go.Value.bool Bool.false))).bind fun t36_18 =>
(pickV t29_15 (Go.Value.bool Bool.true) t36_18).bind fun t37_19 =>
cnd t37_19 (
k (.exit 0) ⟨#[x0, x1, t22_10, x3, x8, t12_3, x6, x7, x8, t9_1, x8, t11_2, t12_3, x8, t14_4, x2, t12_3, t17_5, t18_6, x8, t20_8, t21_9, t22_10, t12_3, t24_11, t22_10, t26_12, x8, t28_14, t29_15, t29_15, (gdV (wt t29_15 false) x8), t32_16, (gdV (wt t29_15 false) t32_16), (gdV (wt (gdV (wt t29_15 false) t32_16) true) t12_3), t35_17, t36_18, t37_19, x38, x39, x40, x41], h13⟩) (
(binV Try.prog .add 3 (.tmp 39) (.const (Go.Value.int Go.IntKind.i64 1)) x8 (Go.Value.int Go.IntKind.i64 1)).bind fun t40_20 =>
k .ret ⟨#[x0, x1, t22_10, t40_20, x8, t12_3, x6, x7, x8, t9_1, x8, t11_2, t12_3, x8, t14_4, x2, t12_3, t17_5, t18_6, x8, t20_8, t21_9, t22_10, t12_3, t24_11, t22_10, t26_12, x8, t28_14, t29_15, t29_15, (gdV (wt t29_15 false) x8), t32_16, (gdV (wt t29_15 false) t32_16), (gdV (wt (gdV (wt t29_15 false) t32_16) true) t12_3), t35_17, t36_18, t37_19, t22_10, x8, t40_20, x41], h13⟩)) (
(binV Try.prog .add 3 (.tmp 8) (.const (Go.Value.int Go.IntKind.i64 1)) x8 (Go.Value.int Go.IntKind.i64 1)).bind fun t41_21 =>
k .normal ⟨#[x0, x1, t22_10, x3, x8, t12_3, x6, x7, t41_21, t9_1, x8, t11_2, t12_3, x8, t14_4, x2, t12_3, t17_5, t18_6, x8, t20_8, t21_9, t22_10, t12_3, t24_11, x25, x26, x27, x28, x29, x30, x31, x32, x33, x34, x35, x36, x37, x38, x39, x40, t41_21], h7⟩))) (
k (.exit 0) ⟨#[x0, x1, x2, x3, x4, x5, x6, x7, x8, t9_1, x10, x11, x12, x13, x14, x15, x16, x17, x18, x19, x20, x21, x22, x23, x24, x25, x26, x27, x28, x29, x30, x31, x32, x33, x34, x35, x36, x37, x38, x39, x40, x41], h⟩) := by kernel_rfl
theorem c96_2_eq {β : Type} (x0 x1 x2 x3 x4 x5 x6 x7 x8 x9 x10 x11 x12 x13 x14 x15 x16 x17 x18 x19 x20 x21 x22 x23 x24 x25 x26 x27 x28 x29 x30 x31 x32 x33 x34 x35 x36 x37 x38 x39 x40 x41 : Value) (h : Heap) (k : Ex → St → Option β) : codeK Try.prog (evC Try.prog) loopL c96_2 ⟨#[x0, x1, x2, x3, x4, x5, x6, x7, x8, x9, x10, x11, x12, x13, x14, x15, x16, x17, x18, x19, x20, x21, x22, x23, x24, x25, x26, x27, x28, x29, x30, x31, x32, x33, x34, x35, x36, x37, x38, x39, x40, x41], h⟩ k =
k .ret ⟨#[x0, x1, (Go.Value.int Go.IntKind.u64 0), (Go.Value.int Go.IntKind.i64 0), x4, x5, x6, x7, x8, x9, x10, x11, x12, x13, x14, x15, x16, x17, x18, x19, x20, x21, x22, x23, x24, x25, x26, x27, x28, x29, x30, x31, x32, x33, x34, x35, x36, x37, x38, x39, x40, x41], h⟩ := by kernel_rfl
theorem call96 (x0 : Value) (h : Heap) : evC Try.prog 96 #[x0] h = codeK Try.prog (evC Try.prog) loopL c96_0 ⟨#[x0, undef, undef, undef, undef, undef, undef, undef, undef, undef, undef, undef, undef, undef, undef, undef, undef, undef, undef, undef, undef, undef, undef, undef, undef, undef, undef, undef, undef, undef, undef, undef, undef, undef, undef, undef, undef, undef, undef, undef, undef, undef], nm h⟩ (retK Try.f96 Try.prog h) :=
  (evC_call 96 Try.f96 c96_0 Try.func96 (by kernel_rfl) #[x0] h).trans (by kernel_rfl)
theorem ret96 (x0 x1 x2 x3 x4 x5 x6 x7 x8 x9 x10 x11 x12 x13 x14 x15 x16 x17 x18 x19 x20 x21 x22 x23 x24 x25 x26 x27 x28 x29 x30 x31 x32 x33 x34 x35 x36 x37 x38 x39 x40 x41 : Value) (h0 h : Heap) : retK Try.f96 Try.prog h0 .ret ⟨#[x0, x1, x2, x3, x4, x5, x6, x7, x8, x9, x10, x11, x12, x13, x14, x15, x16, x17, x18, x19, x20, x21, x22, x23, x24, x25, x26, x27, x28, x29, x30, x31, x32, x33, x34, x35, x36, x37, x38, x39, x40, x41], h⟩ = fin h0 (some (.tuple #[x2, x3])) h := by kernel_rfl
theorem retn96 (x0 x1 x2 x3 x4 x5 x6 x7 x8 x9 x10 x11 x12 x13 x14 x15 x16 x17 x18 x19 x20 x21 x22 x23 x24 x25 x26 x27 x28 x29 x30 x31 x32 x33 x34 x35 x36 x37 x38 x39 x40 x41 : Value) (h0 h : Heap) : retK Try.f96 Try.prog h0 .normal ⟨#[x0, x1, x2, x3, x4, x5, x6, x7, x8, x9, x10, x11, x12, x13, x14, x15, x16, x17, x18, x19, x20, x21, x22, x23, x24, x25, x26, x27, x28, x29, x30, x31, x32, x33, x34, x35, x36, x37, x38, x39, x40, x41], h⟩ = fin h0 (some (.tuple #[x2, x3])) h := by kernel_rfl
end Go.Am
namespace Go.Am
open Go.Proofs
set_option maxRecDepth 100000
noncomputable def c95_0 : Code := bodyC Try.f95 []
theorem c95_0_eq {β : Type} (x0 x1 x2 x3 x4 x5 x6 x7 : Value) (h : Heap) (k : Ex → St → Option β) : codeK Try.prog (evC Try.prog) loopL c95_0 ⟨#[x0, x1, x2, x3, x4, x5, x6, x7], h⟩ k =
(binV Try.prog .eql 23 (.tmp 3) (.const (Go.Value.slice Option.none 0 0)) x0 (Go.Value.slice Option.none 0 0)).bind fun t4_0 =>
cnd t4_0 (
k .ret ⟨#[x0, x1, (Go.Value.slice Option.none 0 0), x0, t4_0, x5, x6, x7], h⟩) (
obH (buildSliceV Try.prog 23 0 #[] h) fun t5_1 h2 =>
obH (appendV Try.prog 23 (some 23) t5_1 x0 h2) fun t7_3 h4 =>
k .ret ⟨#[x0, x1, t7_3, x0, t4_0, t5_1, x0, t7_3], h4⟩) := by kernel_rfl
theorem call95 (x0 : Value) (h : Heap) : evC Try.prog 95 #[x0] h = codeK Try.prog (evC Try.prog) loopL c95_0 ⟨#[x0, undef, undef, undef, undef, undef, undef, undef], nm h⟩ (retK Try.f95 Try.prog h) :=
  (evC_call 95 Try.f95 c95_0 Try.func95 (by kernel_rfl) #[x0] h).trans (by kernel_rfl)
theorem ret95 (x0 x1 x2 x3 x4 x5 x6 x7 : Value) (h0 h : Heap) : retK Try.f95 Try.prog h0 .ret ⟨#[x0, x1, x2, x3, x4, x5, x6, x7], h⟩ = fin h0 (some x2) h := by kernel_rfl
theorem retn95 (x0 x1 x2 x3 x4 x5 x6 x7 : Value) (h0 h : Heap) : retK Try.f95 Try.prog h0 .normal ⟨#[x0, x1, x2, x3, x4, x5, x6, x7], h⟩ = fin h0 (some x2) h := by kernel_rfl
end Go.Am
namespace Go.Am
open Go.Proofs
set_option maxRecDepth 100000
noncomputable def c105_0 : Code := bodyC Try.f105 []
theorem c105_0_eq {β : Type} (x0 x1 x2 x3 x4 x5 x6 x7 x8 x9 x10 x11 x12 x13 x14 x15 x16 : Value) (h : Heap) (k : Ex → St → Option β) : codeK Try.prog (evC Try.prog) loopL c105_0 ⟨#[x0, x1, x2, x3, x4, x5, x6, x7, x8, x9, x10, x11, x12, x13, x14, x15, x16], h⟩ k =
obH (callV Try.prog (evC Try.prog) (.func (.func 109) #[] #[]) #[x0] h) fun t5_0 h1 =>
obH (evC Try.prog 125 #[x0] h1) fun t8_2 h3 =>
cnd t8_2 (
k .ret ⟨#[x0, x1, (Go.Value.int Go.IntKind.u64 18446744073709551615), t5_0, x0, t5_0, t8_2, x0, t8_2, x9, x10, x11, x12, x13, x14, x15, x16], h3⟩) (
(binV Try.prog .and 46 (.tmp 10) (.const (Go.Value.int Go.IntKind.u64 9223372036854775808)) t5_0 (Go.Value.int Go.IntKind.u64 9223372036854775808)).bind fun t11_4 =>
(binV Try.prog .eql 46 (.tmp 11) (.const (Go.Value.int Go.IntKind.u64 0)) t11_4 (Go.Value.int Go.IntKind.u64 0)).bind fun t12_5 =>
cnd t12_5 (
(binV Try.prog .or 46 (.tmp 13) (.const (Go.Value.int Go.IntKind.u64 9223372036854775808)) t5_0 (Go.Value.int Go.IntKind.u64 9223372036854775808)).bind fun t14_6 =>
k .ret ⟨#[x0, x1, t14_6, t5_0, x0, t5_0, t8_2, x0, t8_2, t12_5, t5_0, t11_4, t12_5, t5_0, t14_6, x15, x16], h3⟩) (
(unV Try.prog .xor t5_0).bind fun t16_7 =>
k .ret ⟨#[x0, x1, t16_7, t5_0, x0, t5_0, t8_2, x0, t8_2, t12_5, t5_0, t11_4, t12_5, x13, x14, t5_0, t16_7], h3⟩)) := by kernel_rfl
theorem call105 (x0 : Value) (h : Heap) : evC Try.prog 105 #[x0] h = codeK Try.prog (evC Try.prog) loopL c105_0 ⟨#[x0, undef, undef, undef, undef, undef, undef, undef, undef, undef, undef, undef, undef, undef, undef, undef, undef], nm h⟩ (retK Try.f105 Try.prog h) :=
  (evC_call 105 Try.f105 c105_0 Try.func105 (by kernel_rfl) #[x0] h).trans (by kernel_rfl)
theorem ret105 (x0 x1 x2 x3 x4 x5 x6 x7 x8 x9 x10 x11 x12 x13 x14 x15 x16 : Value) (h0 h : Heap) : retK Try.f105 Try.prog h0 .ret ⟨#[x0, x1, x2, x3, x4, x5, x6, x7, x8, x9, x10, x11, x12, x13, x14, x15, x16], h⟩ = fin h0 (some x2) h := by kernel_rfl
theorem retn105 (x0 x1 x2 x3 x4 x5 x6 x7 x8 x9 x10 x11 x12 x13 x14 x15 x16 : Value) (h0 h : Heap) : retK Try.f105 Try.prog h0 .normal ⟨#[x0, x1, x2, x3, x4, x5, x6, x7, x8, x9, x10, x11, x12, x13, x14, x15, x16], h⟩ = fin h0 (some x2) h := by kernel_rfl
end Go.Am
namespace Go.Am
open Go.Proofs
set_option maxRecDepth 100000
noncomputable def c103_0 : Code := bodyC Try.f103 []
theorem c103_0_eq {β : Type} (x0 x1 x2 x3 x4 x5 x6 x7 x8 x9 x10 x11 x12 x13 x14 x15 x16 x17 x18 x19 x20 : Value) (h : Heap) (k : Ex → St → Option β) : codeK Try.prog (evC Try.prog) loopL c103_0 ⟨#[x0, x1, x2, x3, x4, x5, x6, x7, x8, x9, x10, x11, x12, x13, x14, x15, x16, x17, x18, x19, x20], h⟩ k =
(binV Try.prog .eql 46 (.tmp 6) (.const (Go.Value.int Go.IntKind.u64 18446744073709551615)) x0 (Go.Value.int Go.IntKind.u64 18446744073709551615)).bind fun t7_0 =>
cnd t7_0 (
obH (evC Try.prog 76 #[] h) fun t8_1 h2 =>
k .ret ⟨#[x0, x1, t8_1, (Go.Value.bool Bool.true), x4, x5, x0, t7_0, t8_1, x9, x10, x11, x12, x13, x14, x15, x16, x17, x18, x19, x20], h2⟩) (
(unV Try.prog .xor x0).bind fun t10_3 =>
(binV Try.prog .and 46 (.tmp 11) (.const (Go.Value.int Go.IntKind.u64 9223372036854775808)) x0 (Go.Value.int Go.IntKind.u64 9223372036854775808)).bind fun t12_4 =>
(binV Try.prog .neq 46 (.tmp 12) (.const (Go.Value.int Go.IntKind.u64 0)) t12_4 (Go.Value.int Go.IntKind.u64 0)).bind fun t13_5 =>
cnd t13_5 (
(binV Try.prog .andNot 46 (.tmp 14) (.const (Go.Value.int Go.IntKind.u64 9223372036854775808)) x0 (Go.Value.int Go.IntKind.u64 9223372036854775808)).bind fun t15_6 =>
obH (callV Try.prog (evC Try.prog) (.func (.func 108) #[] #[]) #[t15_6] h) fun t17_7 h8 =>
obH (evC Try.prog 125 #[t17_7] h8) fun t19_9 h10 =>
cnd t19_9 (
k .ret ⟨#[x0, x1, (Go.Value.float Go.FloatKind.f64 0), (Go.Value.bool Bool.false), t15_6, t17_7, x0, t7_0, x8, x0, t10_3, x0, t12_4, t13_5, x0, t15_6, t15_6, t17_7, t17_7, t19_9, x20], h10⟩) (
k .ret ⟨#[x0, x1, t17_7, (Go.Value.bool Bool.true), t15_6, t17_7, x0, t7_0, x8, x0, t10_3, x0, t12_4, t13_5, x0, t15_6, t15_6, t17_7, t17_7, t19_9, t17_7], h10⟩)) (
obH (callV Try.prog (evC Try.prog) (.func (.func 108) #[] #[]) #[t10_3] h) fun t17_11 h12 =>
obH (evC Try.prog 125 #[t17_11] h12) fun t19_13 h14 =>
cnd t19_13 (
k .ret ⟨#[x0, x1, (Go.Value.float Go.FloatKind.f64 0), (Go.Value.bool Bool.false), t10_3, t17_11, x0, t7_0, x8, x0, t10_3, x0, t12_4, t13_5, x14, x15, t10_3, t17_11, t17_11, t19_13, x20], h14⟩) (
k .ret ⟨#[x0, x1, t17_11, (Go.Value.bool Bool.true), t10_3, t17_11, x0, t7_0, x8, x0, t10_3, x0, t12_4, t13_5, x14, x15, t10_3, t17_11, t17_11, t19_13, t17_11], h14⟩))) := by kernel_rfl
theorem call103 (x0 : Value) (h : Heap) : evC Try.prog 103 #[x0] h = codeK Try.prog (evC Try.prog) loopL c103_0 ⟨#[x0, undef, undef, undef, undef, undef, undef, undef, undef, undef, undef, undef, undef, undef, undef, undef, undef, undef, undef, undef, undef], nm h⟩ (retK Try.f103 Try.prog h) :=
  (evC_call 103 Try.f103 c103_0 Try.func103 (by kernel_rfl) #[x0] h).trans (by kernel_rfl)
theorem ret103 (x0 x1 x2 x3 x4 x5 x6 x7 x8 x9 x10 x11 x12 x13 x14 x15 x16 x17 x18 x19 x20 : Value) (h0 h : Heap) : retK Try.f103 Try.prog h0 .ret ⟨#[x0, x1, x2, x3, x4, x5, x6, x7, x8, x9, x10, x11, x12, x13, x14, x15, x16, x17, x18, x19, x20], h⟩ = fin h0 (some (.tuple #[x2, x3])) h := by kernel_rfl
theorem retn103 (x0 x1 x2 x3 x4 x5 x6 x7 x8 x9 x10 x11 x12 x13 x14 x15 x16 x17 x18 x19 x20 : Value) (h0 h : Heap) : retK Try.f103 Try.prog h0 .normal ⟨#[x0, x1, x2, x3, x4, x5, x6, x7, x8, x9, x10, x11, x12, x13, x14, x15, x16, x17, x18, x19, x20], h⟩ = fin h0 (some (.tuple #[x2, x3])) h := by kernel_rfl
end Go.Am
namespace Go.Am
open Go.Proofs
set_option maxRecDepth 100000
noncomputable def c64_0 : Code := bodyC Try.f64 []
theorem c64_0_eq {β : Type} (x0 x1 x2 x3 x4 x5 x6 x7 x8 x9 x10 x11 x12 x13 x14 x15 x16 x17 x18 x19 x20 x21 x22 x23 x24 x25 x26 x27 x28 x29 x30 x31 x32 x33 x34 : Value) (h : Heap) (k : Ex → St → Option β) : codeK Try.prog (evC Try.prog) loopL c64_0 ⟨#[x0, x1, x2, x3, x4, x5, x6, x7, x8, x9, x10, x11, x12, x13, x14, x15, x16, x17, x18, x19, x20, x21, x22, x23, x24, x25, x26, x27, x28, x29, x30, x31, x32, x33, x34], h⟩ k =
obH (callV Try.prog (evC Try.prog) (.func (.func 109) #[] #[]) #[x0] h) fun t6_0 h1 =>
(binV Try.prog .shr 46 (.tmp 7) (.const (Go.Value.int Go.IntKind.u64 63)) t6_0 (Go.Value.int Go.IntKind.u64 63)).bind fun t8_2 =>
(binV Try.prog .eql 46 (.tmp 8) (.const (Go.Value.int Go.IntKind.u64 1)) t8_2 (Go.Value.int Go.IntKind.u64 1)).bind fun t9_3 =>
(binV Try.prog .and 46 (.tmp 10) (.const (Go.Value.int Go.IntKind.u64 9223372036854775807)) t6_0 (Go.Value.int Go.IntKind.u64 9223372036854775807)).bind fun t11_4 =>
(binV Try.prog .gtr 46 (.tmp 13) (.const (Go.Value.int Go.IntKind.u64 9218868437227405312)) t11_4 (Go.Value.int Go.IntKind.u64 9218868437227405312)).bind fun t14_5 =>
cnd t14_5 (
k .ret ⟨#[x0, x1, (Go.Value.int Go.IntKind.i64 0), t11_4, t9_3, x0, t6_0, t6_0, t8_2, t9_3, t6_0, t11_4, t14_5, t11_4, t14_5, x15, x16, x17, x18, x19, x20, x21, x22, x23, x24, x25, x26, x27, x28, x29, x30, x31, x32, x33, x34], h1⟩) (
(binV Try.prog .eql 46 (.tmp 16) (.const (Go.Value.int Go.IntKind.u64 9218868437227405312)) t11_4 (Go.Value.int Go.IntKind.u64 9218868437227405312)).bind fun t17_6 =>
(pickV t17_6 (gdV (wt t17_6 true) t9_3) (Go.Value.bool Bool.false)).bind fun t20_7 =>
cnd t20_7 (
k .ret ⟨#[x0, x1, (Go.Value.int Go.IntKind.i64 1), t11_4, t9_3, x0, t6_0, t6_0, t8_2, t9_3, t6_0, t11_4, t14_5, t11_4, t14_5, t20_7, t11_4, t17_6, t17_6, (gdV (wt t17_6 true) t9_3), t20_7, x21, x22, x23, x24, x25, x26, x27, x28, x29, x30, x31, x32, x33, x34], h1⟩) (
(binV Try.prog .eql 46 (.tmp 22) (.const (Go.Value.int Go.IntKind.u64 9218868437227405312)) t11_4 (Go.Value.int Go.IntKind.u64 9218868437227405312)).bind fun t23_8 =>
cnd t23_8 (
k .ret ⟨#[x0, x1, (Go.Value.int Go.IntKind.i64 6), t11_4, t9_3, x0, t6_0, t6_0, t8_2, t9_3, t6_0, t11_4, t14_5, t11_4, t14_5, t20_7, t11_4, t17_6, t17_6, (gdV (wt t17_6 true) t9_3), t20_7, t23_8, t11_4, t23_8, x24, x25, x26, x27, x28, x29, x30, x31, x32, x33, x34], h1⟩) (
(binV Try.prog .eql 46 (.tmp 25) (.const (Go.Value.int Go.IntKind.u64 0)) t11_4 (Go.Value.int Go.IntKind.u64 0)).bind fun t26_9 =>
(pickV t26_9 (gdV (wt t26_9 true) t9_3) (Go.Value.bool Bool.false)).bind fun t29_10 =>
cnd t29_10 (
k .ret ⟨#[x0, x1, (Go.Value.int Go.IntKind.i64 3), t11_4, t9_3, x0, t6_0, t6_0, t8_2, t9_3, t6_0, t11_4, t14_5, t11_4, t14_5, t20_7, t11_4, t17_6, t17_6, (gdV (wt t17_6 true) t9_3), t20_7, t23_8, t11_4, t23_8, t29_10, t11_4, t26_9, t26_9, (gdV (wt t26_9 true) t9_3), t29_10, x30, x31, x32, x33, x34], h1⟩) (
(binV Try.prog .eql 46 (.tmp 31) (.const (Go.Value.int Go.IntKind.u64 0)) t11_4 (Go.Value.int Go.IntKind.u64 0)).bind fun t32_11 =>
cnd t32_11 (
k .ret ⟨#[x0, x1, (Go.Value.int Go.IntKind.i64 4), t11_4, t9_3, x0, t6_0, t6_0, t8_2, t9_3, t6_0, t11_4, t14_5, t11_4, t14_5, t20_7, t11_4, t17_6, t17_6, (gdV (wt t17_6 true) t9_3), t20_7, t23_8, t11_4, t23_8, t29_10, t11_4, t26_9, t26_9, (gdV (wt t26_9 true) t9_3), t29_10, t32_11, t11_4, t32_11, x33, x34], h1⟩) (
cnd t9_3 (
k .ret ⟨#[x0, x1, (Go.Value.int Go.IntKind.i64 2), t11_4, t9_3, x0, t6_0, t6_0, t8_2, t9_3, t6_0, t11_4, t14_5, t11_4, t14_5, t20_7, t11_4, t17_6, t17_6, (gdV (wt t17_6 true) t9_3), t20_7, t23_8, t11_4, t23_8, t29_10, t11_4, t26_9, t26_9, (gdV (wt t26_9 true) t9_3), t29_10, t32_11, t11_4, t32_11, t9_3, t9_3], h1⟩) (
k .ret ⟨#[x0, x1, (Go.Value.int Go.IntKind.i64 5), t11_4, t9_3, x0, t6_0, t6_0, t8_2, t9_3, t6_0, t11_4, t14_5, t11_4, t14_5, t20_7, t11_4, t17_6, t17_6, (gdV (wt t17_6 true) t9_3), t20_7, t23_8, t11_4, t23_8, t29_10, t11_4, t26_9, t26_9, (gdV (wt t26_9 true) t9_3), t29_10, t32_11, t11_4, t32_11, t9_3, t9_3], h1⟩)))))) := by kernel_rfl
theorem call64 (x0 : Value) (h : Heap) : evC Try.prog 64 #[x0] h = codeK Try.prog (evC Try.prog) loopL c64_0 ⟨#[x0, undef, undef, undef, undef, undef, undef, undef, undef, undef, undef, undef, undef, undef, undef, undef, undef, undef, undef, undef, undef, undef, undef, undef, undef, undef, undef, undef, undef, undef, undef, undef, undef, undef, undef], nm h⟩ (retK Try.f64 Try.prog h) :=
  (evC_call 64 Try.f64 c64_0 Try.func64 (by kernel_rfl) #[x0] h).trans (by kernel_rfl)
theorem ret64 (x0 x1 x2 x3 x4 x5 x6 x7 x8 x9 x10 x11 x12 x13 x14 x15 x16 x17 x18 x19 x20 x21 x22 x23 x24 x25 x26 x27 x28 x29 x30 x31 x32 x33 x34 : Value) (h0 h : Heap) : retK Try.f64 Try.prog h0 .ret ⟨#[x0, x1, x2, x3, x4, x5, x6, x7, x8, x9, x10, x11, x12, x13, x14, x15, x16, x17, x18, x19, x20, x21, x22, x23, x24, x25, x26, x27, x28, x29, x30, x31, x32, x33, x34], h⟩ = fin h0 (some x2) h := by kernel_rfl
theorem retn64 (x0 x1 x2 x3 x4 x5 x6 x7 x8 x9 x10 x11 x12 x13 x14 x15 x16 x17 x18 x19 x20 x21 x22 x23 x24 x25 x26 x27 x28 x29 x30 x31 x32 x33 x34 : Value) (h0 h : Heap) : retK Try.f64 Try.prog h0 .normal ⟨#[x0, x1, x2, x3, x4, x5, x6, x7, x8, x9, x10, x11, x12, x13, x14, x15, x16, x17, x18, x19, x20, x21, x22, x23, x24, x25, x26, x27, x28, x29, x30, x31, x32, x33, x34], h⟩ = fin h0 (some x2) h := by kernel_rfl
end Go.Am
namespace Go.Am
open Go.Proofs
set_option maxRecDepth 100000
noncomputable def c107_0 : Code := bodyC Try.f107 []
theorem c107_0_eq {β : Type} (x0 x1 x2 x3 x4 x5 x6 x7 x8 x9 x10 x11 x12 x13 x14 x15 : Value) (h : Heap) (k : Ex → St → Option β) : codeK Try.prog (evC Try.prog) loopL c107_0 ⟨#[x0, x1, x2, x3, x4, x5, x6, x7, x8, x9, x10, x11, x12, x13, x14, x15], h⟩ k =
obH (evC Try.prog 64 #[x0] h) fun t5_0 h1 =>
(binV Try.prog .eql 3 (.tmp 5) (.const (Go.Value.int Go.IntKind.i64 0)) t5_0 (Go.Value.int Go.IntKind.i64 0)).bind fun t6_2 =>
cnd t6_2 (
k .ret ⟨#[x0, x1, (Go.Value.int Go.IntKind.u64 18446744073709551615), x3, x0, t5_0, t6_2, x7, x8, x9, x10, x11, x12, x13, x14, x15], h1⟩) (
obH (callV Try.prog (evC Try.prog) (.func (.func 109) #[] #[]) #[x0] h1) fun t8_3 h4 =>
(binV Try.prog .shr 46 (.tmp 9) (.const (Go.Value.int Go.IntKind.u64 63)) t8_3 (Go.Value.int Go.IntKind.u64 63)).bind fun t10_5 =>
(binV Try.prog .eql 46 (.tmp 10) (.const (Go.Value.int Go.IntKind.u64 0)) t10_5 (Go.Value.int Go.IntKind.u64 0)).bind fun t11_6 =>
cnd t11_6 (
(binV Try.prog .or 46 (.tmp 12) (.const (Go.Value.int Go.IntKind.u64 9223372036854775808)) t8_3 (Go.Value.int Go.IntKind.u64 9223372036854775808)).bind fun t13_7 =>
k .ret ⟨#[x0, x1, t13_7, t8_3, x0, t5_0, t6_2, x0, t8_3, t8_3, t10_5, t11_6, t8_3, t13_7, x14, x15], h4⟩) (
(unV Try.prog .xor t8_3).bind fun t15_8 =>
k .ret ⟨#[x0, x1, t15_8, t8_3, x0, t5_0, t6_2, x0, t8_3, t8_3, t10_5, t11_6, x12, x13, t8_3, t15_8], h4⟩)) := by kernel_rfl
theorem call107 (x0 : Value) (h : Heap) : evC Try.prog 107 #[x0] h = codeK Try.prog (evC Try.prog) loopL c107_0 ⟨#[x0, undef, undef, undef, undef, undef, undef, undef, undef, undef, undef, undef, undef, undef, undef, undef], nm h⟩ (retK Try.f107 Try.prog h) :=
  (evC_call 107 Try.f107 c107_0 Try.func107 (by kernel_rfl) #[x0] h).trans (by kernel_rfl)
theorem ret107 (x0 x1 x2 x3 x4 x5 x6 x7 x8 x9 x10 x11 x12 x13 x14 x15 : Value) (h0 h : Heap) : retK Try.f107 Try.prog h0 .ret ⟨#[x0, x1, x2, x3, x4, x5, x6, x7, x8, x9, x10, x11, x12, x13, x14, x15], h⟩ = fin h0 (some x2) h := by kernel_rfl
theorem retn107 (x0 x1 x2 x3 x4 x5 x6 x7 x8 x9 x10 x11 x12 x13 x14 x15 : Value) (h0 h : Heap) : retK Try.f107 Try.prog h0 .normal ⟨#[x0, x1, x2, x3, x4, x5, x6, x7, x8, x9, x10, x11, x12, x13, x14, x15], h⟩ = fin h0 (some x2) h := by kernel_rfl
end Go.Am
namespace Go.Am
open Go.Proofs
set_option maxRecDepth 100000
noncomputable def c104_0 : Code := bodyC Try.f104 []
theorem c104_0_eq {β : Type} (x0 x1 x2 x3 x4 x5 x6 x7 x8 x9 x10 x11 x12 x13 x14 x15 x16 x17 x18 x19 x20 x21 : Value) (h : Heap) (k : Ex → St → Option β) : codeK Try.prog (evC Try.prog) loopL c104_0 ⟨#[x0, x1, x2, x3, x4, x5, x6, x7, x8, x9, x10, x11, x12, x13, x14, x15, x16, x17, x18, x19, x20, x21], h⟩ k =
(binV Try.prog .eql 46 (.tmp 6) (.const (Go.Value.int Go.IntKind.u64 18446744073709551615)) x0 (Go.Value.int Go.IntKind.u64 18446744073709551615)).bind fun t7_0 =>
cnd t7_0 (
obH (evC Try.prog 76 #[] h) fun t8_1 h2 =>
k .ret ⟨#[x0, x1, t8_1, (Go.Value.bool Bool.true), x4, x5, x0, t7_0, t8_1, x9, x10, x11, x12, x13, x14, x15, x16, x17, x18, x19, x20, x21], h2⟩) (
(unV Try.prog .xor x0).bind fun t10_3 =>
(binV Try.prog .shr 46 (.tmp 11) (.const (Go.Value.int Go.IntKind.u64 63)) x0 (Go.Value.int Go.IntKind.u64 63)).bind fun t12_4 =>
(binV Try.prog .eql 46 (.tmp 12) (.const (Go.Value.int Go.IntKind.u64 1)) t12_4 (Go.Value.int Go.IntKind.u64 1)).bind fun t13_5 =>
cnd t13_5 (
(binV Try.prog .and 46 (.tmp 14) (.const (Go.Value.int Go.IntKind.u64 9223372036854775807)) x0 (Go.Value.int Go.IntKind.u64 9223372036854775807)).bind fun t15_6 =>
obH (callV Try.prog (evC Try.prog) (.func (.func 108) #[] #[]) #[t15_6] h) fun t17_7 h8 =>
obH (evC Try.prog 64 #[t17_7] h8) fun t19_9 h10 =>
(binV Try.prog .eql 3 (.tmp 19) (.const (Go.Value.int Go.IntKind.i64 0)) t19_9 (Go.Value.int Go.IntKind.i64 0)).bind fun t20_11 =>
cnd t20_11 (
k .ret ⟨#[x0, x1, (Go.Value.float Go.FloatKind.f64 0), (Go.Value.bool Bool.false), t15_6, t17_7, x0, t7_0, x8, x0, t10_3, x0, t12_4, t13_5, x0, t15_6, t15_6, t17_7, t17_7, t19_9, t20_11, x21], h10⟩) (
k .ret ⟨#[x0, x1, t17_7, (Go.Value.bool Bool.true), t15_6, t17_7, x0, t7_0, x8, x0, t10_3, x0, t12_4, t13_5, x0, t15_6, t15_6, t17_7, t17_7, t19_9, t20_11, t17_7], h10⟩)) (
obH (callV Try.prog (evC Try.prog) (.func (.func 108) #[] #[]) #[t10_3] h) fun t17_12 h13 =>
obH (evC Try.prog 64 #[t17_12] h13) fun t19_14 h15 =>
(binV Try.prog .eql 3 (.tmp 19) (.const (Go.Value.int Go.IntKind.i64 0)) t19_14 (Go.Value.int Go.IntKind.i64 0)).bind fun t20_16 =>
cnd t20_16 (
k .ret ⟨#[x0, x1, (Go.Value.float Go.FloatKind.f64 0), (Go.Value.bool Bool.false), t10_3, t17_12, x0, t7_0, x8, x0, t10_3, x0, t12_4, t13_5, x14, x15, t10_3, t17_12, t17_12, t19_14, t20_16, x21], h15⟩) (
k .ret ⟨#[x0, x1, t17_12, (Go.Value.bool Bool.true), t10_3, t17_12, x0, t7_0, x8, x0, t10_3, x0, t12_4, t13_5, x14, x15, t10_3, t17_12, t17_12, t19_14, t20_16, t17_12], h15⟩))) := by kernel_rfl
theorem call104 (x0 : Value) (h : Heap) : evC Try.prog 104 #[x0] h = codeK Try.prog (evC Try.prog) loopL c104_0 ⟨#[x0, undef, undef, undef, undef, undef, undef, undef, undef, undef, undef, undef, undef, undef, undef, undef, undef, undef, undef, undef, undef, undef], nm h⟩ (retK Try.f104 Try.prog h) :=
  (evC_call 104 Try.f104 c104_0 Try.func104 (by kernel_rfl) #[x0] h).trans (by kernel_rfl)
theorem ret104 (x0 x1 x2 x3 x4 x5 x6 x7 x8 x9 x10 x11 x12 x13 x14 x15 x16 x17 x18 x19 x20 x21 : Value) (h0 h : Heap) : retK Try.f104 Try.prog h0 .ret ⟨#[x0, x1, x2, x3, x4, x5, x6, x7, x8, x9, x10, x11, x12, x13, x14, x15, x16, x17, x18, x19, x20, x21], h⟩ = fin h0 (some (.tuple #[x2, x3])) h := by kernel_rfl
theorem retn104 (x0 x1 x2 x3 x4 x5 x6 x7 x8 x9 x10 x11 x12 x13 x14 x15 x16 x17 x18 x19 x20 x21 : Value) (h0 h : Heap) : retK Try.f104 Try.prog h0 .normal ⟨#[x0, x1, x2, x3, x4, x5, x6, x7, x8, x9, x10, x11, x12, x13, x14, x15, x16, x17, x18, x19, x20, x21], h⟩ = fin h0 (some (.tuple #[x2, x3])) h := by kernel_rfl
end Go.Am
namespace Go.Am
open Go.Proofs
set_option maxRecDepth 100000
noncomputable def c51_0 : Code := bodyC Try.f51 []
theorem c51_0_eq {β : Type} (x0 x1 x2 x3 x4 x5 x6 x7 x8 : Value) (h : Heap) (k : Ex → St → Option β) : codeK Try.prog (evC Try.prog) loopL c51_0 ⟨#[x0, x1, x2, x3, x4, x5, x6, x7, x8], h⟩ k =
obH (evC Try.prog 101 #[x0, x1] h) fun t7_0 h1 =>
(binV Try.prog .eql 3 (.tmp 7) (.const (Go.Value.int Go.IntKind.i64 0)) t7_0 (Go.Value.int Go.IntKind.i64 0)).bind fun t8_2 =>
k .ret ⟨#[x0, x1, x2, x3, t8_2, x0, x1, t7_0, t8_2], h1⟩ := by kernel_rfl
theorem call51 (x0 x1 : Value) (h : Heap) : evC Try.prog 51 #[x0, x1] h = codeK Try.prog (evC Try.prog) loopL c51_0 ⟨#[x0, x1, undef, undef, undef, undef, undef, undef, undef], nm h⟩ (retK Try.f51 Try.prog h) :=
  (evC_call 51 Try.f51 c51_0 Try.func51 (by kernel_rfl) #[x0, x1] h).trans (by kernel_rfl)
theorem ret51 (x0 x1 x2 x3 x4 x5 x6 x7 x8 : Value) (h0 h : Heap) : retK Try.f51 Try.prog h0 .ret ⟨#[x0, x1, x2, x3, x4, x5, x6, x7, x8], h⟩ = fin h0 (some x4) h := by kernel_rfl
theorem retn51 (x0 x1 x2 x3 x4 x5 x6 x7 x8 : Value) (h0 h : Heap) : retK Try.f51 Try.prog h0 .normal ⟨#[x0, x1, x2, x3, x4, x5, x6, x7, x8], h⟩ = fin h0 (some x4) h := by kernel_rfl
end Go.Am
namespace Go.Am
open Go.Proofs
set_option maxRecDepth 100000
noncomputable def c101_0 : Code := bodyC Try.f101 []
theorem c101_0_eq {β : Type} (x0 x1 x2 x3 x4 x5 x6 x7 x8 x9 x10 x11 x12 x13 x14 x15 x16 x17 x18 : Value) (h : Heap) (k : Ex → St → Option β) : codeK Try.prog (evC Try.prog) loopL c101_0 ⟨#[x0, x1, x2, x3, x4, x5, x6, x7, x8, x9, x10, x11, x12, x13, x14, x15, x16, x17, x18], h⟩ k =
obH (evC Try.prog 107 #[x0] h) fun t8_0 h1 =>
obH (evC Try.prog 107 #[x1] h1) fun t10_2 h3 =>
(binV Try.prog .lss 46 (.tmp 12) (.tmp 13) t8_0 t10_2).bind fun t14_4 =>
cnd t14_4 (
k .ret ⟨#[x0, x1, x2, x3, (Go.Value.int Go.IntKind.i64 (-1)), t8_0, t10_2, x0, t8_0, x1, t10_2, t14_4, t8_0, t10_2, t14_4, x15, x16, x17, x18], h3⟩) (
(binV Try.prog .gtr 46 (.tmp 16) (.tmp 17) t8_0 t10_2).bind fun t18_5 =>
cnd t18_5 (
k .ret ⟨#[x0, x1, x2, x3, (Go.Value.int Go.IntKind.i64 1), t8_0, t10_2, x0, t8_0, x1, t10_2, t14_4, t8_0, t10_2, t14_4, t18_5, t8_0, t10_2, t18_5], h3⟩) (
k .ret ⟨#[x0, x1, x2, x3, (Go.Value.int Go.IntKind.i64 0), t8_0, t10_2, x0, t8_0, x1, t10_2, t14_4, t8_0, t10_2, t14_4, t18_5, t8_0, t10_2, t18_5], h3⟩)) := by kernel_rfl
theorem call101 (x0 x1 : Value) (h : Heap) : evC Try.prog 101 #[x0, x1] h = codeK Try.prog (evC Try.prog) loopL c101_0 ⟨#[x0, x1, undef, undef, undef, undef, undef, undef, undef, undef, undef, undef, undef, undef, undef, undef, undef, undef, undef], nm h⟩ (retK Try.f101 Try.prog h) :=
  (evC_call 101 Try.f101 c101_0 Try.func101 (by kernel_rfl) #[x0, x1] h).trans (by kernel_rfl)
theorem ret101 (x0 x1 x2 x3 x4 x5 x6 x7 x8 x9 x10 x11 x12 x13 x14 x15 x16 x17 x18 : Value) (h0 h : Heap) : retK Try.f101 Try.prog h0 .ret ⟨#[x0, x1, x2, x3, x4, x5, x6, x7, x8, x9, x10, x11, x12, x13, x14, x15, x16, x17, x18], h⟩ = fin h0 (some x4) h := by kernel_rfl
theorem retn101 (x0 x1 x2 x3 x4 x5 x6 x7 x8 x9 x10 x11 x12 x13 x14 x15 x16 x17 x18 : Value) (h0 h : Heap) : retK Try.f101 Try.prog h0 .normal ⟨#[x0, x1, x2, x3, x4, x5, x6, x7, x8, x9, x10, x11, x12, x13, x14, x15, x16, x17, x18], h⟩ = fin h0 (some x4) h := by kernel_rfl
end Go.Am
namespace Go.Am
open Go.Proofs
set_option maxRecDepth 100000
noncomputable def c125_0 : Code := bodyC Try.f125 []
theorem c125_0_eq {β : Type} (x0 x1 x2 x3 x4 x5 : Value) (h : Heap) (k : Ex → St → Option β) : codeK Try.prog (evC Try.prog) loopL c125_0 ⟨#[x0, x1, x2, x3, x4, x5], h⟩ k =
(binV Try.prog .neq 84 (.tmp 3) (.tmp 4) x0 x0).bind fun t5_0 =>
k .ret ⟨#[x0, x1, t5_0, x0, x0, t5_0], h⟩ := by kernel_rfl
theorem call125 (x0 : Value) (h : Heap) : evC Try.prog 125 #[x0] h = codeK Try.prog (evC Try.prog) loopL c125_0 ⟨#[x0, undef, undef, undef, undef, undef], nm h⟩ (retK Try.f125 Try.prog h) :=
  (evC_call 125 Try.f125 c125_0 Try.func125 (by kernel_rfl) #[x0] h).trans (by kernel_rfl)
theorem ret125 (x0 x1 x2 x3 x4 x5 : Value) (h0 h : Heap) : retK Try.f125 Try.prog h0 .ret ⟨#[x0, x1, x2, x3, x4, x5], h⟩ = fin h0 (some x2) h := by kernel_rfl
theorem retn125 (x0 x1 x2 x3 x4 x5 : Value) (h0 h : Heap) : retK Try.f125 Try.prog h0 .normal ⟨#[x0, x1, x2, x3, x4, x5], h⟩ = fin h0 (some x2) h := by kernel_rfl
end Go.Am
namespace Go.Am
open Go.Proofs
set_option maxRecDepth 100000
noncomputable def c76_0 : Code := bodyC Try.f76 []
theorem c76_0_eq {β : Type} (x0 x1 : Value) (h : Heap) (k : Ex → St → Option β) : codeK Try.prog (evC Try.prog) loopL c76_0 ⟨#[x0, x1], h⟩ k =
obH (callV Try.prog (evC Try.prog) (.func (.func 108) #[] #[]) #[(Go.Value.int Go.IntKind.u64 9221120237041090561)] h) fun t1_0 h1 =>
k .ret ⟨#[t1_0, t1_0], h1⟩ := by kernel_rfl
theorem call76 (h : Heap) : evC Try.prog 76 #[] h = codeK Try.prog (evC Try.prog) loopL c76_0 ⟨#[undef, undef], nm h⟩ (retK Try.f76 Try.prog h) :=
  (evC_call 76 Try.f76 c76_0 Try.func76 (by kernel_rfl) #[] h).trans (by kernel_rfl)
theorem ret76 (x0 x1 : Value) (h0 h : Heap) : retK Try.f76 Try.prog h0 .ret ⟨#[x0, x1], h⟩ = fin h0 (some x0) h := by kernel_rfl
theorem retn76 (x0 x1 : Value) (h0 h : Heap) : retK Try.f76 Try.prog h0 .normal ⟨#[x0, x1], h⟩ = fin h0 (some x0) h := by kernel_rfl
end Go.Am
namespace Go.Am
open Go.Proofs
set_option maxRecDepth 100000
noncomputable def c42_0 : Code := bodyC Try.f42 []
theorem c42_0_eq {β : Type} (x0 x1 x2 : Value) (h : Heap) (k : Ex → St → Option β) : codeK Try.prog (evC Try.prog) loopL c42_0 ⟨#[x0, x1, x2], h⟩ k =
(buildV Try.prog 146 #[]).bind fun t1_0 =>
obH (boxV Try.prog 146 t1_0 h) fun t2_1 h2 =>
k .ret ⟨#[t2_1, t1_0, t2_1], h2⟩ := by kernel_rfl
theorem call42 (h : Heap) : evC Try.prog 42 #[] h = codeK Try.prog (evC Try.prog) loopL c42_0 ⟨#[undef, undef, undef], nm h⟩ (retK Try.f42 Try.prog h) :=
  (evC_call 42 Try.f42 c42_0 Try.func42 (by kernel_rfl) #[] h).trans (by kernel_rfl)
theorem ret42 (x0 x1 x2 : Value) (h0 h : Heap) : retK Try.f42 Try.prog h0 .ret ⟨#[x0, x1, x2], h⟩ = fin h0 (some x0) h := by kernel_rfl
theorem retn42 (x0 x1 x2 : Value) (h0 h : Heap) : retK Try.f42 Try.prog h0 .normal ⟨#[x0, x1, x2], h⟩ = fin h0 (some x0) h := by kernel_rfl
end Go.Am
namespace Go.Am
open Go.Proofs
set_option maxRecDepth 100000
noncomputable def c43_0 : Code := bodyC Try.f43 []
theorem c43_0_eq {β : Type} (x0 x1 x2 x3 x4 x5 x6 x7 x8 x9 x10 x11 x12 : Value) (h : Heap) (k : Ex → St → Option β) : codeK Try.prog (evC Try.prog) loopL c43_0 ⟨#[x0, x1, x2, x3, x4, x5, x6, x7, x8, x9, x10, x11, x12], h⟩ k =
(nilCheckV x0).bind fun t6_0 =>
(fieldAddrV Try.prog 146 t6_0 0).bind fun t7_1 =>
(loadV Try.prog 23 t7_1 h).bind fun t8_2 =>
obH (evC Try.prog 94 #[t8_2, x1] h) fun t10_3 h4 =>
(nilCheckV x0).bind fun t11_5 =>
(fieldAddrV Try.prog 146 t11_5 0).bind fun t12_6 =>
(storeV Try.prog 23 t12_6 t10_3 h4).bind fun h7 =>
k .normal ⟨#[x0, x1, x2, x3, x0, x0, t6_0, t7_1, t8_2, x1, t10_3, t11_5, t12_6], h7⟩ := by kernel_rfl
theorem call43 (x0 x1 : Value) (h : Heap) : evC Try.prog 43 #[x0, x1] h = codeK Try.prog (evC Try.prog) loopL c43_0 ⟨#[x0, x1, undef, undef, undef, undef, undef, undef, undef, undef, undef, undef, undef], nm h⟩ (retK Try.f43 Try.prog h) :=
  (evC_call 43 Try.f43 c43_0 Try.func43 (by kernel_rfl) #[x0, x1] h).trans (by kernel_rfl)
theorem ret43 (x0 x1 x2 x3 x4 x5 x6 x7 x8 x9 x10 x11 x12 : Value) (h0 h : Heap) : retK Try.f43 Try.prog h0 .ret ⟨#[x0, x1, x2, x3, x4, x5, x6, x7, x8, x9, x10, x11, x12], h⟩ = fin h0 (some (.tuple #[])) h := by kernel_rfl
theorem retn43 (x0 x1 x2 x3 x4 x5 x6 x7 x8 x9 x10 x11 x12 : Value) (h0 h : Heap) : retK Try.f43 Try.prog h0 .normal ⟨#[x0, x1, x2, x3, x4, x5, x6, x7, x8, x9, x10, x11, x12], h⟩ = fin h0 (some (.tuple #[])) h := by kernel_rfl
end Go.Am
namespace Go.Am
open Go.Proofs
set_option maxRecDepth 100000
noncomputable def c61_0 : Code := bodyC Try.f61 []
theorem c61_0_eq {β : Type} (x0 x1 x2 x3 x4 x5 x6 x7 x8 x9 x10 x11 x12 x13 x14 x15 x16 x17 : Value) (h : Heap) (k : Ex → St → Option β) : codeK Try.prog (evC Try.prog) loopL c61_0 ⟨#[x0, x1, x2, x3, x4, x5, x6, x7, x8, x9, x10, x11, x12, x13, x14, x15, x16, x17], h⟩ k =
(lenV Try.prog 23 x1 h).bind fun t6_0 =>
obH (convV Try.prog 3 46 t6_0 h) fun t7_1 h2 =>
obH (evC Try.prog 43 #[x0, t7_1] h2) fun t8_3 h4 =>
(nilCheckV x0).bind fun t11_5 =>
(fieldAddrV Try.prog 146 t11_5 0).bind fun t12_6 =>
(loadV Try.prog 23 t12_6 h4).bind fun t13_7 =>
obH (appendV Try.prog 23 (some 23) t13_7 x1 h4) fun t15_8 h9 =>
(nilCheckV x0).bind fun t16_10 =>
(fieldAddrV Try.prog 146 t16_10 0).bind fun t17_11 =>
(storeV Try.prog 23 t17_11 t15_8 h9).bind fun h12 =>
k .normal ⟨#[x0, x1, x2, x3, x0, x1, t6_0, t7_1, t8_3, x0, x0, t11_5, t12_6, t13_7, x1, t15_8, t16_10, t17_11], h12⟩ := by kernel_rfl
theorem call61 (x0 x1 : Value) (h : Heap) : evC Try.prog 61 #[x0, x1] h = codeK Try.prog (evC Try.prog) loopL c61_0 ⟨#[x0, x1, undef, undef, undef, undef, undef, undef, undef, undef, undef, undef, undef, undef, undef, undef, undef, undef], nm h⟩ (retK Try.f61 Try.prog h) :=
  (evC_call 61 Try.f61 c61_0 Try.func61 (by kernel_rfl) #[x0, x1] h).trans (by kernel_rfl)
theorem ret61 (x0 x1 x2 x3 x4 x5 x6 x7 x8 x9 x10 x11 x12 x13 x14 x15 x16 x17 : Value) (h0 h : Heap) : retK Try.f61 Try.prog h0 .ret ⟨#[x0, x1, x2, x3, x4, x5, x6, x7, x8, x9, x10, x11, x12, x13, x14, x15, x16, x17], h⟩ = fin h0 (some (.tuple #[])) h := by kernel_rfl
theorem retn61 (x0 x1 x2 x3 x4 x5 x6 x7 x8 x9 x10 x11 x12 x13 x14 x15 x16 x17 : Value) (h0 h : Heap) : retK Try.f61 Try.prog h0 .normal ⟨#[x0, x1, x2, x3, x4, x5, x6, x7, x8, x9, x10, x11, x12, x13, x14, x15, x16, x17], h⟩ = fin h0 (some (.tuple #[])) h := by kernel_rfl
end Go.Am
namespace Go.Am
open Go.Proofs
set_option maxRecDepth 100000
noncomputable def c44_0 : Code := bodyC Try.f44 []
theorem c44_0_eq {β : Type} (x0 x1 x2 x3 x4 x5 x6 x7 : Value) (h : Heap) (k : Ex → St → Option β) : codeK Try.prog (evC Try.prog) loopL c44_0 ⟨#[x0, x1, x2, x3, x4, x5, x6, x7], h⟩ k =
(nilCheckV x0).bind fun t4_0 =>
(fieldAddrV Try.prog 146 t4_0 0).bind fun t5_1 =>
(loadV Try.prog 23 t5_1 h).bind fun t6_2 =>
obH (evC Try.prog 95 #[t6_2] h) fun t7_3 h4 =>
k .ret ⟨#[x0, x1, t7_3, x0, t4_0, t5_1, t6_2, t7_3], h4⟩ := by kernel_rfl
theorem call44 (x0 : Value) (h : Heap) : evC Try.prog 44 #[x0] h = codeK Try.prog (evC Try.prog) loopL c44_0 ⟨#[x0, undef, undef, undef, undef, undef, undef, undef], nm h⟩ (retK Try.f44 Try.prog h) :=
  (evC_call 44 Try.f44 c44_0 Try.func44 (by kernel_rfl) #[x0] h).trans (by kernel_rfl)
theorem ret44 (x0 x1 x2 x3 x4 x5 x6 x7 : Value) (h0 h : Heap) : retK Try.f44 Try.prog h0 .ret ⟨#[x0, x1, x2, x3, x4, x5, x6, x7], h⟩ = fin h0 (some x2) h := by kernel_rfl
theorem retn44 (x0 x1 x2 x3 x4 x5 x6 x7 : Value) (h0 h : Heap) : retK Try.f44 Try.prog h0 .normal ⟨#[x0, x1, x2, x3, x4, x5, x6, x7], h⟩ = fin h0 (some x2) h := by kernel_rfl
end Go.Am
namespace Go.Am
open Go.Proofs
set_option maxRecDepth 100000
noncomputable def c45_0 : Code := bodyC Try.f45 []
theorem c45_0_eq {β : Type} (x0 x1 x2 x3 x4 x5 x6 : Value) (h : Heap) (k : Ex → St → Option β) : codeK Try.prog (evC Try.prog) loopL c45_0 ⟨#[x0, x1, x2, x3, x4, x5, x6], h⟩ k =
obH (evC Try.prog 95 #[x0] h) fun t4_0 h1 =>
(buildV Try.prog 150 #[(0, t4_0)]).bind fun t5_2 =>
obH (boxV Try.prog 150 t5_2 h1) fun t6_3 h4 =>
k .ret ⟨#[x0, x1, t6_3, x0, t4_0, t5_2, t6_3], h4⟩ := by kernel_rfl
theorem call45 (x0 : Value) (h : Heap) : evC Try.prog 45 #[x0] h = codeK Try.prog (evC Try.prog) loopL c45_0 ⟨#[x0, undef, undef, undef, undef, undef, undef], nm h⟩ (retK Try.f45 Try.prog h) :=
  (evC_call 45 Try.f45 c45_0 Try.func45 (by kernel_rfl) #[x0] h).trans (by kernel_rfl)
theorem ret45 (x0 x1 x2 x3 x4 x5 x6 : Value) (h0 h : Heap) : retK Try.f45 Try.prog h0 .ret ⟨#[x0, x1, x2, x3, x4, x5, x6], h⟩ = fin h0 (some x2) h := by kernel_rfl
theorem retn45 (x0 x1 x2 x3 x4 x5 x6 : Value) (h0 h : Heap) : retK Try.f45 Try.prog h0 .normal ⟨#[x0, x1, x2, x3, x4, x5, x6], h⟩ = fin h0 (some x2) h := by kernel_rfl
end Go.Am
namespace Go.Am
open Go.Proofs
set_option maxRecDepth 100000
noncomputable def c46_0 : Code := bodyC Try.f46 []
theorem c46_0_eq {β : Type} (x0 x1 x2 x3 x4 x5 x6 x7 x8 x9 x10 x11 x12 x13 x14 x15 x16 x17 x18 x19 x20 x21 x22 x23 x24 x25 x26 x27 x28 x29 x30 x31 x32 x33 : Value) (h : Heap) (k : Ex → St → Option β) : codeK Try.prog (evC Try.prog) loopL c46_0 ⟨#[x0, x1, x2, x3, x4, x5, x6, x7, x8, x9, x10, x11, x12, x13, x14, x15, x16, x17, x18, x19, x20, x21, x22, x23, x24, x25, x26, x27, x28, x29, x30, x31, x32, x33], h⟩ k =
(nilCheckV x0).bind fun t9_0 =>
(fieldAddrV Try.prog 150 t9_0 0).bind fun t10_1 =>
(loadV Try.prog 23 t10_1 h).bind fun t11_2 =>
obH (evC Try.prog 96 #[t11_2] h) fun t12_3 h4 =>
(extractV t12_3 0).bind fun t13_5 =>
(extractV t12_3 1).bind fun t14_6 =>
(binV Try.prog .eql 3 (.tmp 16) (.const (Go.Value.int Go.IntKind.i64 0)) t14_6 (Go.Value.int Go.IntKind.i64 0)).bind fun t17_7 =>
(gd (wt t17_7 false) (binV Try.prog .gtr 46 (.tmp 19) (.tmp 20) (gdV (wt t17_7 false) t13_5) (gdV (wt t17_7 false) x1))).bind fun t21_8 =>
(pickV t17_7 (Go.Value.bool Bool.true) t21_8).bind fun t22_9 =>
obH (evC Try.prog 97 #[x0, t22_9] h4) fun t23_10 h11 =>
cnd t23_10 (
k .ret ⟨#[x0, x1, x2, x3, (Go.Value.int Go.IntKind.u64 0), t13_5, t14_6, t12_3, x0, t9_0, t10_1, t11_2, t12_3, t13_5, t14_6, x0, t14_6, t17_7, t17_7, (gdV (wt t17_7 false) t13_5), (gdV (wt t17_7 false) x1), t21_8, t22_9, t23_10, x24, x25, x26, x27, x28, x29, x30, x31, x32, x33], h11⟩) (
(nilCheckV x0).bind fun t26_12 =>
(fieldAddrV Try.prog 150 t26_12 0).bind fun t27_13 =>
(loadV Try.prog 23 t27_13 h11).bind fun t28_14 =>
(sliceV Try.prog 23 t28_14 (some t14_6) none none h11).bind fun t30_15 =>
(nilCheckV x0).bind fun t31_16 =>
(fieldAddrV Try.prog 150 t31_16 0).bind fun t32_17 =>
(storeV Try.prog 23 t32_17 t30_15 h11).bind fun h18 =>
k .ret ⟨#[x0, x1, x2, x3, t13_5, t13_5, t14_6, t12_3, x0, t9_0, t10_1, t11_2, t12_3, t13_5, t14_6, x0, t14_6, t17_7, t17_7, (gdV (wt t17_7 false) t13_5), (gdV (wt t17_7 false) x1), t21_8, t22_9, t23_10, x0, x0, t26_12, t27_13, t28_14, t14_6, t30_15, t31_16, t32_17, t13_5], h18⟩) := by kernel_rfl
theorem call46 (x0 x1 : Value) (h : Heap) : evC Try.prog 46 #[x0, x1] h = codeK Try.prog (evC Try.prog) loopL c46_0 ⟨#[x0, x1, undef, undef, undef, undef, undef, undef, undef, undef, undef, undef, undef, undef, undef, undef, undef, undef, undef, undef, undef, undef, undef, undef, undef, undef, undef, undef, undef, undef, undef, undef, undef, undef], nm h⟩ (retK Try.f46 Try.prog h) :=
  (evC_call 46 Try.f46 c46_0 Try.func46 (by kernel_rfl) #[x0, x1] h).trans (by kernel_rfl)
theorem ret46 (x0 x1 x2 x3 x4 x5 x6 x7 x8 x9 x10 x11 x12 x13 x14 x15 x16 x17 x18 x19 x20 x21 x22 x23 x24 x25 x26 x27 x28 x29 x30 x31 x32 x33 : Value) (h0 h : Heap) : retK Try.f46 Try.prog h0 .ret ⟨#[x0, x1, x2, x3, x4, x5, x6, x7, x8, x9, x10, x11, x12, x13, x14, x15, x16, x17, x18, x19, x20, x21, x22, x23, x24, x25, x26, x27, x28, x29, x30, x31, x32, x33], h⟩ = fin h0 (some x4) h := by kernel_rfl
theorem retn46 (x0 x1 x2 x3 x4 x5 x6 x7 x8 x9 x10 x11 x12 x13 x14 x15 x16 x17 x18 x19 x20 x21 x22 x23 x24 x25 x26 x27 x28 x29 x30 x31 x32 x33 : Value) (h0 h : Heap) : retK Try.f46 Try.prog h0 .normal ⟨#[x0, x1, x2, x3, x4, x5, x6, x7, x8, x9, x10, x11, x12, x13, x14, x15, x16, x17, x18, x19, x20, x21, x22, x23, x24, x25, x26, x27, x28, x29, x30, x31, x32, x33], h⟩ = fin h0 (some x4) h := by kernel_rfl
end Go.Am
namespace Go.Am
open Go.Proofs
set_option maxRecDepth 100000
noncomputable def c54_0 : Code := bodyC Try.f54 []
theorem c54_0_eq {β : Type} (x0 x1 x2 x3 x4 x5 x6 x7 x8 x9 x10 x11 x12 x13 x14 : Value) (h : Heap) (k : Ex → St → Option β) : codeK Try.prog (evC Try.prog) loopL c54_0 ⟨#[x0, x1, x2, x3, x4, x5, x6, x7, x8, x9, x10, x11, x12, x13, x14], h⟩ k =
obH (builtinV Try.prog .max #[3, 3] #[x1, (Go.Value.int Go.IntKind.i64 0)] h) fun t8_0 h1 =>
obH (convV Try.prog 3 46 t8_0 h1) fun t9_2 h3 =>
obH (evC Try.prog 46 #[x0, t9_2] h3) fun t10_4 h5 =>
obH (evC Try.prog 102 #[x0, t10_4] h5) fun t13_6 h7 =>
obH (evC Try.prog 95 #[t13_6] h7) fun t14_8 h9 =>
k .ret ⟨#[x0, x1, x2, x3, t14_8, t10_4, x0, x1, t8_0, t9_2, t10_4, x0, t10_4, t13_6, t14_8], h9⟩ := by kernel_rfl
theorem call54 (x0 x1 : Value) (h : Heap) : evC Try.prog 54 #[x0, x1] h = codeK Try.prog (evC Try.prog) loopL c54_0 ⟨#[x0, x1, undef, undef, undef, undef, undef, undef, undef, undef, undef, undef, undef, undef, undef], nm h⟩ (retK Try.f54 Try.prog h) :=
  (evC_call 54 Try.f54 c54_0 Try.func54 (by kernel_rfl) #[x0, x1] h).trans (by kernel_rfl)
theorem ret54 (x0 x1 x2 x3 x4 x5 x6 x7 x8 x9 x10 x11 x12 x13 x14 : Value) (h0 h : Heap) : retK Try.f54 Try.prog h0 .ret ⟨#[x0, x1, x2, x3, x4, x5, x6, x7, x8, x9, x10, x11, x12, x13, x14], h⟩ = fin h0 (some x4) h := by kernel_rfl
theorem retn54 (x0 x1 x2 x3 x4 x5 x6 x7 x8 x9 x10 x11 x12 x13 x14 : Value) (h0 h : Heap) : retK Try.f54 Try.prog h0 .normal ⟨#[x0, x1, x2, x3, x4, x5, x6, x7, x8, x9, x10, x11, x12, x13, x14], h⟩ = fin h0 (some x4) h := by kernel_rfl
end Go.Am
namespace Go.Am
open Go.Proofs
set_option maxRecDepth 100000
noncomputable def c47_0 : Code := bodyC Try.f47 []
theorem c47_0_eq {β : Type} (x0 x1 x2 x3 x4 x5 x6 x7 x8 x9 x10 x11 x12 x13 x14 x15 : Value) (h : Heap) (k : Ex → St → Option β) : codeK Try.prog (evC Try.prog) loopL c47_0 ⟨#[x0, x1, x2, x3, x4, x5, x6, x7, x8, x9, x10, x11, x12, x13, x14, x15], h⟩ k =
(nilCheckV x0).bind fun t4_0 =>
(fieldAddrV Try.prog 150 t4_0 1).bind fun t5_1 =>
(loadV Try.prog 4 t5_1 h).bind fun t6_2 =>
(unV Try.prog .not t6_2).bind fun t7_3 =>
(gd (wt t7_3 true) (nilCheckV (gdV (wt t7_3 true) x0))).bind fun t10_4 =>
(gd (wt t7_3 true) (fieldAddrV Try.prog 150 t10_4 0)).bind fun t11_5 =>
(gd (wt t7_3 true) (loadV Try.prog 23 t11_5 h)).bind fun t12_6 =>
(gd (wt t7_3 true) (lenV Try.prog 23 t12_6 h)).bind fun t13_7 =>
(gd (wt t7_3 true) (binV Try.prog .eql 3 (.tmp 13) (.const (Go.Value.int Go.IntKind.i64 0)) t13_7 (Go.Value.int Go.IntKind.i64 0))).bind fun t14_8 =>
(pickV t7_3 t14_8 (Go.Value.bool Bool.false)).bind fun t15_9 =>
k .ret ⟨#[x0, x1, t15_9, x0, t4_0, t5_1, t6_2, t7_3, t7_3, (gdV (wt t7_3 true) x0), t10_4, t11_5, t12_6, t13_7, t14_8, t15_9], h⟩ := by kernel_rfl
theorem call47 (x0 : Value) (h : Heap) : evC Try.prog 47 #[x0] h = codeK Try.prog (evC Try.prog) loopL c47_0 ⟨#[x0, undef, undef, undef, undef, undef, undef, undef, undef, undef, undef, undef, undef, undef, undef, undef], nm h⟩ (retK Try.f47 Try.prog h) :=
  (evC_call 47 Try.f47 c47_0 Try.func47 (by kernel_rfl) #[x0] h).trans (by kernel_rfl)
theorem ret47 (x0 x1 x2 x3 x4 x5 x6 x7 x8 x9 x10 x11 x12 x13 x14 x15 : Value) (h0 h : Heap) : retK Try.f47 Try.prog h0 .ret ⟨#[x0, x1, x2, x3, x4, x5, x6, x7, x8, x9, x10, x11, x12, x13, x14, x15], h⟩ = fin h0 (some x2) h := by kernel_rfl
theorem retn47 (x0 x1 x2 x3 x4 x5 x6 x7 x8 x9 x10 x11 x12 x13 x14 x15 : Value) (h0 h : Heap) : retK Try.f47 Try.prog h0 .normal ⟨#[x0, x1, x2, x3, x4, x5, x6, x7, x8, x9, x10, x11, x12, x13, x14, x15], h⟩ = fin h0 (some x2) h := by kernel_rfl
end Go.Am
namespace Go.Am
open Go.Proofs
set_option maxRecDepth 100000
noncomputable def c97_0 : Code := bodyC Try.f97 []
noncomputable def c97_1 : Code := bodyC Try.f97 [true, true]
theorem c97_0_eq {β : Type} (x0 x1 x2 x3 x4 x5 x6 x7 x8 x9 x10 x11 x12 x13 x14 x15 : Value) (h : Heap) (k : Ex → St → Option β) : codeK Try.prog (evC Try.prog) loopL c97_0 ⟨#[x0, x1, x2, x3, x4, x5, x6, x7, x8, x9, x10, x11, x12, x13, x14, x15], h⟩ k =
cnd x1 (
(nilCheckV x0).bind fun t8_0 =>
(fieldAddrV Try.prog 150 t8_0 0).bind fun t9_1 =>
(storeV Try.prog 23 t9_1 (Go.Value.slice Option.none 0 0) h).bind fun h2 =>
(nilCheckV x0).bind fun t10_3 =>
(fieldAddrV Try.prog 150 t10_3 1).bind fun t11_4 =>
(storeV Try.prog 4 t11_4 (Go.Value.bool Bool.true) h2).bind fun h5 =>
codeK Try.prog (evC Try.prog) loopL c97_1 ⟨#[x0, x1, x2, x3, (Go.Value.bool Bool.false), x1, x0, x0, t8_0, t9_1, t10_3, t11_4, x12, x13, x14, x15], h5⟩ k) (
codeK Try.prog (evC Try.prog) loopL c97_1 ⟨#[x0, x1, x2, x3, (Go.Value.bool Bool.false), x1, x6, x7, x8, x9, x10, x11, x12, x13, x14, x15], h⟩ k) := by kernel_rfl
theorem c97_1_eq {β : Type} (x0 x1 x2 x3 x4 x5 x6 x7 x8 x9 x10 x11 x12 x13 x14 x15 : Value) (h : Heap) (k : Ex → St → Option β) : codeK Try.prog (evC Try.prog) loopL c97_1 ⟨#[x0, x1, x2, x3, x4, x5, x6, x7, x8, x9, x10, x11, x12, x13, x14, x15], h⟩ k =
(nilCheckV x0).bind fun t13_6 =>
(fieldAddrV Try.prog 150 t13_6 1).bind fun t14_7 =>
(loadV Try.prog 4 t14_7 h).bind fun t15_8 =>
k .ret ⟨#[x0, x1, x2, x3, t15_8, x5, x6, x7, x8, x9, x10, x11, x0, t13_6, t14_7, t15_8], h⟩ := by kernel_rfl
theorem call97 (x0 x1 : Value) (h : Heap) : evC Try.prog 97 #[x0, x1] h = codeK Try.prog (evC Try.prog) loopL c97_0 ⟨#[x0, x1, undef, undef, undef, undef, undef, undef, undef, undef, undef, undef, undef, undef, undef, undef], nm h⟩ (retK Try.f97 Try.prog h) :=
  (evC_call 97 Try.f97 c97_0 Try.func97 (by kernel_rfl) #[x0, x1] h).trans (by kernel_rfl)
theorem ret97 (x0 x1 x2 x3 x4 x5 x6 x7 x8 x9 x10 x11 x12 x13 x14 x15 : Value) (h0 h : Heap) : retK Try.f97 Try.prog h0 .ret ⟨#[x0, x1, x2, x3, x4, x5, x6, x7, x8, x9, x10, x11, x12, x13, x14, x15], h⟩ = fin h0 (some x4) h := by kernel_rfl
theorem retn97 (x0 x1 x2 x3 x4 x5 x6 x7 x8 x9 x10 x11 x12 x13 x14 x15 : Value) (h0 h : Heap) : retK Try.f97 Try.prog h0 .normal ⟨#[x0, x1, x2, x3, x4, x5, x6, x7, x8, x9, x10, x11, x12, x13, x14, x15], h⟩ = fin h0 (some x4) h := by kernel_rfl
end Go.Am
namespace Go.Am
open Go.Proofs
set_option maxRecDepth 100000
noncomputable def c102_0 : Code := bodyC Try.f102 []
theorem c102_0_eq {β : Type} (x0 x1 x2 x3 x4 x5 x6 x7 x8 x9 x10 x11 x12 x13 x14 x15 x16 x17 x18 x19 x20 x21 x22 x23 x24 x25 x26 x27 x28 x29 x30 x31 : Value) (h : Heap) (k : Ex → St → Option β) : codeK Try.prog (evC Try.prog) loopL c102_0 ⟨#[x0, x1, x2, x3, x4, x5, x6, x7, x8, x9, x10, x11, x12, x13, x14, x15, x16, x17, x18, x19, x20, x21, x22, x23, x24, x25, x26, x27, x28, x29, x30, x31], h⟩ k =
(nilCheckV x0).bind fun t9_0 =>
(fieldAddrV Try.prog 150 t9_0 0).bind fun t10_1 =>
(loadV Try.prog 23 t10_1 h).bind fun t11_2 =>
(lenV Try.prog 23 t11_2 h).bind fun t12_3 =>
obH (convV Try.prog 3 46 t12_3 h) fun t13_4 h5 =>
(binV Try.prog .gtr 46 (.tmp 7) (.tmp 13) x1 t13_4).bind fun t14_6 =>
obH (evC Try.prog 97 #[x0, t14_6] h5) fun t15_7 h8 =>
cnd t15_7 (
k .ret ⟨#[x0, x1, x2, x3, (Go.Value.slice Option.none 0 0), x5, x0, x1, x0, t9_0, t10_1, t11_2, t12_3, t13_4, t14_6, t15_7, x16, x17, x18, x19, x20, x21, x22, x23, x24, x25, x26, x27, x28, x29, x30, x31], h8⟩) (
(nilCheckV x0).bind fun t17_9 =>
(fieldAddrV Try.prog 150 t17_9 0).bind fun t18_10 =>
(loadV Try.prog 23 t18_10 h8).bind fun t19_11 =>
(sliceV Try.prog 23 t19_11 none (some x1) none h8).bind fun t21_12 =>
(nilCheckV x0).bind fun t24_13 =>
(fieldAddrV Try.prog 150 t24_13 0).bind fun t25_14 =>
(loadV Try.prog 23 t25_14 h8).bind fun t26_15 =>
(sliceV Try.prog 23 t26_15 (some x1) none none h8).bind fun t28_16 =>
(nilCheckV x0).bind fun t29_17 =>
(fieldAddrV Try.prog 150 t29_17 0).bind fun t30_18 =>
(storeV Try.prog 23 t30_18 t28_16 h8).bind fun h19 =>
k .ret ⟨#[x0, x1, x2, x3, t21_12, t21_12, x0, x1, x0, t9_0, t10_1, t11_2, t12_3, t13_4, t14_6, t15_7, x0, t17_9, t18_10, t19_11, x1, t21_12, x0, x0, t24_13, t25_14, t26_15, x1, t28_16, t29_17, t30_18, t21_12], h19⟩) := by kernel_rfl
theorem call102 (x0 x1 : Value) (h : Heap) : evC Try.prog 102 #[x0, x1] h = codeK Try.prog (evC Try.prog) loopL c102_0 ⟨#[x0, x1, undef, undef, undef, undef, undef, undef, undef, undef, undef, undef, undef, undef, undef, undef, undef, undef, undef, undef, undef, undef, undef, undef, undef, undef, undef, undef, undef, undef, undef, undef], nm h⟩ (retK Try.f102 Try.prog h) :=
  (evC_call 102 Try.f102 c102_0 Try.func102 (by kernel_rfl) #[x0, x1] h).trans (by kernel_rfl)
theorem ret102 (x0 x1 x2 x3 x4 x5 x6 x7 x8 x9 x10 x11 x12 x13 x14 x15 x16 x17 x18 x19 x20 x21 x22 x23 x24 x25 x26 x27 x28 x29 x30 x31 : Value) (h0 h : Heap) : retK Try.f102 Try.prog h0 .ret ⟨#[x0, x1, x2, x3, x4, x5, x6, x7, x8, x9, x10, x11, x12, x13, x14, x15, x16, x17, x18, x19, x20, x21, x22, x23, x24, x25, x26, x27, x28, x29, x30, x31], h⟩ = fin h0 (some x4) h := by kernel_rfl
theorem retn102 (x0 x1 x2 x3 x4 x5 x6 x7 x8 x9 x10 x11 x12 x13 x14 x15 x16 x17 x18 x19 x20 x21 x22 x23 x24 x25 x26 x27 x28 x29 x30 x31 : Value) (h0 h : Heap) : retK Try.f102 Try.prog h0 .normal ⟨#[x0, x1, x2, x3, x4, x5, x6, x7, x8, x9, x10, x11, x12, x13, x14, x15, x16, x17, x18, x19, x20, x21, x22, x23, x24, x25, x26, x27, x28, x29, x30, x31], h⟩ = fin h0 (some x4) h := by kernel_rfl
end Go.Am
namespace Go.Am
open Go.Proofs
set_option maxRecDepth 100000
noncomputable def c106_0 : Code := bodyC Try.f106 []
noncomputable def c106_1 : Code := bodyC Try.f106 [true, true, false, false, false]
noncomputable def c106_2 : Code := bodyC Try.f106 [true, true, true]
theorem c106_0_eq {β : Type} (x0 x1 x2 x3 x4 x5 x6 x7 x8 x9 x10 x11 x12 x13 x14 x15 x16 x17 x18 x19 x20 x21 x22 x23 : Value) (h : Heap) (k : Ex → St → Option β) : codeK Try.prog (evC Try.prog) loopL c106_0 ⟨#[x0, x1, x2, x3, x4, x5, x6, x7, x8, x9, x10, x11, x12, x13, x14, x15, x16, x17, x18, x19, x20, x21, x22, x23], h⟩ k =
obH (buildSliceV Try.prog 23 0 #[] h) fun t5_0 h1 =>
obH (appendV Try.prog 23 (some 23) t5_0 x0 h1) fun t7_2 h3 =>
loopK Try.prog (evC Try.prog) c106_1 ⟨#[t7_2, x1, x2, x3, (Go.Value.slice Option.none 0 0), t5_0, x0, t7_2, x8, x9, x10, x11, x12, x13, x14, x15, x16, x17, x18, x19, x20, x21, x22, x23], h3⟩ (blockK 0 (seqK Try.prog (evC Try.prog) c106_2 k)) := by kernel_rfl
theorem c106_1_eq {β : Type} (x0 x1 x2 x3 x4 x5 x6 x7 x8 x9 x10 x11 x12 x13 x14 x15 x16 x17 x18 x19 x20 x21 x22 x23 : Value) (h : Heap) (k : Ex → St → Option β) : codeK Try.prog (evC Try.prog) loopL c106_1 ⟨#[x0, x1, x2, x3, x4, x5, x6, x7, x8, x9, x10, x11, x12, x13, x14, x15, x16, x17, x18, x19, x20, x21, x22, x23], h⟩ k =
(binV Try.prog .geq 46 (.tmp 8) (.const (Go.Value.int Go.IntKind.u64 128)) x1 (Go.Value.int Go.IntKind.u64 128)).bind fun t9_4 =>
cnd t9_4 (
(binV Try.prog .rem 46 (.tmp 11) (.const (Go.Value.int Go.IntKind.u64 128)) x1 (Go.Value.int Go.IntKind.u64 128)).bind fun t12_5 =>
obH (convV Try.prog 46 5 t12_5 h) fun t13_6 h7 =>
(binV Try.prog .add 5 (.tmp 13) (.const (Go.Value.int Go.IntKind.u8 128)) t13_6 (Go.Value.int Go.IntKind.u8 128)).bind fun t14_8 =>
obH (buildSliceV Try.prog 23 1 #[(0, t14_8)] h7) fun t15_9 h10 =>
obH (appendV Try.prog 23 (some 23) x0 t15_9 h10) fun t16_11 h12 =>
(binV Try.prog .quo 46 (.tmp 17) (.const (Go.Value.int Go.IntKind.u64 128)) x1 (Go.Value.int Go.IntKind.u64 128)).bind fun t18_13 =>
k .normal ⟨#[t16_11, t18_13, x2, x3, x4, x5, x6, x7, x1, t9_4, x0, x1, t12_5, t13_6, t14_8, t15_9, t16_11, x1, t18_13, x19, x20, x21, x22, x23], h12⟩) (
k (.exit 0) ⟨#[x0, x1, x2, x3, x4, x5, x6, x7, x1, t9_4, x10, x11, x12, x13, x14, x15, x16, x17, x18, x19, x20, x21, x22, x23], h⟩) := by kernel_rfl
theorem c106_2_eq {β : Type} (x0 x1 x2 x3 x4 x5 x6 x7 x8 x9 x10 x11 x12 x13 x14 x15 x16 x17 x18 x19 x20 x21 x22 x23 : Value) (h : Heap) (k : Ex → St → Option β) : codeK Try.prog (evC Try.prog) loopL c106_2 ⟨#[x0, x1, x2, x3, x4, x5, x6, x7, x8, x9, x10, x11, x12, x13, x14, x15, x16, x17, x18, x19, x20, x21, x22, x23], h⟩ k =
obH (convV Try.prog 46 5 x1 h) fun t21_14 h15 =>
obH (buildSliceV Try.prog 23 1 #[(0, t21_14)] h15) fun t22_16 h17 =>
obH (appendV Try.prog 23 (some 23) x0 t22_16 h17) fun t23_18 h19 =>
k .ret ⟨#[x0, x1, x2, x3, t23_18, x5, x6, x7, x8, x9, x10, x11, x12, x13, x14, x15, x16, x17, x18, x0, x1, t21_14, t22_16, t23_18], h19⟩ := by kernel_rfl
theorem call106 (x0 x1 : Value) (h : Heap) : evC Try.prog 106 #[x0, x1] h = codeK Try.prog (evC Try.prog) loopL c106_0 ⟨#[x0, x1, undef, undef, undef, undef, undef, undef, undef, undef, undef, undef, undef, undef, undef, undef, undef, undef, undef, undef, undef, undef, undef, undef], nm h⟩ (retK Try.f106 Try.prog h) :=
  (evC_call 106 Try.f106 c106_0 Try.func106 (by kernel_rfl) #[x0, x1] h).trans (by kernel_rfl)
theorem ret106 (x0 x1 x2 x3 x4 x5 x6 x7 x8 x9 x10 x11 x12 x13 x14 x15 x16 x17 x18 x19 x20 x21 x22 x23 : Value) (h0 h : Heap) : retK Try.f106 Try.prog h0 .ret ⟨#[x0, x1, x2, x3, x4, x5, x6, x7, x8, x9, x10, x11, x12, x13, x14, x15, x16, x17, x18, x19, x20, x21, x22, x23], h⟩ = fin h0 (some x4) h := by kernel_rfl
theorem retn106 (x0 x1 x2 x3 x4 x5 x6 x7 x8 x9 x10 x11 x12 x13 x14 x15 x16 x17 x18 x19 x20 x21 x22 x23 : Value) (h0 h : Heap) : retK Try.f106 Try.prog h0 .normal ⟨#[x0, x1, x2, x3, x4, x5, x6, x7, x8, x9, x10, x11, x12, x13, x14, x15, x16, x17, x18, x19, x20, x21, x22, x23], h⟩ = fin h0 (some x4) h := by kernel_rfl
end Go.Am
namespace Go.Am
open Go.Proofs
set_option maxRecDepth 100000
noncomputable def c98_0 : Code := bodyC Try.f98 []
noncomputable def c98_1 : Code := bodyC Try.f98 [true, true, false, true, false, false]
noncomputable def c98_2 : Code := bodyC Try.f98 [true, true, true]
theorem c98_0_eq {β : Type} (x0 x1 x2 x3 x4 x5 x6 x7 x8 x9 x10 x11 x12 x13 x14 x15 x16 x17 x18 x19 x20 x21 x22 x23 x24 x25 x26 x27 x28 x29 x30 x31 x32 x33 x34 x35 x36 x37 x38 x39 x40 x41 x42 x43 x44 x45 x46 : Value) (h : Heap) (k : Ex → St → Option β) : codeK Try.prog (evC Try.prog) loopL c98_0 ⟨#[x0, x1, x2, x3, x4, x5, x6, x7, x8, x9, x10, x11, x12, x13, x14, x15, x16, x17, x18, x19, x20, x21, x22, x23, x24, x25, x26, x27, x28, x29, x30, x31, x32, x33, x34, x35, x36, x37, x38, x39, x40, x41, x42, x43, x44, x45, x46], h⟩ k =
loopK Try.prog (evC Try.prog) c98_1 ⟨#[x0, x1, (Go.Value.int Go.IntKind.u64 0), (Go.Value.int Go.IntKind.i64 0), (Go.Value.int Go.IntKind.u64 0), (Go.Value.int Go.IntKind.i64 0), x6, x7, x8, x9, x10, x11, x12, x13, x14, x15, x16, x17, x18, x19, x20, x21, x22, x23, x24, x25, x26, x27, x28, x29, x30, x31, x32, x33, x34, x35, x36, x37, x38, x39, x40, x41, x42, x43, x44, x45, x46], h⟩ (blockK 0 (seqK Try.prog (evC Try.prog) c98_2 k)) := by kernel_rfl
theorem c98_1_eq {β : Type} (x0 x1 x2 x3 x4 x5 x6 x7 x8 x9 x10 x11 x12 x13 x14 x15 x16 x17 x18 x19 x20 x21 x22 x23 x24 x25 x26 x27 x28 x29 x30 x31 x32 x33 x34 x35 x36 x37 x38 x39 x40 x41 x42 x43 x44 x45 x46 : Value) (h : Heap) (k : Ex → St → Option β) : codeK Try.prog (evC Try.prog) loopL c98_1 ⟨#[x0, x1, x2, x3, x4, x5, x6, x7, x8, x9, x10, x11, x12, x13, x14, x15, x16, x17, x18, x19, x20, x21, x22, x23, x24, x25, x26, x27, x28, x29, x30, x31, x32, x33, x34, x35, x36, x37, x38, x39, x40, x41, x42, x43, x44, x45, x46], h⟩ k =
(lenV Try.prog 23 x0 h).bind fun t9_0 =>
(binV Try.prog .lss 3 (.tmp 7) (.tmp 9) x5 t9_0).bind fun t10_1 =>
(gd (wt t10_1 true) (binV Try.prog .lss 3 (.tmp 12) (.const (Go.Value.int Go.IntKind.i64 10)) (gdV (wt t10_1 true) x5) (Go.Value.int Go.IntKind.i64 10))).bind fun t13_2 =>
(pickV t10_1 t13_2 (Go.Value.bool Bool.false)).bind fun t14_3 =>
cnd t14_3 (
(indexAddrV Try.prog 23 x0 x5).bind fun t19_4 =>
(loadV Try.prog 5 t19_4 h).bind fun t20_5 =>
(binV Try.prog .eql 3 (.tmp 21) (.const (Go.Value.int Go.IntKind.i64 9)) x5 (Go.Value.int Go.IntKind.i64 9)).bind fun t22_6 =>
(gd (wt t22_6 true) (binV Try.prog .gtr 5 (.tmp 24) (.const (Go.Value.int Go.IntKind.u8 1)) (gdV (wt t22_6 true) t20_5) (Go.Value.int Go.IntKind.u8 1))).bind fun t25_7 =>
(pickV t22_6 t25_7 (Go.Value.bool Bool.false)).bind fun t26_8 =>
cnd t26_8 (
k .ret ⟨#[x0, x1, (Go.Value.int Go.IntKind.u64 0), (Go.Value.int Go.IntKind.i64 0), x4, x5, t20_5, x5, x0, t9_0, t10_1, t10_1, (gdV (wt t10_1 true) x5), t13_2, t14_3, x15, x16, x0, x5, t19_4, t20_5, x5, t22_6, t22_6, (gdV (wt t22_6 true) t20_5), t25_7, t26_8, x27, x28, x29, x30, x31, x32, x33, x34, x35, x36, x37, x38, x39, x40, x41, x42, x43, x44, x45, x46], h⟩) (
(binV Try.prog .and 5 (.tmp 28) (.const (Go.Value.int Go.IntKind.u8 127)) t20_5 (Go.Value.int Go.IntKind.u8 127)).bind fun t29_9 =>
obH (convV Try.prog 5 46 t29_9 h) fun t30_10 h11 =>
(binV Try.prog .mul 3 (.const (Go.Value.int Go.IntKind.i64 7)) (.tmp 31) (Go.Value.int Go.IntKind.i64 7) x5).bind fun t32_12 =>
obH (convV Try.prog 3 138 t32_12 h11) fun t33_13 h14 =>
(binV Try.prog .shl 46 (.tmp 30) (.tmp 33) t30_10 t33_13).bind fun t34_15 =>
(binV Try.prog .or 46 (.tmp 27) (.tmp 34) x4 t34_15).bind fun t35_16 =>
(binV Try.prog .lss 5 (.tmp 36) (.const (Go.Value.int Go.IntKind.u8 128)) t20_5 (Go.Value.int Go.IntKind.u8 128)).bind fun t37_17 =>
cnd t37_17 (
(binV Try.prog .eql 5 (.tmp 38) (.const (Go.Value.int Go.IntKind.u8 0)) t20_5 (Go.Value.int Go.IntKind.u8 0)).bind fun t39_18 =>
(gd (wt t39_18 true) (binV Try.prog .gtr 3 (.tmp 41) (.const (Go.Value.int Go.IntKind.i64 0)) (gdV (wt t39_18 true) x5) (Go.Value.int Go.IntKind.i64 0))).bind fun t42_19 =>
(pickV t39_18 t42_19 (Go.Value.bool Bool.false)).bind fun t43_20 =>
cnd t43_20 (
k .ret ⟨#[x0, x1, (Go.Value.int Go.IntKind.u64 0), (Go.Value.int Go.IntKind.i64 0), t35_16, x5, t20_5, x5, x0, t9_0, t10_1, t10_1, (gdV (wt t10_1 true) x5), t13_2, t14_3, x15, x16, x0, x5, t19_4, t20_5, x5, t22_6, t22_6, (gdV (wt t22_6 true) t20_5), t25_7, t26_8, x4, t20_5, t29_9, t30_10, x5, t32_12, t33_13, t34_15, t35_16, t20_5, t37_17, t20_5, t39_18, t39_18, (gdV (wt t39_18 true) x5), t42_19, t43_20, x44, x45, x46], h14⟩) (
(binV Try.prog .add 3 (.tmp 45) (.const (Go.Value.int Go.IntKind.i64 1)) x5 (Go.Value.int Go.IntKind.i64 1)).bind fun t46_21 =>
k .ret ⟨#[x0, x1, t35_16, t46_21, t35_16, x5, t20_5, x5, x0, t9_0, t10_1, t10_1, (gdV (wt t10_1 true) x5), t13_2, t14_3, x15, x16, x0, x5, t19_4, t20_5, x5, t22_6, t22_6, (gdV (wt t22_6 true) t20_5), t25_7, t26_8, x4, t20_5, t29_9, t30_10, x5, t32_12, t33_13, t34_15, t35_16, t20_5, t37_17, t20_5, t39_18, t39_18, (gdV (wt t39_18 true) x5), t42_19, t43_20, t35_16, x5, t46_21], h14⟩)) (
(binV Try.prog .add 3 (.tmp 15) (.const (Go.Value.int Go.IntKind.i64 1)) x5 (Go.Value.int Go.IntKind.i64 1)).bind fun t16_22 =>
k .normal ⟨#[x0, x1, x2, x3, t35_16, t16_22, t20_5, x5, x0, t9_0, t10_1, t10_1, (gdV (wt t10_1 true) x5), t13_2, t14_3, x5, t16_22, x0, x5, t19_4, t20_5, x5, t22_6, t22_6, (gdV (wt t22_6 true) t20_5), t25_7, t26_8, x4, t20_5, t29_9, t30_10, x5, t32_12, t33_13, t34_15, t35_16, t20_5, t37_17, x38, x39, x40, x41, x42, x43, x44, x45, x46], h14⟩))) (
k (.exit 0) ⟨#[x0, x1, x2, x3, x4, x5, x6, x5, x0, t9_0, t10_1, t10_1, (gdV (wt t10_1 true) x5), t13_2, t14_3, x15, x16, x17, x18, x19, x20, x21, x22, x23, x24, x25, x26, x27, x28, x29, x30, x31, x32, x33, x34, x35, x36, x37, x38, x39, x40, x41, x42, x43, x44, x45, x46], h⟩) := by kernel_rfl
theorem c98_2_eq {β : Type} (x0 x1 x2 x3 x4 x5 x6 x7 x8 x9 x10 x11 x12 x13 x14 x15 x16 x17 x18 x19 x20 x21 x22 x23 x24 x25 x26 x27 x28 x29 x30 x31 x32 x33 x34 x35 x36 x37 x38 x39 x40 x41 x42 x43 x44 x45 x46 : Value) (h : Heap) (k : Ex → St → Option β) : codeK Try.prog (evC Try.prog) loopL c98_2 ⟨#[x0, x1, x2, x3, x4, x5, x6, x7, x8, x9, x10, x11, x12, x13, x14, x15, x16, x17, x18, x19, x20, x21, x22, x23, x24, x25, x26, x27, x28, x29, x30, x31, x32, x33, x34, x35, x36, x37, x38, x39, x40, x41, x42, x43, x44, x45, x46], h⟩ k =
k .ret ⟨#[x0, x1, (Go.Value.int Go.IntKind.u64 0), (Go.Value.int Go.IntKind.i64 0), x4, x5, x6, x7, x8, x9, x10, x11, x12, x13, x14, x15, x16, x17, x18, x19, x20, x21, x22, x23, x24, x25, x26, x27, x28, x29, x30, x31, x32, x33, x34, x35, x36, x37, x38, x39, x40, x41, x42, x43, x44, x45, x46], h⟩ := by kernel_rfl
theorem call98 (x0 : Value) (h : Heap) : evC Try.prog 98 #[x0] h = codeK Try.prog (evC Try.prog) loopL c98_0 ⟨#[x0, undef, undef, undef, undef, undef, undef, undef, undef, undef, undef, undef, undef, undef, undef, undef, undef, undef, undef, undef, undef, undef, undef, undef, undef, undef, undef, undef, undef, undef, undef, undef, undef, undef, undef, undef, undef, undef, undef, undef, undef, undef, undef, undef, undef, undef, undef], nm h⟩ (retK Try.f98 Try.prog h) :=
  (evC_call 98 Try.f98 c98_0 Try.func98 (by kernel_rfl) #[x0] h).trans (by kernel_rfl)
theorem ret98 (x0 x1 x2 x3 x4 x5 x6 x7 x8 x9 x10 x11 x12 x13 x14 x15 x16 x17 x18 x19 x20 x21 x22 x23 x24 x25 x26 x27 x28 x29 x30 x31 x32 x33 x34 x35 x36 x37 x38 x39 x40 x41 x42 x43 x44 x45 x46 : Value) (h0 h : Heap) : retK Try.f98 Try.prog h0 .ret ⟨#[x0, x1, x2, x3, x4, x5, x6, x7, x8, x9, x10, x11, x12, x13, x14, x15, x16, x17, x18, x19, x20, x21, x22, x23, x24, x25, x26, x27, x28, x29, x30, x31, x32, x33, x34, x35, x36, x37, x38, x39, x40, x41, x42, x43, x44, x45, x46], h⟩ = fin h0 (some (.tuple #[x2, x3])) h := by kernel_rfl
theorem retn98 (x0 x1 x2 x3 x4 x5 x6 x7 x8 x9 x10 x11 x12 x13 x14 x15 x16 x17 x18 x19 x20 x21 x22 x23 x24 x25 x26 x27 x28 x29 x30 x31 x32 x33 x34 x35 x36 x37 x38 x39 x40 x41 x42 x43 x44 x45 x46 : Value) (h0 h : Heap) : retK Try.f98 Try.prog h0 .normal ⟨#[x0, x1, x2, x3, x4, x5, x6, x7, x8, x9, x10, x11, x12, x13, x14, x15, x16, x17, x18, x19, x20, x21, x22, x23, x24, x25, x26, x27, x28, x29, x30, x31, x32, x33, x34, x35, x36, x37, x38, x39, x40, x41, x42, x43, x44, x45, x46], h⟩ = fin h0 (some (.tuple #[x2, x3])) h := by kernel_rfl
end Go.Am
namespace Go.Am
open Go.Proofs
set_option maxRecDepth 100000
noncomputable def c58_0 : Code := bodyC Try.f58 []
theorem c58_0_eq {β : Type} (x0 x1 x2 x3 x4 x5 x6 x7 x8 x9 x10 x11 x12 : Value) (h : Heap) (k : Ex → St → Option β) : codeK Try.prog (evC Try.prog) loopL c58_0 ⟨#[x0, x1, x2, x3, x4, x5, x6, x7, x8, x9, x10, x11, x12], h⟩ k =
(nilCheckV x0).bind fun t6_0 =>
(fieldAddrV Try.prog 97 t6_0 0).bind fun t7_1 =>
(loadV Try.prog 23 t7_1 h).bind fun t8_2 =>
obH (evC Try.prog 106 #[t8_2, x1] h) fun t10_3 h4 =>
(nilCheckV x0).bind fun t11_5 =>
(fieldAddrV Try.prog 97 t11_5 0).bind fun t12_6 =>
(storeV Try.prog 23 t12_6 t10_3 h4).bind fun h7 =>
k .normal ⟨#[x0, x1, x2, x3, x0, x0, t6_0, t7_1, t8_2, x1, t10_3, t11_5, t12_6], h7⟩ := by kernel_rfl
theorem call58 (x0 x1 : Value) (h : Heap) : evC Try.prog 58 #[x0, x1] h = codeK Try.prog (evC Try.prog) loopL c58_0 ⟨#[x0, x1, undef, undef, undef, undef, undef, undef, undef, undef, undef, undef, undef], nm h⟩ (retK Try.f58 Try.prog h) :=
  (evC_call 58 Try.f58 c58_0 Try.func58 (by kernel_rfl) #[x0, x1] h).trans (by kernel_rfl)
theorem ret58 (x0 x1 x2 x3 x4 x5 x6 x7 x8 x9 x10 x11 x12 : Value) (h0 h : Heap) : retK Try.f58 Try.prog h0 .ret ⟨#[x0, x1, x2, x3, x4, x5, x6, x7, x8, x9, x10, x11, x12], h⟩ = fin h0 (some (.tuple #[])) h := by kernel_rfl
theorem retn58 (x0 x1 x2 x3 x4 x5 x6 x7 x8 x9 x10 x11 x12 : Value) (h0 h : Heap) : retK Try.f58 Try.prog h0 .normal ⟨#[x0, x1, x2, x3, x4, x5, x6, x7, x8, x9, x10, x11, x12], h⟩ = fin h0 (some (.tuple #[])) h := by kernel_rfl
end Go.Am
namespace Go.Am
open Go.Proofs
set_option maxRecDepth 100000
noncomputable def c62_0 : Code := bodyC Try.f62 []
theorem c62_0_eq {β : Type} (x0 x1 x2 x3 x4 x5 x6 x7 x8 x9 x10 x11 x12 x13 x14 x15 x16 x17 : Value) (h : Heap) (k : Ex → St → Option β) : codeK Try.prog (evC Try.prog) loopL c62_0 ⟨#[x0, x1, x2, x3, x4, x5, x6, x7, x8, x9, x10, x11, x12, x13, x14, x15, x16, x17], h⟩ k =
(lenV Try.prog 23 x1 h).bind fun t6_0 =>
obH (convV Try.prog 3 46 t6_0 h) fun t7_1 h2 =>
obH (evC Try.prog 58 #[x0, t7_1] h2) fun t8_3 h4 =>
(nilCheckV x0).bind fun t11_5 =>
(fieldAddrV Try.prog 97 t11_5 0).bind fun t12_6 =>
(loadV Try.prog 23 t12_6 h4).bind fun t13_7 =>
obH (appendV Try.prog 23 (some 23) t13_7 x1 h4) fun t15_8 h9 =>
(nilCheckV x0).bind fun t16_10 =>
(fieldAddrV Try.prog 97 t16_10 0).bind fun t17_11 =>
(storeV Try.prog 23 t17_11 t15_8 h9).bind fun h12 =>
k .normal ⟨#[x0, x1, x2, x3, x0, x1, t6_0, t7_1, t8_3, x0, x0, t11_5, t12_6, t13_7, x1, t15_8, t16_10, t17_11], h12⟩ := by kernel_rfl
theorem call62 (x0 x1 : Value) (h : Heap) : evC Try.prog 62 #[x0, x1] h = codeK Try.prog (evC Try.prog) loopL c62_0 ⟨#[x0, x1, undef, undef, undef, undef, undef, undef, undef, undef, undef, undef, undef, undef, undef, undef, undef, undef], nm h⟩ (retK Try.f62 Try.prog h) :=
  (evC_call 62 Try.f62 c62_0 Try.func62 (by kernel_rfl) #[x0, x1] h).trans (by kernel_rfl)
theorem ret62 (x0 x1 x2 x3 x4 x5 x6 x7 x8 x9 x10 x11 x12 x13 x14 x15 x16 x17 : Value) (h0 h : Heap) : retK Try.f62 Try.prog h0 .ret ⟨#[x0, x1, x2, x3, x4, x5, x6, x7, x8, x9, x10, x11, x12, x13, x14, x15, x16, x17], h⟩ = fin h0 (some (.tuple #[])) h := by kernel_rfl
theorem retn62 (x0 x1 x2 x3 x4 x5 x6 x7 x8 x9 x10 x11 x12 x13 x14 x15 x16 x17 : Value) (h0 h : Heap) : retK Try.f62 Try.prog h0 .normal ⟨#[x0, x1, x2, x3, x4, x5, x6, x7, x8, x9, x10, x11, x12, x13, x14, x15, x16, x17], h⟩ = fin h0 (some (.tuple #[])) h := by kernel_rfl
end Go.Am
namespace Go.Am
open Go.Proofs
set_option maxRecDepth 100000
noncomputable def c48_0 : Code := bodyC Try.f48 []
theorem c48_0_eq {β : Type} (x0 x1 x2 x3 x4 x5 x6 x7 x8 x9 x10 x11 x12 x13 x14 x15 x16 x17 x18 x19 x20 x21 x22 x23 x24 x25 x26 x27 x28 x29 x30 x31 x32 x33 x34 x35 x36 x37 x38 x39 : Value) (h : Heap) (k : Ex → St → Option β) : codeK Try.prog (evC Try.prog) loopL c48_0 ⟨#[x0, x1, x2, x3, x4, x5, x6, x7, x8, x9, x10, x11, x12, x13, x14, x15, x16, x17, x18, x19, x20, x21, x22, x23, x24, x25, x26, x27, x28, x29, x30, x31, x32, x33, x34, x35, x36, x37, x38, x39], h⟩ k =
(nilCheckV x0).bind fun t9_0 =>
(fieldAddrV Try.prog 83 t9_0 0).bind fun t10_1 =>
(loadV Try.prog 23 t10_1 h).bind fun t11_2 =>
obH (evC Try.prog 98 #[t11_2] h) fun t12_3 h4 =>
(extractV t12_3 0).bind fun t13_5 =>
(extractV t12_3 1).bind fun t14_6 =>
(nilCheckV x0).bind fun t16_7 =>
(fieldAddrV Try.prog 83 t16_7 1).bind fun t17_8 =>
(loadV Try.prog 4 t17_8 h4).bind fun t18_9 =>
(gd (wt t18_9 false) (binV Try.prog .eql 3 (.tmp 20) (.const (Go.Value.int Go.IntKind.i64 0)) (gdV (wt t18_9 false) t14_6) (Go.Value.int Go.IntKind.i64 0))).bind fun t21_10 =>
(pickV t18_9 (Go.Value.bool Bool.true) t21_10).bind fun t22_11 =>
(gd (wt t22_11 false) (binV Try.prog .gtr 46 (.tmp 24) (.tmp 25) (gdV (wt t22_11 false) t13_5) (gdV (wt t22_11 false) x1))).bind fun t26_12 =>
(pickV t22_11 (Go.Value.bool Bool.true) t26_12).bind fun t27_13 =>
cnd t27_13 (
obH (evC Try.prog 99 #[x0] h4) fun t29_14 h15 =>
k .ret ⟨#[x0, x1, x2, x3, (Go.Value.int Go.IntKind.u64 0), t13_5, t14_6, t12_3, x0, t9_0, t10_1, t11_2, t12_3, t13_5, t14_6, x0, t16_7, t17_8, t18_9, t18_9, (gdV (wt t18_9 false) t14_6), t21_10, t22_11, t22_11, (gdV (wt t22_11 false) t13_5), (gdV (wt t22_11 false) x1), t26_12, t27_13, x0, t29_14, x30, x31, x32, x33, x34, x35, x36, x37, x38, x39], h15⟩) (
(nilCheckV x0).bind fun t32_16 =>
(fieldAddrV Try.prog 83 t32_16 0).bind fun t33_17 =>
(loadV Try.prog 23 t33_17 h4).bind fun t34_18 =>
(sliceV Try.prog 23 t34_18 (some t14_6) none none h4).bind fun t36_19 =>
(nilCheckV x0).bind fun t37_20 =>
(fieldAddrV Try.prog 83 t37_20 0).bind fun t38_21 =>
(storeV Try.prog 23 t38_21 t36_19 h4).bind fun h22 =>
k .ret ⟨#[x0, x1, x2, x3, t13_5, t13_5, t14_6, t12_3, x0, t9_0, t10_1, t11_2, t12_3, t13_5, t14_6, x0, t16_7, t17_8, t18_9, t18_9, (gdV (wt t18_9 false) t14_6), t21_10, t22_11, t22_11, (gdV (wt t22_11 false) t13_5), (gdV (wt t22_11 false) x1), t26_12, t27_13, x28, x29, x0, x0, t32_16, t33_17, t34_18, t14_6, t36_19, t37_20, t38_21, t13_5], h22⟩) := by kernel_rfl
theorem call48 (x0 x1 : Value) (h : Heap) : evC Try.prog 48 #[x0, x1] h = codeK Try.prog (evC Try.prog) loopL c48_0 ⟨#[x0, x1, undef, undef, undef, undef, undef, undef, undef, undef, undef, undef, undef, undef, undef, undef, undef, undef, undef, undef, undef, undef, undef, undef, undef, undef, undef, undef, undef, undef, undef, undef, undef, undef, undef, undef, undef, undef, undef, undef], nm h⟩ (retK Try.f48 Try.prog h) :=
  (evC_call 48 Try.f48 c48_0 Try.func48 (by kernel_rfl) #[x0, x1] h).trans (by kernel_rfl)
theorem ret48 (x0 x1 x2 x3 x4 x5 x6 x7 x8 x9 x10 x11 x12 x13 x14 x15 x16 x17 x18 x19 x20 x21 x22 x23 x24 x25 x26 x27 x28 x29 x30 x31 x32 x33 x34 x35 x36 x37 x38 x39 : Value) (h0 h : Heap) : retK Try.f48 Try.prog h0 .ret ⟨#[x0, x1, x2, x3, x4, x5, x6, x7, x8, x9, x10, x11, x12, x13, x14, x15, x16, x17, x18, x19, x20, x21, x22, x23, x24, x25, x26, x27, x28, x29, x30, x31, x32, x33, x34, x35, x36, x37, x38, x39], h⟩ = fin h0 (some x4) h := by kernel_rfl
theorem retn48 (x0 x1 x2 x3 x4 x5 x6 x7 x8 x9 x10 x11 x12 x13 x14 x15 x16 x17 x18 x19 x20 x21 x22 x23 x24 x25 x26 x27 x28 x29 x30 x31 x32 x33 x34 x35 x36 x37 x38 x39 : Value) (h0 h : Heap) : retK Try.f48 Try.prog h0 .normal ⟨#[x0, x1, x2, x3, x4, x5, x6, x7, x8, x9, x10, x11, x12, x13, x14, x15, x16, x17, x18, x19, x20, x21, x22, x23, x24, x25, x26, x27, x28, x29, x30, x31, x32, x33, x34, x35, x36, x37, x38, x39], h⟩ = fin h0 (some x4) h := by kernel_rfl
end Go.Am
namespace Go.Am
open Go.Proofs
set_option maxRecDepth 100000
noncomputable def c55_0 : Code := bodyC Try.f55 []
theorem c55_0_eq {β : Type} (x0 x1 x2 x3 x4 x5 x6 x7 x8 x9 x10 x11 x12 x13 x14 x15 x16 x17 x18 x19 x20 x21 x22 x23 x24 x25 x26 x27 x28 x29 x30 x31 x32 x33 x34 x35 x36 x37 x38 x39 x40 x41 x42 x43 x44 x45 x46 x47 x48 x49 x50 x51 x52 x53 x54 x55 x56 x57 x58 x59 x60 x61 x62 x63 x64 x65 x66 x67 x68 x69 x70 x71 x72 x73 x74 x75 x76 x77 x78 x79 x80 x81 x82 x83 x84 x85 x86 x87 x88 x89 x90 x91 x92 x93 x94 : Value) (h : Heap) (k : Ex → St → Option β) : codeK Try.prog (evC Try.prog) loopL c55_0 ⟨#[x0, x1, x2, x3, x4, x5, x6, x7, x8, x9, x10, x11, x12, x13, x14, x15, x16, x17, x18, x19, x20, x21, x22, x23, x24, x25, x26, x27, x28, x29, x30, x31, x32, x33, x34, x35, x36, x37, x38, x39, x40, x41, x42, x43, x44, x45, x46, x47, x48, x49, x50, x51, x52, x53, x54, x55, x56, x57, x58, x59, x60, x61, x62, x63, x64, x65, x66, x67, x68, x69, x70, x71, x72, x73, x74, x75, x76, x77, x78, x79, x80, x81, x82, x83, x84, x85, x86, x87, x88, x89, x90, x91, x92, x93, x94], h⟩ k =
(nilCheckV x0).bind fun t10_0 =>
(fieldAddrV Try.prog 83 t10_0 0).bind fun t11_1 =>
(loadV Try.prog 23 t11_1 h).bind fun t12_2 =>
obH (evC Try.prog 98 #[t12_2] h) fun t13_3 h4 =>
(extractV t13_3 0).bind fun t14_5 =>
(extractV t13_3 1).bind fun t15_6 =>
(nilCheckV x0).bind fun t17_7 =>
(fieldAddrV Try.prog 83 t17_7 1).bind fun t18_8 =>
(loadV Try.prog 4 t18_8 h4).bind fun t19_9 =>
(gd (wt t19_9 false) (binV Try.prog .eql 3 (.tmp 21) (.const (Go.Value.int Go.IntKind.i64 0)) (gdV (wt t19_9 false) t15_6) (Go.Value.int Go.IntKind.i64 0))).bind fun t22_10 =>
(pickV t19_9 (Go.Value.bool Bool.true) t22_10).bind fun t23_11 =>
(gd (wt t23_11 false) (binV Try.prog .lss 3 (.tmp 25) (.const (Go.Value.int Go.IntKind.i64 0)) (gdV (wt t23_11 false) x1) (Go.Value.int Go.IntKind.i64 0))).bind fun t26_12 =>
(pickV t23_11 (Go.Value.bool Bool.true) t26_12).bind fun t27_13 =>
obH (gdH (wt t27_13 false) h4 (convV Try.prog 3 46 (gdV (wt t27_13 false) x1) h4)) fun t31_14 h15 =>
(gd (wt t27_13 false) (binV Try.prog .gtr 46 (.tmp 29) (.tmp 31) (gdV (wt t27_13 false) t14_5) t31_14)).bind fun t32_16 =>
(pickV t27_13 (Go.Value.bool Bool.true) t32_16).bind fun t33_17 =>
(gd (wt t33_17 false) (nilCheckV (gdV (wt t33_17 false) x0))).bind fun t37_18 =>
(gd (wt t33_17 false) (fieldAddrV Try.prog 83 t37_18 0)).bind fun t38_19 =>
(gd (wt t33_17 false) (loadV Try.prog 23 t38_19 h15)).bind fun t39_20 =>
(gd (wt t33_17 false) (lenV Try.prog 23 t39_20 h15)).bind fun t40_21 =>
(gd (wt t33_17 false) (binV Try.prog .sub 3 (.tmp 40) (.tmp 41) t40_21 (gdV (wt t33_17 false) t15_6))).bind fun t42_22 =>
obH (gdH (wt t33_17 false) h15 (convV Try.prog 3 46 t42_22 h15)) fun t43_23 h24 =>
(gd (wt t33_17 false) (binV Try.prog .gtr 46 (.tmp 35) (.tmp 43) (gdV (wt t33_17 false) t14_5) t43_23)).bind fun t44_25 =>
(pickV t33_17 (Go.Value.bool Bool.true) t44_25).bind fun t45_26 =>
cnd t45_26 (
(nilCheckV x0).bind fun t47_27 =>
(fieldAddrV Try.prog 83 t47_27 1).bind fun t48_28 =>
(loadV Try.prog 4 t48_28 h24).bind fun t49_29 =>
(unV Try.prog .not t49_29).bind fun t50_30 =>
(gd (wt t50_30 true) (binV Try.prog .gtr 3 (.tmp 52) (.const (Go.Value.int Go.IntKind.i64 0)) (gdV (wt t50_30 true) t15_6) (Go.Value.int Go.IntKind.i64 0))).bind fun t53_31 =>
(pickV t50_30 t53_31 (Go.Value.bool Bool.false)).bind fun t54_32 =>
(gd (wt t54_32 true) (binV Try.prog .eql 46 (.tmp 56) (.const (Go.Value.int Go.IntKind.u64 0)) (gdV (wt t54_32 true) t14_5) (Go.Value.int Go.IntKind.u64 0))).bind fun t57_33 =>
(pickV t54_32 t57_33 (Go.Value.bool Bool.false)).bind fun t58_34 =>
cnd t58_34 (
(nilCheckV x0).bind fun t61_35 =>
(fieldAddrV Try.prog 83 t61_35 0).bind fun t62_36 =>
(loadV Try.prog 23 t62_36 h24).bind fun t63_37 =>
(sliceV Try.prog 23 t63_37 (some t15_6) none none h24).bind fun t65_38 =>
(nilCheckV x0).bind fun t66_39 =>
(fieldAddrV Try.prog 83 t66_39 0).bind fun t67_40 =>
(storeV Try.prog 23 t67_40 t65_38 h24).bind fun h41 =>
k .ret ⟨#[x0, x1, x2, x3, (Go.Value.slice Option.none 0 0), t14_5, t15_6, x7, t13_3, x0, t10_0, t11_1, t12_2, t13_3, t14_5, t15_6, x0, t17_7, t18_8, t19_9, t19_9, (gdV (wt t19_9 false) t15_6), t22_10, t23_11, t23_11, (gdV (wt t23_11 false) x1), t26_12, t27_13, t27_13, (gdV (wt t27_13 false) t14_5), (gdV (wt t27_13 false) x1), t31_14, t32_16, t33_17, t33_17, (gdV (wt t33_17 false) t14_5), (gdV (wt t33_17 false) x0), t37_18, t38_19, t39_20, t40_21, (gdV (wt t33_17 false) t15_6), t42_22, t43_23, t44_25, t45_26, x0, t47_27, t48_28, t49_29, t50_30, t50_30, (gdV (wt t50_30 true) t15_6), t53_31, t54_32, t54_32, (gdV (wt t54_32 true) t14_5), t57_33, t58_34, x0, x0, t61_35, t62_36, t63_37, t15_6, t65_38, t66_39, t67_40, x68, x69, x70, x71, x72, x73, x74, x75, x76, x77, x78, x79, x80, x81, x82, x83, x84, x85, x86, x87, x88, x89, x90, x91, x92, x93, x94], h41⟩) (
obH (evC Try.prog 99 #[x0] h24) fun t69_42 h43 =>
k .ret ⟨#[x0, x1, x2, x3, (Go.Value.slice Option.none 0 0), t14_5, t15_6, x7, t13_3, x0, t10_0, t11_1, t12_2, t13_3, t14_5, t15_6, x0, t17_7, t18_8, t19_9, t19_9, (gdV (wt t19_9 false) t15_6), t22_10, t23_11, t23_11, (gdV (wt t23_11 false) x1), t26_12, t27_13, t27_13, (gdV (wt t27_13 false) t14_5), (gdV (wt t27_13 false) x1), t31_14, t32_16, t33_17, t33_17, (gdV (wt t33_17 false) t14_5), (gdV (wt t33_17 false) x0), t37_18, t38_19, t39_20, t40_21, (gdV (wt t33_17 false) t15_6), t42_22, t43_23, t44_25, t45_26, x0, t47_27, t48_28, t49_29, t50_30, t50_30, (gdV (wt t50_30 true) t15_6), t53_31, t54_32, t54_32, (gdV (wt t54_32 true) t14_5), t57_33, t58_34, x59, x60, x61, x62, x63, x64, x65, x66, x67, x0, t69_42, x70, x71, x72, x73, x74, x75, x76, x77, x78, x79, x80, x81, x82, x83, x84, x85, x86, x87, x88, x89, x90, x91, x92, x93, x94], h43⟩)) (
obH (buildSliceV Try.prog 23 0 #[] h24) fun t70_44 h45 =>
(nilCheckV x0).bind fun t72_46 =>
(fieldAddrV Try.prog 83 t72_46 0).bind fun t73_47 =>
(loadV Try.prog 23 t73_47 h45).bind fun t74_48 =>
obH (convV Try.prog 46 3 t14_5 h45) fun t78_49 h50 =>
(binV Try.prog .add 3 (.tmp 76) (.tmp 78) t15_6 t78_49).bind fun t79_51 =>
(sliceV Try.prog 23 t74_48 (some t15_6) (some t79_51) none h50).bind fun t80_52 =>
obH (appendV Try.prog 23 (some 23) t70_44 t80_52 h50) fun t81_53 h54 =>
(nilCheckV x0).bind fun t84_55 =>
(fieldAddrV Try.prog 83 t84_55 0).bind fun t85_56 =>
(loadV Try.prog 23 t85_56 h54).bind fun t86_57 =>
obH (convV Try.prog 46 3 t14_5 h54) fun t89_58 h59 =>
(binV Try.prog .add 3 (.tmp 87) (.tmp 89) t15_6 t89_58).bind fun t90_60 =>
(sliceV Try.prog 23 t86_57 (some t90_60) none none h59).bind fun t91_61 =>
(nilCheckV x0).bind fun t92_62 =>
(fieldAddrV Try.prog 83 t92_62 0).bind fun t93_63 =>
(storeV Try.prog 23 t93_63 t91_61 h59).bind fun h64 =>
k .ret ⟨#[x0, x1, x2, x3, t81_53, t14_5, t15_6, t81_53, t13_3, x0, t10_0, t11_1, t12_2, t13_3, t14_5, t15_6, x0, t17_7, t18_8, t19_9, t19_9, (gdV (wt t19_9 false) t15_6), t22_10, t23_11, t23_11, (gdV (wt t23_11 false) x1), t26_12, t27_13, t27_13, (gdV (wt t27_13 false) t14_5), (gdV (wt t27_13 false) x1), t31_14, t32_16, t33_17, t33_17, (gdV (wt t33_17 false) t14_5), (gdV (wt t33_17 false) x0), t37_18, t38_19, t39_20, t40_21, (gdV (wt t33_17 false) t15_6), t42_22, t43_23, t44_25, t45_26, x46, x47, x48, x49, x50, x51, x52, x53, x54, x55, x56, x57, x58, x59, x60, x61, x62, x63, x64, x65, x66, x67, x68, x69, t70_44, x0, t72_46, t73_47, t74_48, t15_6, t15_6, t14_5, t78_49, t79_51, t80_52, t81_53, x0, x0, t84_55, t85_56, t86_57, t15_6, t14_5, t89_58, t90_60, t91_61, t92_62, t93_63, t81_53], h64⟩) := by kernel_rfl
theorem call55 (x0 x1 : Value) (h : Heap) : evC Try.prog 55 #[x0, x1] h = codeK Try.prog (evC Try.prog) loopL c55_0 ⟨#[x0, x1, undef, undef, undef, undef, undef, undef, undef, undef, undef, undef, undef, undef, undef, undef, undef, undef, undef, undef, undef, undef, undef, undef, undef, undef, undef, undef, undef, undef, undef, undef, undef, undef, undef, undef, undef, undef, undef, undef, undef, undef, undef, undef, undef, undef, undef, undef, undef, undef, undef, undef, undef, undef, undef, undef, undef, undef, undef, undef, undef, undef, undef, undef, undef, undef, undef, undef, undef, undef, undef, undef, undef, undef, undef, undef, undef, undef, undef, undef, undef, undef, undef, undef, undef, undef, undef, undef, undef, undef, undef, undef, undef, undef, undef], nm h⟩ (retK Try.f55 Try.prog h) :=
  (evC_call 55 Try.f55 c55_0 Try.func55 (by kernel_rfl) #[x0, x1] h).trans (by kernel_rfl)
theorem ret55 (x0 x1 x2 x3 x4 x5 x6 x7 x8 x9 x10 x11 x12 x13 x14 x15 x16 x17 x18 x19 x20 x21 x22 x23 x24 x25 x26 x27 x28 x29 x30 x31 x32 x33 x34 x35 x36 x37 x38 x39 x40 x41 x42 x43 x44 x45 x46 x47 x48 x49 x50 x51 x52 x53 x54 x55 x56 x57 x58 x59 x60 x61 x62 x63 x64 x65 x66 x67 x68 x69 x70 x71 x72 x73 x74 x75 x76 x77 x78 x79 x80 x81 x82 x83 x84 x85 x86 x87 x88 x89 x90 x91 x92 x93 x94 : Value) (h0 h : Heap) : retK Try.f55 Try.prog h0 .ret ⟨#[x0, x1, x2, x3, x4, x5, x6, x7, x8, x9, x10, x11, x12, x13, x14, x15, x16, x17, x18, x19, x20, x21, x22, x23, x24, x25, x26, x27, x28, x29, x30, x31, x32, x33, x34, x35, x36, x37, x38, x39, x40, x41, x42, x43, x44, x45, x46, x47, x48, x49, x50, x51, x52, x53, x54, x55, x56, x57, x58, x59, x60, x61, x62, x63, x64, x65, x66, x67, x68, x69, x70, x71, x72, x73, x74, x75, x76, x77, x78, x79, x80, x81, x82, x83, x84, x85, x86, x87, x88, x89, x90, x91, x92, x93, x94], h⟩ = fin h0 (some x4) h := by kernel_rfl
theorem retn55 (x0 x1 x2 x3 x4 x5 x6 x7 x8 x9 x10 x11 x12 x13 x14 x15 x16 x17 x18 x19 x20 x21 x22 x23 x24 x25 x26 x27 x28 x29 x30 x31 x32 x33 x34 x35 x36 x37 x38 x39 x40 x41 x42 x43 x44 x45 x46 x47 x48 x49 x50 x51 x52 x53 x54 x55 x56 x57 x58 x59 x60 x61 x62 x63 x64 x65 x66 x67 x68 x69 x70 x71 x72 x73 x74 x75 x76 x77 x78 x79 x80 x81 x82 x83 x84 x85 x86 x87 x88 x89 x90 x91 x92 x93 x94 : Value) (h0 h : Heap) : retK Try.f55 Try.prog h0 .normal ⟨#[x0, x1, x2, x3, x4, x5, x6, x7, x8, x9, x10, x11, x12, x13, x14, x15, x16, x17, x18, x19, x20, x21, x22, x23, x24, x25, x26, x27, x28, x29, x30, x31, x32, x33, x34, x35, x36, x37, x38, x39, x40, x41, x42, x43, x44, x45, x46, x47, x48, x49, x50, x51, x52, x53, x54, x55, x56, x57, x58, x59, x60, x61, x62, x63, x64, x65, x66, x67, x68, x69, x70, x71, x72, x73, x74, x75, x76, x77, x78, x79, x80, x81, x82, x83, x84, x85, x86, x87, x88, x89, x90, x91, x92, x93, x94], h⟩ = fin h0 (some x4) h := by kernel_rfl
end Go.Am
namespace Go.Am
open Go.Proofs
set_option maxRecDepth 100000
noncomputable def c56_0 : Code := bodyC Try.f56 []
theorem c56_0_eq {β : Type} (x0 x1 x2 x3 x4 x5 x6 x7 x8 x9 x10 x11 x12 x13 x14 x15 : Value) (h : Heap) (k : Ex → St → Option β) : codeK Try.prog (evC Try.prog) loopL c56_0 ⟨#[x0, x1, x2, x3, x4, x5, x6, x7, x8, x9, x10, x11, x12, x13, x14, x15], h⟩ k =
(nilCheckV x0).bind fun t4_0 =>
(fieldAddrV Try.prog 83 t4_0 1).bind fun t5_1 =>
(loadV Try.prog 4 t5_1 h).bind fun t6_2 =>
(unV Try.prog .not t6_2).bind fun t7_3 =>
(gd (wt t7_3 true) (nilCheckV (gdV (wt t7_3 true) x0))).bind fun t10_4 =>
(gd (wt t7_3 true) (fieldAddrV Try.prog 83 t10_4 0)).bind fun t11_5 =>
(gd (wt t7_3 true) (loadV Try.prog 23 t11_5 h)).bind fun t12_6 =>
(gd (wt t7_3 true) (lenV Try.prog 23 t12_6 h)).bind fun t13_7 =>
(gd (wt t7_3 true) (binV Try.prog .eql 3 (.tmp 13) (.const (Go.Value.int Go.IntKind.i64 0)) t13_7 (Go.Value.int Go.IntKind.i64 0))).bind fun t14_8 =>
(pickV t7_3 t14_8 (Go.Value.bool Bool.false)).bind fun t15_9 =>
k .ret ⟨#[x0, x1, t15_9, x0, t4_0, t5_1, t6_2, t7_3, t7_3, (gdV (wt t7_3 true) x0), t10_4, t11_5, t12_6, t13_7, t14_8, t15_9], h⟩ := by kernel_rfl
theorem call56 (x0 : Value) (h : Heap) : evC Try.prog 56 #[x0] h = codeK Try.prog (evC Try.prog) loopL c56_0 ⟨#[x0, undef, undef, undef, undef, undef, undef, undef, undef, undef, undef, undef, undef, undef, undef, undef], nm h⟩ (retK Try.f56 Try.prog h) :=
  (evC_call 56 Try.f56 c56_0 Try.func56 (by kernel_rfl) #[x0] h).trans (by kernel_rfl)
theorem ret56 (x0 x1 x2 x3 x4 x5 x6 x7 x8 x9 x10 x11 x12 x13 x14 x15 : Value) (h0 h : Heap) : retK Try.f56 Try.prog h0 .ret ⟨#[x0, x1, x2, x3, x4, x5, x6, x7, x8, x9, x10, x11, x12, x13, x14, x15], h⟩ = fin h0 (some x2) h := by kernel_rfl
theorem retn56 (x0 x1 x2 x3 x4 x5 x6 x7 x8 x9 x10 x11 x12 x13 x14 x15 : Value) (h0 h : Heap) : retK Try.f56 Try.prog h0 .normal ⟨#[x0, x1, x2, x3, x4, x5, x6, x7, x8, x9, x10, x11, x12, x13, x14, x15], h⟩ = fin h0 (some x2) h := by kernel_rfl
end Go.Am
namespace Go.Am
open Go.Proofs
set_option maxRecDepth 100000
noncomputable def c99_0 : Code := bodyC Try.f99 []
theorem c99_0_eq {β : Type} (x0 x1 x2 x3 x4 x5 x6 x7 : Value) (h : Heap) (k : Ex → St → Option β) : codeK Try.prog (evC Try.prog) loopL c99_0 ⟨#[x0, x1, x2, x3, x4, x5, x6, x7], h⟩ k =
(nilCheckV x0).bind fun t4_0 =>
(fieldAddrV Try.prog 83 t4_0 1).bind fun t5_1 =>
(storeV Try.prog 4 t5_1 (Go.Value.bool Bool.true) h).bind fun h2 =>
(nilCheckV x0).bind fun t6_3 =>
(fieldAddrV Try.prog 83 t6_3 0).bind fun t7_4 =>
(storeV Try.prog 23 t7_4 (Go.Value.slice Option.none 0 0) h2).bind fun h5 =>
k .normal ⟨#[x0, x1, x0, x0, t4_0, t5_1, t6_3, t7_4], h5⟩ := by kernel_rfl
theorem call99 (x0 : Value) (h : Heap) : evC Try.prog 99 #[x0] h = codeK Try.prog (evC Try.prog) loopL c99_0 ⟨#[x0, undef, undef, undef, undef, undef, undef, undef], nm h⟩ (retK Try.f99 Try.prog h) :=
  (evC_call 99 Try.f99 c99_0 Try.func99 (by kernel_rfl) #[x0] h).trans (by kernel_rfl)
theorem ret99 (x0 x1 x2 x3 x4 x5 x6 x7 : Value) (h0 h : Heap) : retK Try.f99 Try.prog h0 .ret ⟨#[x0, x1, x2, x3, x4, x5, x6, x7], h⟩ = fin h0 (some (.tuple #[])) h := by kernel_rfl
theorem retn99 (x0 x1 x2 x3 x4 x5 x6 x7 : Value) (h0 h : Heap) : retK Try.f99 Try.prog h0 .normal ⟨#[x0, x1, x2, x3, x4, x5, x6, x7], h⟩ = fin h0 (some (.tuple #[])) h := by kernel_rfl
end Go.Am
namespace Go.Am
open Go.Proofs
set_option maxRecDepth 100000
noncomputable def c49_0 : Code := bodyC Try.f49 []
theorem c49_0_eq {β : Type} (x0 x1 x2 x3 x4 x5 x6 x7 x8 x9 x10 x11 x12 x13 x14 x15 x16 x17 x18 x19 x20 x21 x22 x23 x24 x25 x26 x27 x28 x29 x30 x31 x32 x33 x34 : Value) (h : Heap) (k : Ex → St → Option β) : codeK Try.prog (evC Try.prog) loopL c49_0 ⟨#[x0, x1, x2, x3, x4, x5, x6, x7, x8, x9, x10, x11, x12, x13, x14, x15, x16, x17, x18, x19, x20, x21, x22, x23, x24, x25, x26, x27, x28, x29, x30, x31, x32, x33, x34], h⟩ k =
(nilCheckV x0).bind fun t9_0 =>
(fieldAddrV Try.prog 150 t9_0 0).bind fun t10_1 =>
(loadV Try.prog 23 t10_1 h).bind fun t11_2 =>
obH (evC Try.prog 96 #[t11_2] h) fun t12_3 h4 =>
(extractV t12_3 0).bind fun t13_5 =>
(extractV t12_3 1).bind fun t14_6 =>
(binV Try.prog .eql 3 (.tmp 16) (.const (Go.Value.int Go.IntKind.i64 0)) t14_6 (Go.Value.int Go.IntKind.i64 0)).bind fun t17_7 =>
obH (gdH (wt t17_7 false) h4 (evC Try.prog 100 #[(gdV (wt t17_7 false) t13_5), (gdV (wt t17_7 false) x1)] h4)) fun t21_8 h9 =>
(gd (wt t17_7 false) (unV Try.prog .not t21_8)).bind fun t22_10 =>
(pickV t17_7 (Go.Value.bool Bool.true) t22_10).bind fun t23_11 =>
obH (evC Try.prog 97 #[x0, t23_11] h9) fun t24_12 h13 =>
cnd t24_12 (
k .ret ⟨#[x0, x1, x2, x3, (Go.Value.int Go.IntKind.u64 0), t13_5, t14_6, t12_3, x0, t9_0, t10_1, t11_2, t12_3, t13_5, t14_6, x0, t14_6, t17_7, t17_7, (gdV (wt t17_7 false) t13_5), (gdV (wt t17_7 false) x1), t21_8, t22_10, t23_11, t24_12, x25, x26, x27, x28, x29, x30, x31, x32, x33, x34], h13⟩) (
(nilCheckV x0).bind fun t27_14 =>
(fieldAddrV Try.prog 150 t27_14 0).bind fun t28_15 =>
(loadV Try.prog 23 t28_15 h13).bind fun t29_16 =>
(sliceV Try.prog 23 t29_16 (some t14_6) none none h13).bind fun t31_17 =>
(nilCheckV x0).bind fun t32_18 =>
(fieldAddrV Try.prog 150 t32_18 0).bind fun t33_19 =>
(storeV Try.prog 23 t33_19 t31_17 h13).bind fun h20 =>
k .ret ⟨#[x0, x1, x2, x3, t13_5, t13_5, t14_6, t12_3, x0, t9_0, t10_1, t11_2, t12_3, t13_5, t14_6, x0, t14_6, t17_7, t17_7, (gdV (wt t17_7 false) t13_5), (gdV (wt t17_7 false) x1), t21_8, t22_10, t23_11, t24_12, x0, x0, t27_14, t28_15, t29_16, t14_6, t31_17, t32_18, t33_19, t13_5], h20⟩) := by kernel_rfl
theorem call49 (x0 x1 : Value) (h : Heap) : evC Try.prog 49 #[x0, x1] h = codeK Try.prog (evC Try.prog) loopL c49_0 ⟨#[x0, x1, undef, undef, undef, undef, undef, undef, undef, undef, undef, undef, undef, undef, undef, undef, undef, undef, undef, undef, undef, undef, undef, undef, undef, undef, undef, undef, undef, undef, undef, undef, undef, undef, undef], nm h⟩ (retK Try.f49 Try.prog h) :=
  (evC_call 49 Try.f49 c49_0 Try.func49 (by kernel_rfl) #[x0, x1] h).trans (by kernel_rfl)
theorem ret49 (x0 x1 x2 x3 x4 x5 x6 x7 x8 x9 x10 x11 x12 x13 x14 x15 x16 x17 x18 x19 x20 x21 x22 x23 x24 x25 x26 x27 x28 x29 x30 x31 x32 x33 x34 : Value) (h0 h : Heap) : retK Try.f49 Try.prog h0 .ret ⟨#[x0, x1, x2, x3, x4, x5, x6, x7, x8, x9, x10, x11, x12, x13, x14, x15, x16, x17, x18, x19, x20, x21, x22, x23, x24, x25, x26, x27, x28, x29, x30, x31, x32, x33, x34], h⟩ = fin h0 (some x4) h := by kernel_rfl
theorem retn49 (x0 x1 x2 x3 x4 x5 x6 x7 x8 x9 x10 x11 x12 x13 x14 x15 x16 x17 x18 x19 x20 x21 x22 x23 x24 x25 x26 x27 x28 x29 x30 x31 x32 x33 x34 : Value) (h0 h : Heap) : retK Try.f49 Try.prog h0 .normal ⟨#[x0, x1, x2, x3, x4, x5, x6, x7, x8, x9, x10, x11, x12, x13, x14, x15, x16, x17, x18, x19, x20, x21, x22, x23, x24, x25, x26, x27, x28, x29, x30, x31, x32, x33, x34], h⟩ = fin h0 (some x4) h := by kernel_rfl
end Go.Am
namespace Go.Am
open Go.Proofs
set_option maxRecDepth 100000
noncomputable def c52_0 : Code := bodyC Try.f52 []
noncomputable def c52_1 : Code := bodyC Try.f52 [true, true, true, false, true, false, false]
noncomputable def c52_2 : Code := bodyC Try.f52 [true, true, true, true]
theorem c52_0_eq {β : Type} (x0 x1 x2 x3 x4 x5 x6 x7 x8 x9 x10 x11 x12 x13 x14 x15 x16 x17 x18 x19 x20 x21 x22 x23 x24 x25 x26 x27 x28 x29 x30 x31 x32 : Value) (h : Heap) (k : Ex → St → Option β) : codeK Try.prog (evC Try.prog) loopL c52_0 ⟨#[x0, x1, x2, x3, x4, x5, x6, x7, x8, x9, x10, x11, x12, x13, x14, x15, x16, x17, x18, x19, x20, x21, x22, x23, x24, x25, x26, x27, x28, x29, x30, x31, x32], h⟩ k =
obH (evC Try.prog 102 #[x0, (Go.Value.int Go.IntKind.u64 8)] h) fun t10_0 h1 =>
(lenV Try.prog 23 t10_0 h1).bind fun t12_2 =>
loopK Try.prog (evC Try.prog) c52_1 ⟨#[x0, x1, (Go.Value.float Go.FloatKind.f64 0), (Go.Value.int Go.IntKind.u64 0), t10_0, x5, x6, x7, x8, x0, t10_0, t10_0, t12_2, (Go.Value.int Go.IntKind.i64 0), x14, x15, x16, x17, x18, x19, x20, x21, x22, x23, x24, x25, x26, x27, x28, x29, x30, x31, x32], h1⟩ (blockK 0 (seqK Try.prog (evC Try.prog) c52_2 k)) := by kernel_rfl
theorem c52_1_eq {β : Type} (x0 x1 x2 x3 x4 x5 x6 x7 x8 x9 x10 x11 x12 x13 x14 x15 x16 x17 x18 x19 x20 x21 x22 x23 x24 x25 x26 x27 x28 x29 x30 x31 x32 : Value) (h : Heap) (k : Ex → St → Option β) : codeK Try.prog (evC Try.prog) loopL c52_1 ⟨#[x0, x1, x2, x3, x4, x5, x6, x7, x8, x9, x10, x11, x12, x13, x14, x15, x16, x17, x18, x19, x20, x21, x22, x23, x24, x25, x26, x27, x28, x29, x30, x31, x32], h⟩ k =
(binV Try.prog .lss 3 (.tmp 13) (.tmp 12) x13 x12).bind fun t14_3 =>
cnd t14_3 (
(indexAddrV Try.prog 23 x11 x13).bind fun t15_4 =>
(loadV Try.prog 5 t15_4 h).bind fun t16_5 =>
(binV Try.prog .shl 46 (.tmp 17) (.const (Go.Value.int Go.IntKind.u64 8)) x3 (Go.Value.int Go.IntKind.u64 8)).bind fun t18_6 =>
obH (convV Try.prog 5 46 t16_5 h) fun t20_7 h8 =>
(binV Try.prog .or 46 (.tmp 18) (.tmp 20) t18_6 t20_7).bind fun t21_9 =>
(binV Try.prog .add 3 (.tmp 13) (.const (Go.Value.int Go.IntKind.i64 1)) x13 (Go.Value.int Go.IntKind.i64 1)).bind fun t22_10 =>
k .normal ⟨#[x0, x1, x2, t21_9, x4, x5, t16_5, x7, x8, x9, x10, x11, x12, t22_10, t14_3, t15_4, t16_5, x3, t18_6, t16_5, t20_7, t21_9, t22_10, x23, x24, x25, x26, x27, x28, x29, x30, x31, x32], h8⟩) (
k (.exit 0) ⟨#[x0, x1, x2, x3, x4, x5, x6, x7, x8, x9, x10, x11, x12, x13, t14_3, x15, x16, x17, x18, x19, x20, x21, x22, x23, x24, x25, x26, x27, x28, x29, x30, x31, x32], h⟩) := by kernel_rfl
theorem c52_2_eq {β : Type} (x0 x1 x2 x3 x4 x5 x6 x7 x8 x9 x10 x11 x12 x13 x14 x15 x16 x17 x18 x19 x20 x21 x22 x23 x24 x25 x26 x27 x28 x29 x30 x31 x32 : Value) (h : Heap) (k : Ex → St → Option β) : codeK Try.prog (evC Try.prog) loopL c52_2 ⟨#[x0, x1, x2, x3, x4, x5, x6, x7, x8, x9, x10, x11, x12, x13, x14, x15, x16, x17, x18, x19, x20, x21, x22, x23, x24, x25, x26, x27, x28, x29, x30, x31, x32], h⟩ k =
obH (evC Try.prog 103 #[x3] h) fun t25_11 h12 =>
(extractV t25_11 0).bind fun t26_13 =>
(extractV t25_11 1).bind fun t27_14 =>
(unV Try.prog .not t27_14).bind fun t30_15 =>
obH (evC Try.prog 97 #[x0, t30_15] h12) fun t31_16 h17 =>
cnd t31_16 (
k .ret ⟨#[x0, x1, (Go.Value.float Go.FloatKind.f64 0), x3, x4, x5, x6, t26_13, t27_14, x9, x10, x11, x12, x13, x14, x15, x16, x17, x18, x19, x20, x21, x22, t25_11, x3, t25_11, t26_13, t27_14, x0, t27_14, t30_15, t31_16, x32], h17⟩) (
k .ret ⟨#[x0, x1, t26_13, x3, x4, x5, x6, t26_13, t27_14, x9, x10, x11, x12, x13, x14, x15, x16, x17, x18, x19, x20, x21, x22, t25_11, x3, t25_11, t26_13, t27_14, x0, t27_14, t30_15, t31_16, t26_13], h17⟩) := by kernel_rfl
theorem call52 (x0 : Value) (h : Heap) : evC Try.prog 52 #[x0] h = codeK Try.prog (evC Try.prog) loopL c52_0 ⟨#[x0, undef, undef, undef, undef, undef, undef, undef, undef, undef, undef, undef, undef, undef, undef, undef, undef, undef, undef, undef, undef, undef, undef, undef, undef, undef, undef, undef, undef, undef, undef, undef, undef], nm h⟩ (retK Try.f52 Try.prog h) :=
  (evC_call 52 Try.f52 c52_0 Try.func52 (by kernel_rfl) #[x0] h).trans (by kernel_rfl)
theorem ret52 (x0 x1 x2 x3 x4 x5 x6 x7 x8 x9 x10 x11 x12 x13 x14 x15 x16 x17 x18 x19 x20 x21 x22 x23 x24 x25 x26 x27 x28 x29 x30 x31 x32 : Value) (h0 h : Heap) : retK Try.f52 Try.prog h0 .ret ⟨#[x0, x1, x2, x3, x4, x5, x6, x7, x8, x9, x10, x11, x12, x13, x14, x15, x16, x17, x18, x19, x20, x21, x22, x23, x24, x25, x26, x27, x28, x29, x30, x31, x32], h⟩ = fin h0 (some x2) h := by kernel_rfl
theorem retn52 (x0 x1 x2 x3 x4 x5 x6 x7 x8 x9 x10 x11 x12 x13 x14 x15 x16 x17 x18 x19 x20 x21 x22 x23 x24 x25 x26 x27 x28 x29 x30 x31 x32 : Value) (h0 h : Heap) : retK Try.f52 Try.prog h0 .normal ⟨#[x0, x1, x2, x3, x4, x5, x6, x7, x8, x9, x10, x11, x12, x13, x14, x15, x16, x17, x18, x19, x20, x21, x22, x23, x24, x25, x26, x27, x28, x29, x30, x31, x32], h⟩ = fin h0 (some x2) h := by kernel_rfl
end Go.Am
namespace Go.Am
open Go.Proofs
set_option maxRecDepth 100000
noncomputable def c57_0 : Code := bodyC Try.f57 []
noncomputable def c57_1 : Code := bodyC Try.f57 [true, true, false, false]
theorem c57_0_eq {β : Type} (x0 x1 x2 x3 x4 x5 x6 x7 x8 x9 x10 x11 x12 x13 x14 x15 x16 x17 x18 x19 x20 x21 x22 x23 x24 x25 : Value) (h : Heap) (k : Ex → St → Option β) : codeK Try.prog (evC Try.prog) loopL c57_0 ⟨#[x0, x1, x2, x3, x4, x5, x6, x7, x8, x9, x10, x11, x12, x13, x14, x15, x16, x17, x18, x19, x20, x21, x22, x23, x24, x25], h⟩ k =
obH (evC Try.prog 105 #[x1] h) fun t7_0 h1 =>
loopK Try.prog (evC Try.prog) c57_1 ⟨#[x0, x1, x2, x3, t7_0, (Go.Value.int Go.IntKind.i64 7), x1, t7_0, x8, x9, x10, x11, x12, x13, x14, x15, x16, x17, x18, x19, x20, x21, x22, x23, x24, x25], h1⟩ (blockK 0 k) := by kernel_rfl
theorem c57_1_eq {β : Type} (x0 x1 x2 x3 x4 x5 x6 x7 x8 x9 x10 x11 x12 x13 x14 x15 x16 x17 x18 x19 x20 x21 x22 x23 x24 x25 : Value) (h : Heap) (k : Ex → St → Option β) : codeK Try.prog (evC Try.prog) loopL c57_1 ⟨#[x0, x1, x2, x3, x4, x5, x6, x7, x8, x9, x10, x11, x12, x13, x14, x15, x16, x17, x18, x19, x20, x21, x22, x23, x24, x25], h⟩ k =
(binV Try.prog .geq 3 (.tmp 8) (.const (Go.Value.int Go.IntKind.i64 0)) x5 (Go.Value.int Go.IntKind.i64 0)).bind fun t9_2 =>
cnd t9_2 (
(nilCheckV x0).bind fun t14_3 =>
(fieldAddrV Try.prog 146 t14_3 0).bind fun t15_4 =>
(loadV Try.prog 23 t15_4 h).bind fun t16_5 =>
(binV Try.prog .mul 3 (.const (Go.Value.int Go.IntKind.i64 8)) (.tmp 18) (Go.Value.int Go.IntKind.i64 8) x5).bind fun t19_6 =>
(binV Try.prog .shr 46 (.tmp 17) (.tmp 19) x4 t19_6).bind fun t20_7 =>
obH (convV Try.prog 46 5 t20_7 h) fun t21_8 h9 =>
obH (buildSliceV Try.prog 23 1 #[(0, t21_8)] h9) fun t22_10 h11 =>
obH (appendV Try.prog 23 (some 23) t16_5 t22_10 h11) fun t23_12 h13 =>
(nilCheckV x0).bind fun t24_14 =>
(fieldAddrV Try.prog 146 t24_14 0).bind fun t25_15 =>
(storeV Try.prog 23 t25_15 t23_12 h13).bind fun h16 =>
(binV Try.prog .sub 3 (.tmp 10) (.const (Go.Value.int Go.IntKind.i64 1)) x5 (Go.Value.int Go.IntKind.i64 1)).bind fun t11_17 =>
k .normal ⟨#[x0, x1, x2, x3, x4, t11_17, x6, x7, x5, t9_2, x5, t11_17, x0, x0, t14_3, t15_4, t16_5, x4, x5, t19_6, t20_7, t21_8, t22_10, t23_12, t24_14, t25_15], h16⟩) (
k (.exit 0) ⟨#[x0, x1, x2, x3, x4, x5, x6, x7, x5, t9_2, x10, x11, x12, x13, x14, x15, x16, x17, x18, x19, x20, x21, x22, x23, x24, x25], h⟩) := by kernel_rfl
theorem call57 (x0 x1 : Value) (h : Heap) : evC Try.prog 57 #[x0, x1] h = codeK Try.prog (evC Try.prog) loopL c57_0 ⟨#[x0, x1, undef, undef, undef, undef, undef, undef, undef, undef, undef, undef, undef, undef, undef, undef, undef, undef, undef, undef, undef, undef, undef, undef, undef, undef], nm h⟩ (retK Try.f57 Try.prog h) :=
  (evC_call 57 Try.f57 c57_0 Try.func57 (by kernel_rfl) #[x0, x1] h).trans (by kernel_rfl)
theorem ret57 (x0 x1 x2 x3 x4 x5 x6 x7 x8 x9 x10 x11 x12 x13 x14 x15 x16 x17 x18 x19 x20 x21 x22 x23 x24 x25 : Value) (h0 h : Heap) : retK Try.f57 Try.prog h0 .ret ⟨#[x0, x1, x2, x3, x4, x5, x6, x7, x8, x9, x10, x11, x12, x13, x14, x15, x16, x17, x18, x19, x20, x21, x22, x23, x24, x25], h⟩ = fin h0 (some (.tuple #[])) h := by kernel_rfl
theorem retn57 (x0 x1 x2 x3 x4 x5 x6 x7 x8 x9 x10 x11 x12 x13 x14 x15 x16 x17 x18 x19 x20 x21 x22 x23 x24 x25 : Value) (h0 h : Heap) : retK Try.f57 Try.prog h0 .normal ⟨#[x0, x1, x2, x3, x4, x5, x6, x7, x8, x9, x10, x11, x12, x13, x14, x15, x16, x17, x18, x19, x20, x21, x22, x23, x24, x25], h⟩ = fin h0 (some (.tuple #[])) h := by kernel_rfl
end Go.Am
namespace Go.Am
open Go.Proofs
set_option maxRecDepth 100000
noncomputable def c59_0 : Code := bodyC Try.f59 []
theorem c59_0_eq {β : Type} (x0 x1 x2 x3 x4 x5 x6 : Value) (h : Heap) (k : Ex → St → Option β) : codeK Try.prog (evC Try.prog) loopL c59_0 ⟨#[x0, x1, x2, x3, x4, x5, x6], h⟩ k =
obH (evC Try.prog 43 #[x0, x1] h) fun t6_0 h1 =>
k .normal ⟨#[x0, x1, x2, x3, x0, x1, t6_0], h1⟩ := by kernel_rfl
theorem call59 (x0 x1 : Value) (h : Heap) : evC Try.prog 59 #[x0, x1] h = codeK Try.prog (evC Try.prog) loopL c59_0 ⟨#[x0, x1, undef, undef, undef, undef, undef], nm h⟩ (retK Try.f59 Try.prog h) :=
  (evC_call 59 Try.f59 c59_0 Try.func59 (by kernel_rfl) #[x0, x1] h).trans (by kernel_rfl)
theorem ret59 (x0 x1 x2 x3 x4 x5 x6 : Value) (h0 h : Heap) : retK Try.f59 Try.prog h0 .ret ⟨#[x0, x1, x2, x3, x4, x5, x6], h⟩ = fin h0 (some (.tuple #[])) h := by kernel_rfl
theorem retn59 (x0 x1 x2 x3 x4 x5 x6 : Value) (h0 h : Heap) : retK Try.f59 Try.prog h0 .normal ⟨#[x0, x1, x2, x3, x4, x5, x6], h⟩ = fin h0 (some (.tuple #[])) h := by kernel_rfl
end Go.Am
namespace Go.Am
open Go.Proofs
set_option maxRecDepth 100000
noncomputable def c50_0 : Code := bodyC Try.f50 []
theorem c50_0_eq {β : Type} (x0 x1 x2 x3 x4 x5 x6 x7 x8 x9 x10 x11 x12 x13 x14 x15 x16 x17 x18 x19 x20 x21 x22 x23 x24 x25 x26 x27 x28 x29 x30 x31 x32 x33 x34 x35 x36 x37 x38 x39 x40 : Value) (h : Heap) (k : Ex → St → Option β) : codeK Try.prog (evC Try.prog) loopL c50_0 ⟨#[x0, x1, x2, x3, x4, x5, x6, x7, x8, x9, x10, x11, x12, x13, x14, x15, x16, x17, x18, x19, x20, x21, x22, x23, x24, x25, x26, x27, x28, x29, x30, x31, x32, x33, x34, x35, x36, x37, x38, x39, x40], h⟩ k =
(nilCheckV x0).bind fun t9_0 =>
(fieldAddrV Try.prog 83 t9_0 0).bind fun t10_1 =>
(loadV Try.prog 23 t10_1 h).bind fun t11_2 =>
obH (evC Try.prog 98 #[t11_2] h) fun t12_3 h4 =>
(extractV t12_3 0).bind fun t13_5 =>
(extractV t12_3 1).bind fun t14_6 =>
(nilCheckV x0).bind fun t16_7 =>
(fieldAddrV Try.prog 83 t16_7 1).bind fun t17_8 =>
(loadV Try.prog 4 t17_8 h4).bind fun t18_9 =>
(gd (wt t18_9 false) (binV Try.prog .eql 3 (.tmp 20) (.const (Go.Value.int Go.IntKind.i64 0)) (gdV (wt t18_9 false) t14_6) (Go.Value.int Go.IntKind.i64 0))).bind fun t21_10 =>
(pickV t18_9 (Go.Value.bool Bool.true) t21_10).bind fun t22_11 =>
(gd (wt t22_11 false) (binV Try.prog .andNot 46 (.tmp 24) (.tmp 25) (gdV (wt t22_11 false) t13_5) (gdV (wt t22_11 false) x1))).bind fun t26_12 =>
(gd (wt t22_11 false) (binV Try.prog .neq 46 (.tmp 26) (.const (Go.Value.int Go.IntKind.u64 0)) t26_12 (Go.Value.int Go.IntKind.u64 0))).bind fun t27_13 =>
(pickV t22_11 (Go.Value.bool Bool.true) t27_13).bind fun t28_14 =>
cnd t28_14 (
obH (evC Try.prog 99 #[x0] h4) fun t30_15 h16 =>
k .ret ⟨#[x0, x1, x2, x3, (Go.Value.int Go.IntKind.u64 0), t13_5, t14_6, t12_3, x0, t9_0, t10_1, t11_2, t12_3, t13_5, t14_6, x0, t16_7, t17_8, t18_9, t18_9, (gdV (wt t18_9 false) t14_6), t21_10, t22_11, t22_11, (gdV (wt t22_11 false) t13_5), (gdV (wt t22_11 false) x1), t26_12, t27_13, t28_14, x0, t30_15, x31, x32, x33, x34, x35, x36, x37, x38, x39, x40], h16⟩) (
(nilCheckV x0).bind fun t33_17 =>
(fieldAddrV Try.prog 83 t33_17 0).bind fun t34_18 =>
(loadV Try.prog 23 t34_18 h4).bind fun t35_19 =>
(sliceV Try.prog 23 t35_19 (some t14_6) none none h4).bind fun t37_20 =>
(nilCheckV x0).bind fun t38_21 =>
(fieldAddrV Try.prog 83 t38_21 0).bind fun t39_22 =>
(storeV Try.prog 23 t39_22 t37_20 h4).bind fun h23 =>
k .ret ⟨#[x0, x1, x2, x3, t13_5, t13_5, t14_6, t12_3, x0, t9_0, t10_1, t11_2, t12_3, t13_5, t14_6, x0, t16_7, t17_8, t18_9, t18_9, (gdV (wt t18_9 false) t14_6), t21_10, t22_11, t22_11, (gdV (wt t22_11 false) t13_5), (gdV (wt t22_11 false) x1), t26_12, t27_13, t28_14, x29, x30, x0, x0, t33_17, t34_18, t35_19, t14_6, t37_20, t38_21, t39_22, t13_5], h23⟩) := by kernel_rfl
theorem call50 (x0 x1 : Value) (h : Heap) : evC Try.prog 50 #[x0, x1] h = codeK Try.prog (evC Try.prog) loopL c50_0 ⟨#[x0, x1, undef, undef, undef, undef, undef, undef, undef, undef, undef, undef, undef, undef, undef, undef, undef, undef, undef, undef, undef, undef, undef, undef, undef, undef, undef, undef, undef, undef, undef, undef, undef, undef, undef, undef, undef, undef, undef, undef, undef], nm h⟩ (retK Try.f50 Try.prog h) :=
  (evC_call 50 Try.f50 c50_0 Try.func50 (by kernel_rfl) #[x0, x1] h).trans (by kernel_rfl)
theorem ret50 (x0 x1 x2 x3 x4 x5 x6 x7 x8 x9 x10 x11 x12 x13 x14 x15 x16 x17 x18 x19 x20 x21 x22 x23 x24 x25 x26 x27 x28 x29 x30 x31 x32 x33 x34 x35 x36 x37 x38 x39 x40 : Value) (h0 h : Heap) : retK Try.f50 Try.prog h0 .ret ⟨#[x0, x1, x2, x3, x4, x5, x6, x7, x8, x9, x10, x11, x12, x13, x14, x15, x16, x17, x18, x19, x20, x21, x22, x23, x24, x25, x26, x27, x28, x29, x30, x31, x32, x33, x34, x35, x36, x37, x38, x39, x40], h⟩ = fin h0 (some x4) h := by kernel_rfl
theorem retn50 (x0 x1 x2 x3 x4 x5 x6 x7 x8 x9 x10 x11 x12 x13 x14 x15 x16 x17 x18 x19 x20 x21 x22 x23 x24 x25 x26 x27 x28 x29 x30 x31 x32 x33 x34 x35 x36 x37 x38 x39 x40 : Value) (h0 h : Heap) : retK Try.f50 Try.prog h0 .normal ⟨#[x0, x1, x2, x3, x4, x5, x6, x7, x8, x9, x10, x11, x12, x13, x14, x15, x16, x17, x18, x19, x20, x21, x22, x23, x24, x25, x26, x27, x28, x29, x30, x31, x32, x33, x34, x35, x36, x37, x38, x39, x40], h⟩ = fin h0 (some x4) h := by kernel_rfl
end Go.Am
namespace Go.Am
open Go.Proofs
set_option maxRecDepth 100000
noncomputable def c53_0 : Code := bodyC Try.f53 []
noncomputable def c53_1 : Code := bodyC Try.f53 [true, true, true, false, true, false, false]
noncomputable def c53_2 : Code := bodyC Try.f53 [true, true, true, true]
theorem c53_0_eq {β : Type} (x0 x1 x2 x3 x4 x5 x6 x7 x8 x9 x10 x11 x12 x13 x14 x15 x16 x17 x18 x19 x20 x21 x22 x23 x24 x25 x26 x27 x28 x29 x30 x31 x32 x33 x34 x35 x36 x37 x38 x39 x40 x41 x42 x43 x44 x45 x46 x47 x48 x49 x50 x51 x52 x53 : Value) (h : Heap) (k : Ex → St → Option β) : codeK Try.prog (evC Try.prog) loopL c53_0 ⟨#[x0, x1, x2, x3, x4, x5, x6, x7, x8, x9, x10, x11, x12, x13, x14, x15, x16, x17, x18, x19, x20, x21, x22, x23, x24, x25, x26, x27, x28, x29, x30, x31, x32, x33, x34, x35, x36, x37, x38, x39, x40, x41, x42, x43, x44, x45, x46, x47, x48, x49, x50, x51, x52, x53], h⟩ k =
(nilCheckV x0).bind fun t8_0 =>
(fieldAddrV Try.prog 83 t8_0 1).bind fun t9_1 =>
(loadV Try.prog 4 t9_1 h).bind fun t10_2 =>
(gd (wt t10_2 false) (nilCheckV (gdV (wt t10_2 false) x0))).bind fun t13_3 =>
(gd (wt t10_2 false) (fieldAddrV Try.prog 83 t13_3 0)).bind fun t14_4 =>
(gd (wt t10_2 false) (loadV Try.prog 23 t14_4 h)).bind fun t15_5 =>
(gd (wt t10_2 false) (lenV Try.prog 23 t15_5 h)).bind fun t16_6 =>
(gd (wt t10_2 false) (binV Try.prog .lss 3 (.tmp 16) (.const (Go.Value.int Go.IntKind.i64 8)) t16_6 (Go.Value.int Go.IntKind.i64 8))).bind fun t17_7 =>
(pickV t10_2 (Go.Value.bool Bool.true) t17_7).bind fun t18_8 =>
cnd t18_8 (
obH (evC Try.prog 99 #[x0] h) fun t20_9 h10 =>
k .ret ⟨#[x0, x1, (Go.Value.float Go.FloatKind.f64 0), x3, x4, x5, x6, x0, t8_0, t9_1, t10_2, t10_2, (gdV (wt t10_2 false) x0), t13_3, t14_4, t15_5, t16_6, t17_7, t18_8, x0, t20_9, x21, x22, x23, x24, x25, x26, x27, x28, x29, x30, x31, x32, x33, x34, x35, x36, x37, x38, x39, x40, x41, x42, x43, x44, x45, x46, x47, x48, x49, x50, x51, x52, x53], h10⟩) (
loopK Try.prog (evC Try.prog) c53_1 ⟨#[x0, x1, (Go.Value.float Go.FloatKind.f64 0), (Go.Value.int Go.IntKind.u64 0), (Go.Value.int Go.IntKind.i64 0), x5, x6, x0, t8_0, t9_1, t10_2, t10_2, (gdV (wt t10_2 false) x0), t13_3, t14_4, t15_5, t16_6, t17_7, t18_8, x19, x20, x21, x22, x23, x24, x25, x26, x27, x28, x29, x30, x31, x32, x33, x34, x35, x36, x37, x38, x39, x40, x41, x42, x43, x44, x45, x46, x47, x48, x49, x50, x51, x52, x53], h⟩ (blockK 0 (seqK Try.prog (evC Try.prog) c53_2 k))) := by kernel_rfl
theorem c53_1_eq {β : Type} (x0 x1 x2 x3 x4 x5 x6 x7 x8 x9 x10 x11 x12 x13 x14 x15 x16 x17 x18 x19 x20 x21 x22 x23 x24 x25 x26 x27 x28 x29 x30 x31 x32 x33 x34 x35 x36 x37 x38 x39 x40 x41 x42 x43 x44 x45 x46 x47 x48 x49 x50 x51 x52 x53 : Value) (h : Heap) (k : Ex → St → Option β) : codeK Try.prog (evC Try.prog) loopL c53_1 ⟨#[x0, x1, x2, x3, x4, x5, x6, x7, x8, x9, x10, x11, x12, x13, x14, x15, x16, x17, x18, x19, x20, x21, x22, x23, x24, x25, x26, x27, x28, x29, x30, x31, x32, x33, x34, x35, x36, x37, x38, x39, x40, x41, x42, x43, x44, x45, x46, x47, x48, x49, x50, x51, x52, x53], h⟩ k =
(binV Try.prog .lss 3 (.tmp 21) (.const (Go.Value.int Go.IntKind.i64 8)) x4 (Go.Value.int Go.IntKind.i64 8)).bind fun t22_11 =>
cnd t22_11 (
(binV Try.prog .shl 46 (.tmp 25) (.const (Go.Value.int Go.IntKind.u64 8)) x3 (Go.Value.int Go.IntKind.u64 8)).bind fun t26_12 =>
(nilCheckV x0).bind fun t28_13 =>
(fieldAddrV Try.prog 83 t28_13 0).bind fun t29_14 =>
(loadV Try.prog 23 t29_14 h).bind fun t30_15 =>
(indexAddrV Try.prog 23 t30_15 x4).bind fun t32_16 =>
(loadV Try.prog 5 t32_16 h).bind fun t33_17 =>
obH (convV Try.prog 5 46 t33_17 h) fun t34_18 h19 =>
(binV Try.prog .or 46 (.tmp 26) (.tmp 34) t26_12 t34_18).bind fun t35_20 =>
(binV Try.prog .add 3 (.tmp 23) (.const (Go.Value.int Go.IntKind.i64 1)) x4 (Go.Value.int Go.IntKind.i64 1)).bind fun t24_21 =>
k .normal ⟨#[x0, x1, x2, t35_20, t24_21, x5, x6, x7, x8, x9, x10, x11, x12, x13, x14, x15, x16, x17, x18, x19, x20, x4, t22_11, x4, t24_21, x3, t26_12, x0, t28_13, t29_14, t30_15, x4, t32_16, t33_17, t34_18, t35_20, x36, x37, x38, x39, x40, x41, x42, x43, x44, x45, x46, x47, x48, x49, x50, x51, x52, x53], h19⟩) (
k (.exit 0) ⟨#[x0, x1, x2, x3, x4, x5, x6, x7, x8, x9, x10, x11, x12, x13, x14, x15, x16, x17, x18, x19, x20, x4, t22_11, x23, x24, x25, x26, x27, x28, x29, x30, x31, x32, x33, x34, x35, x36, x37, x38, x39, x40, x41, x42, x43, x44, x45, x46, x47, x48, x49, x50, x51, x52, x53], h⟩) := by kernel_rfl
theorem c53_2_eq {β : Type} (x0 x1 x2 x3 x4 x5 x6 x7 x8 x9 x10 x11 x12 x13 x14 x15 x16 x17 x18 x19 x20 x21 x22 x23 x24 x25 x26 x27 x28 x29 x30 x31 x32 x33 x34 x35 x36 x37 x38 x39 x40 x41 x42 x43 x44 x45 x46 x47 x48 x49 x50 x51 x52 x53 : Value) (h : Heap) (k : Ex → St → Option β) : codeK Try.prog (evC Try.prog) loopL c53_2 ⟨#[x0, x1, x2, x3, x4, x5, x6, x7, x8, x9, x10, x11, x12, x13, x14, x15, x16, x17, x18, x19, x20, x21, x22, x23, x24, x25, x26, x27, x28, x29, x30, x31, x32, x33, x34, x35, x36, x37, x38, x39, x40, x41, x42, x43, x44, x45, x46, x47, x48, x49, x50, x51, x52, x53], h⟩ k =
obH (evC Try.prog 104 #[x3] h) fun t38_22 h23 =>
(extractV t38_22 0).bind fun t39_24 =>
(extractV t38_22 1).bind fun t40_25 =>
(unV Try.prog .not t40_25).bind fun t42_26 =>
cnd t42_26 (
obH (evC Try.prog 99 #[x0] h23) fun t44_27 h28 =>
k .ret ⟨#[x0, x1, (Go.Value.float Go.FloatKind.f64 0), x3, x4, t39_24, t40_25, x7, x8, x9, x10, x11, x12, x13, x14, x15, x16, x17, x18, x19, x20, x21, x22, x23, x24, x25, x26, x27, x28, x29, x30, x31, x32, x33, x34, x35, t38_22, x3, t38_22, t39_24, t40_25, t40_25, t42_26, x0, t44_27, x45, x46, x47, x48, x49, x50, x51, x52, x53], h28⟩) (
(nilCheckV x0).bind fun t47_29 =>
(fieldAddrV Try.prog 83 t47_29 0).bind fun t48_30 =>
(loadV Try.prog 23 t48_30 h23).bind fun t49_31 =>
(sliceV Try.prog 23 t49_31 (some (Go.Value.int Go.IntKind.i64 8)) none none h23).bind fun t50_32 =>
(nilCheckV x0).bind fun t51_33 =>
(fieldAddrV Try.prog 83 t51_33 0).bind fun t52_34 =>
(storeV Try.prog 23 t52_34 t50_32 h23).bind fun h35 =>
k .ret ⟨#[x0, x1, t39_24, x3, x4, t39_24, t40_25, x7, x8, x9, x10, x11, x12, x13, x14, x15, x16, x17, x18, x19, x20, x21, x22, x23, x24, x25, x26, x27, x28, x29, x30, x31, x32, x33, x34, x35, t38_22, x3, t38_22, t39_24, t40_25, t40_25, t42_26, x43, x44, x0, x0, t47_29, t48_30, t49_31, t50_32, t51_33, t52_34, t39_24], h35⟩) := by kernel_rfl
theorem call53 (x0 : Value) (h : Heap) : evC Try.prog 53 #[x0] h = codeK Try.prog (evC Try.prog) loopL c53_0 ⟨#[x0, undef, undef, undef, undef, undef, undef, undef, undef, undef, undef, undef, undef, undef, undef, undef, undef, undef, undef, undef, undef, undef, undef, undef, undef, undef, undef, undef, undef, undef, undef, undef, undef, undef, undef, undef, undef, undef, undef, undef, undef, undef, undef, undef, undef, undef, undef, undef, undef, undef, undef, undef, undef, undef], nm h⟩ (retK Try.f53 Try.prog h) :=
  (evC_call 53 Try.f53 c53_0 Try.func53 (by kernel_rfl) #[x0] h).trans (by kernel_rfl)
theorem ret53 (x0 x1 x2 x3 x4 x5 x6 x7 x8 x9 x10 x11 x12 x13 x14 x15 x16 x17 x18 x19 x20 x21 x22 x23 x24 x25 x26 x27 x28 x29 x30 x31 x32 x33 x34 x35 x36 x37 x38 x39 x40 x41 x42 x43 x44 x45 x46 x47 x48 x49 x50 x51 x52 x53 : Value) (h0 h : Heap) : retK Try.f53 Try.prog h0 .ret ⟨#[x0, x1, x2, x3, x4, x5, x6, x7, x8, x9, x10, x11, x12, x13, x14, x15, x16, x17, x18, x19, x20, x21, x22, x23, x24, x25, x26, x27, x28, x29, x30, x31, x32, x33, x34, x35, x36, x37, x38, x39, x40, x41, x42, x43, x44, x45, x46, x47, x48, x49, x50, x51, x52, x53], h⟩ = fin h0 (some x2) h := by kernel_rfl
theorem retn53 (x0 x1 x2 x3 x4 x5 x6 x7 x8 x9 x10 x11 x12 x13 x14 x15 x16 x17 x18 x19 x20 x21 x22 x23 x24 x25 x26 x27 x28 x29 x30 x31 x32 x33 x34 x35 x36 x37 x38 x39 x40 x41 x42 x43 x44 x45 x46 x47 x48 x49 x50 x51 x52 x53 : Value) (h0 h : Heap) : retK Try.f53 Try.prog h0 .normal ⟨#[x0, x1, x2, x3, x4, x5, x6, x7, x8, x9, x10, x11, x12, x13, x14, x15, x16, x17, x18, x19, x20, x21, x22, x23, x24, x25, x26, x27, x28, x29, x30, x31, x32, x33, x34, x35, x36, x37, x38, x39, x40, x41, x42, x43, x44, x45, x46, x47, x48, x49, x50, x51, x52, x53], h⟩ = fin h0 (some x2) h := by kernel_rfl
end Go.Am
namespace Go.Am
open Go.Proofs
set_option maxRecDepth 100000
noncomputable def c60_0 : Code := bodyC Try.f60 []
noncomputable def c60_1 : Code := bodyC Try.f60 [true, true, false, false]
theorem c60_0_eq {β : Type} (x0 x1 x2 x3 x4 x5 x6 x7 x8 x9 x10 x11 x12 x13 x14 x15 x16 x17 x18 x19 x20 x21 x22 x23 x24 x25 x26 x27 : Value) (h : Heap) (k : Ex → St → Option β) : codeK Try.prog (evC Try.prog) loopL c60_0 ⟨#[x0, x1, x2, x3, x4, x5, x6, x7, x8, x9, x10, x11, x12, x13, x14, x15, x16, x17, x18, x19, x20, x21, x22, x23, x24, x25, x26, x27], h⟩ k =
obH (evC Try.prog 107 #[x1] h) fun t7_0 h1 =>
loopK Try.prog (evC Try.prog) c60_1 ⟨#[x0, x1, x2, x3, t7_0, (Go.Value.int Go.IntKind.i64 0), x1, t7_0, x8, x9, x10, x11, x12, x13, x14, x15, x16, x17, x18, x19, x20, x21, x22, x23, x24, x25, x26, x27], h1⟩ (blockK 0 k) := by kernel_rfl
theorem c60_1_eq {β : Type} (x0 x1 x2 x3 x4 x5 x6 x7 x8 x9 x10 x11 x12 x13 x14 x15 x16 x17 x18 x19 x20 x21 x22 x23 x24 x25 x26 x27 : Value) (h : Heap) (k : Ex → St → Option β) : codeK Try.prog (evC Try.prog) loopL c60_1 ⟨#[x0, x1, x2, x3, x4, x5, x6, x7, x8, x9, x10, x11, x12, x13, x14, x15, x16, x17, x18, x19, x20, x21, x22, x23, x24, x25, x26, x27], h⟩ k =
(binV Try.prog .lss 3 (.tmp 8) (.const (Go.Value.int Go.IntKind.i64 8)) x5 (Go.Value.int Go.IntKind.i64 8)).bind fun t9_2 =>
cnd t9_2 (
(nilCheckV x0).bind fun t14_3 =>
(fieldAddrV Try.prog 97 t14_3 0).bind fun t15_4 =>
(loadV Try.prog 23 t15_4 h).bind fun t16_5 =>
(binV Try.prog .mul 3 (.const (Go.Value.int Go.IntKind.i64 8)) (.tmp 18) (Go.Value.int Go.IntKind.i64 8) x5).bind fun t19_6 =>
(binV Try.prog .sub 3 (.const (Go.Value.int Go.IntKind.i64 56)) (.tmp 19) (Go.Value.int Go.IntKind.i64 56) t19_6).bind fun t20_7 =>
obH (convV Try.prog 3 138 t20_7 h) fun t21_8 h9 =>
(binV Try.prog .shr 46 (.tmp 17) (.tmp 21) x4 t21_8).bind fun t22_10 =>
obH (convV Try.prog 46 5 t22_10 h9) fun t23_11 h12 =>
obH (buildSliceV Try.prog 23 1 #[(0, t23_11)] h12) fun t24_13 h14 =>
obH (appendV Try.prog 23 (some 23) t16_5 t24_13 h14) fun t25_15 h16 =>
(nilCheckV x0).bind fun t26_17 =>
(fieldAddrV Try.prog 97 t26_17 0).bind fun t27_18 =>
(storeV Try.prog 23 t27_18 t25_15 h16).bind fun h19 =>
(binV Try.prog .add 3 (.tmp 10) (.const (Go.Value.int Go.IntKind.i64 1)) x5 (Go.Value.int Go.IntKind.i64 1)).bind fun t11_20 =>
k .normal ⟨#[x0, x1, x2, x3, x4, t11_20, x6, x7, x5, t9_2, x5, t11_20, x0, x0, t14_3, t15_4, t16_5, x4, x5, t19_6, t20_7, t21_8, t22_10, t23_11, t24_13, t25_15, t26_17, t27_18], h19⟩) (
k (.exit 0) ⟨#[x0, x1, x2, x3, x4, x5, x6, x7, x5, t9_2, x10, x11, x12, x13, x14, x15, x16, x17, x18, x19, x20, x21, x22, x23, x24, x25, x26, x27], h⟩) := by kernel_rfl
theorem call60 (x0 x1 : Value) (h : Heap) : evC Try.prog 60 #[x0, x1] h = codeK Try.prog (evC Try.prog) loopL c60_0 ⟨#[x0, x1, undef, undef, undef, undef, undef, undef, undef, undef, undef, undef, undef, undef, undef, undef, undef, undef, undef, undef, undef, undef, undef, undef, undef, undef, undef, undef], nm h⟩ (retK Try.f60 Try.prog h) :=
  (evC_call 60 Try.f60 c60_0 Try.func60 (by kernel_rfl) #[x0, x1] h).trans (by kernel_rfl)
theorem ret60 (x0 x1 x2 x3 x4 x5 x6 x7 x8 x9 x10 x11 x12 x13 x14 x15 x16 x17 x18 x19 x20 x21 x22 x23 x24 x25 x26 x27 : Value) (h0 h : Heap) : retK Try.f60 Try.prog h0 .ret ⟨#[x0, x1, x2, x3, x4, x5, x6, x7, x8, x9, x10, x11, x12, x13, x14, x15, x16, x17, x18, x19, x20, x21, x22, x23, x24, x25, x26, x27], h⟩ = fin h0 (some (.tuple #[])) h := by kernel_rfl
theorem retn60 (x0 x1 x2 x3 x4 x5 x6 x7 x8 x9 x10 x11 x12 x13 x14 x15 x16 x17 x18 x19 x20 x21 x22 x23 x24 x25 x26 x27 : Value) (h0 h : Heap) : retK Try.f60 Try.prog h0 .normal ⟨#[x0, x1, x2, x3, x4, x5, x6, x7, x8, x9, x10, x11, x12, x13, x14, x15, x16, x17, x18, x19, x20, x21, x22, x23, x24, x25, x26, x27], h⟩ = fin h0 (some (.tuple #[])) h := by kernel_rfl
end Go.Am
namespace Go.Am
open Go.Proofs
set_option maxRecDepth 100000
noncomputable def c100_0 : Code := bodyC Try.f100 []
theorem c100_0_eq {β : Type} (x0 x1 x2 x3 x4 x5 x6 x7 x8 : Value) (h : Heap) (k : Ex → St → Option β) : codeK Try.prog (evC Try.prog) loopL c100_0 ⟨#[x0, x1, x2, x3, x4, x5, x6, x7, x8], h⟩ k =
(binV Try.prog .andNot 47 (.tmp 5) (.tmp 6) x0 x1).bind fun t7_0 =>
(binV Try.prog .eql 47 (.tmp 7) (.const (Go.Value.int Go.IntKind.u64 0)) t7_0 (Go.Value.int Go.IntKind.u64 0)).bind fun t8_1 =>
k .ret ⟨#[x0, x1, x2, x3, t8_1, x0, x1, t7_0, t8_1], h⟩ := by kernel_rfl
theorem call100 (x0 x1 : Value) (h : Heap) : evC Try.prog 100 #[x0, x1] h = codeK Try.prog (evC Try.prog) loopL c100_0 ⟨#[x0, x1, undef, undef, undef, undef, undef, undef, undef], nm h⟩ (retK Try.f100 Try.prog h) :=
  (evC_call 100 Try.f100 c100_0 Try.func100 (by kernel_rfl) #[x0, x1] h).trans (by kernel_rfl)
theorem ret100 (x0 x1 x2 x3 x4 x5 x6 x7 x8 : Value) (h0 h : Heap) : retK Try.f100 Try.prog h0 .ret ⟨#[x0, x1, x2, x3, x4, x5, x6, x7, x8], h⟩ = fin h0 (some x4) h := by kernel_rfl
theorem retn100 (x0 x1 x2 x3 x4 x5 x6 x7 x8 : Value) (h0 h : Heap) : retK Try.f100 Try.prog h0 .normal ⟨#[x0, x1, x2, x3, x4, x5, x6, x7, x8], h⟩ = fin h0 (some x4) h := by kernel_rfl
end Go.Am
namespace Go.Am
open Go.Proofs
set_option maxRecDepth 100000
noncomputable def c126_0 : Code := bodyC Try.f126 []
theorem c126_0_eq {β : Type} (x0 x1 x2 x3 x4 x5 x6 x7 x8 : Value) (h : Heap) (k : Ex → St → Option β) : codeK Try.prog (evC Try.prog) loopL c126_0 ⟨#[x0, x1, x2, x3, x4, x5, x6, x7, x8], h⟩ k =
obH (evC Try.prog 128 #[x0, x1] h) fun t7_0 h1 =>
(binV Try.prog .eql 3 (.tmp 7) (.const (Go.Value.int Go.IntKind.i64 0)) t7_0 (Go.Value.int Go.IntKind.i64 0)).bind fun t8_2 =>
k .ret ⟨#[x0, x1, x2, x3, t8_2, x0, x1, t7_0, t8_2], h1⟩ := by kernel_rfl
theorem call126 (x0 x1 : Value) (h : Heap) : evC Try.prog 126 #[x0, x1] h = codeK Try.prog (evC Try.prog) loopL c126_0 ⟨#[x0, x1, undef, undef, undef, undef, undef, undef, undef], nm h⟩ (retK Try.f126 Try.prog h) :=
  (evC_call 126 Try.f126 c126_0 Try.func126 (by kernel_rfl) #[x0, x1] h).trans (by kernel_rfl)
theorem ret126 (x0 x1 x2 x3 x4 x5 x6 x7 x8 : Value) (h0 h : Heap) : retK Try.f126 Try.prog h0 .ret ⟨#[x0, x1, x2, x3, x4, x5, x6, x7, x8], h⟩ = fin h0 (some x4) h := by kernel_rfl
theorem retn126 (x0 x1 x2 x3 x4 x5 x6 x7 x8 : Value) (h0 h : Heap) : retK Try.f126 Try.prog h0 .normal ⟨#[x0, x1, x2, x3, x4, x5, x6, x7, x8], h⟩ = fin h0 (some x4) h := by kernel_rfl
end Go.Am
namespace Go.Am
open Go.Proofs
set_option maxRecDepth 100000
noncomputable def c128_0 : Code := bodyC Try.f128 []
theorem c128_0_eq {β : Type} (x0 x1 x2 x3 x4 x5 x6 x7 x8 x9 : Value) (h : Heap) (k : Ex → St → Option β) : codeK Try.prog (evC Try.prog) loopL c128_0 ⟨#[x0, x1, x2, x3, x4, x5, x6, x7, x8, x9], h⟩ k =
obH (evC Try.prog 105 #[x0] h) fun t6_0 h1 =>
obH (evC Try.prog 105 #[x1] h1) fun t8_2 h3 =>
obH (evC Try.prog 129 #[t6_0, t8_2] h3) fun t9_4 h5 =>
k .ret ⟨#[x0, x1, x2, x3, t9_4, x0, t6_0, x1, t8_2, t9_4], h5⟩ := by kernel_rfl
theorem call128 (x0 x1 : Value) (h : Heap) : evC Try.prog 128 #[x0, x1] h = codeK Try.prog (evC Try.prog) loopL c128_0 ⟨#[x0, x1, undef, undef, undef, undef, undef, undef, undef, undef], nm h⟩ (retK Try.f128 Try.prog h) :=
  (evC_call 128 Try.f128 c128_0 Try.func128 (by kernel_rfl) #[x0, x1] h).trans (by kernel_rfl)
theorem ret128 (x0 x1 x2 x3 x4 x5 x6 x7 x8 x9 : Value) (h0 h : Heap) : retK Try.f128 Try.prog h0 .ret ⟨#[x0, x1, x2, x3, x4, x5, x6, x7, x8, x9], h⟩ = fin h0 (some x4) h := by kernel_rfl
theorem retn128 (x0 x1 x2 x3 x4 x5 x6 x7 x8 x9 : Value) (h0 h : Heap) : retK Try.f128 Try.prog h0 .normal ⟨#[x0, x1, x2, x3, x4, x5, x6, x7, x8, x9], h⟩ = fin h0 (some x4) h := by kernel_rfl
end Go.Am
namespace Go.Am
open Go.Proofs
set_option maxRecDepth 100000
noncomputable def c129_0 : Code := bodyC Try.f129 []
theorem c129_0_eq {β : Type} (x0 x1 x2 x3 x4 x5 x6 x7 x8 x9 x10 x11 x12 x13 x14 x15 x16 x17 x18 x19 : Value) (h : Heap) (k : Ex → St → Option β) : codeK Try.prog (evC Try.prog) loopL c129_0 ⟨#[x0, x1, x2, x3, x4, x5, x6, x7, x8, x9, x10, x11, x12, x13, x14, x15, x16, x17, x18, x19], h⟩ k =
obH (evC Try.prog 130 #[x0] h) fun t8_0 h1 =>
obH (evC Try.prog 130 #[x1] h1) fun t10_2 h3 =>
cnd t8_0 (
cnd t10_2 (
k .ret ⟨#[x0, x1, x2, x3, (Go.Value.int Go.IntKind.i64 0), t8_0, t10_2, x0, t8_0, x1, t10_2, t8_0, t10_2, x13, x14, x15, x16, x17, x18, x19], h3⟩) (
k .ret ⟨#[x0, x1, x2, x3, (Go.Value.int Go.IntKind.i64 (-1)), t8_0, t10_2, x0, t8_0, x1, t10_2, t8_0, t10_2, x13, x14, x15, x16, x17, x18, x19], h3⟩)) (
cnd t10_2 (
k .ret ⟨#[x0, x1, x2, x3, (Go.Value.int Go.IntKind.i64 1), t8_0, t10_2, x0, t8_0, x1, t10_2, t8_0, x12, t10_2, x14, x15, x16, x17, x18, x19], h3⟩) (
(binV Try.prog .lss 46 (.tmp 14) (.tmp 15) x0 x1).bind fun t16_4 =>
cnd t16_4 (
k .ret ⟨#[x0, x1, x2, x3, (Go.Value.int Go.IntKind.i64 (-1)), t8_0, t10_2, x0, t8_0, x1, t10_2, t8_0, x12, t10_2, x0, x1, t16_4, x17, x18, x19], h3⟩) (
(binV Try.prog .gtr 46 (.tmp 17) (.tmp 18) x0 x1).bind fun t19_5 =>
cnd t19_5 (
k .ret ⟨#[x0, x1, x2, x3, (Go.Value.int Go.IntKind.i64 1), t8_0, t10_2, x0, t8_0, x1, t10_2, t8_0, x12, t10_2, x0, x1, t16_4, x0, x1, t19_5], h3⟩) (
k .ret ⟨#[x0, x1, x2, x3, (Go.Value.int Go.IntKind.i64 0), t8_0, t10_2, x0, t8_0, x1, t10_2, t8_0, x12, t10_2, x0, x1, t16_4, x0, x1, t19_5], h3⟩)))) := by kernel_rfl
theorem call129 (x0 x1 : Value) (h : Heap) : evC Try.prog 129 #[x0, x1] h = codeK Try.prog (evC Try.prog) loopL c129_0 ⟨#[x0, x1, undef, undef, undef, undef, undef, undef, undef, undef, undef, undef, undef, undef, undef, undef, undef, undef, undef, undef], nm h⟩ (retK Try.f129 Try.prog h) :=
  (evC_call 129 Try.f129 c129_0 Try.func129 (by kernel_rfl) #[x0, x1] h).trans (by kernel_rfl)
theorem ret129 (x0 x1 x2 x3 x4 x5 x6 x7 x8 x9 x10 x11 x12 x13 x14 x15 x16 x17 x18 x19 : Value) (h0 h : Heap) : retK Try.f129 Try.prog h0 .ret ⟨#[x0, x1, x2, x3, x4, x5, x6, x7, x8, x9, x10, x11, x12, x13, x14, x15, x16, x17, x18, x19], h⟩ = fin h0 (some x4) h := by kernel_rfl
theorem retn129 (x0 x1 x2 x3 x4 x5 x6 x7 x8 x9 x10 x11 x12 x13 x14 x15 x16 x17 x18 x19 : Value) (h0 h : Heap) : retK Try.f129 Try.prog h0 .normal ⟨#[x0, x1, x2, x3, x4, x5, x6, x7, x8, x9, x10, x11, x12, x13, x14, x15, x16, x17, x18, x19], h⟩ = fin h0 (some x4) h := by kernel_rfl
end Go.Am
namespace Go.Am
open Go.Proofs
set_option maxRecDepth 100000
noncomputable def c130_0 : Code := bodyC Try.f130 []
theorem c130_0_eq {β : Type} (x0 x1 x2 x3 x4 x5 : Value) (h : Heap) (k : Ex → St → Option β) : codeK Try.prog (evC Try.prog) loopL c130_0 ⟨#[x0, x1, x2, x3, x4, x5], h⟩ k =
(binV Try.prog .neq 46 (.tmp 3) (.tmp 4) x0 x0).bind fun t5_0 =>
k .ret ⟨#[x0, x1, t5_0, x0, x0, t5_0], h⟩ := by kernel_rfl
theorem call130 (x0 : Value) (h : Heap) : evC Try.prog 130 #[x0] h = codeK Try.prog (evC Try.prog) loopL c130_0 ⟨#[x0, undef, undef, undef, undef, undef], nm h⟩ (retK Try.f130 Try.prog h) :=
  (evC_call 130 Try.f130 c130_0 Try.func130 (by kernel_rfl) #[x0] h).trans (by kernel_rfl)
theorem ret130 (x0 x1 x2 x3 x4 x5 : Value) (h0 h : Heap) : retK Try.f130 Try.prog h0 .ret ⟨#[x0, x1, x2, x3, x4, x5], h⟩ = fin h0 (some x2) h := by kernel_rfl
theorem retn130 (x0 x1 x2 x3 x4 x5 : Value) (h0 h : Heap) : retK Try.f130 Try.prog h0 .normal ⟨#[x0, x1, x2, x3, x4, x5], h⟩ = fin h0 (some x2) h := by kernel_rfl
end Go.Am
namespace Go.Am
open Go.Proofs
set_option maxRecDepth 100000
noncomputable def c111_0 : Code := bodyC Try.f111 []
theorem c111_0_eq {β : Type} (x0 x1 x2 x3 x4 x5 x6 x7 x8 x9 x10 x11 x12 x13 x14 : Value) (h : Heap) (k : Ex → St → Option β) : codeK Try.prog (evC Try.prog) loopL c111_0 ⟨#[x0, x1, x2, x3, x4, x5, x6, x7, x8, x9, x10, x11, x12, x13, x14], h⟩ k =
(binV Try.prog .geq 3 (.tmp 7) (.tmp 8) x0 x1).bind fun t9_0 =>
(gd (wt t9_0 true) (binV Try.prog .leq 3 (.tmp 11) (.tmp 12) (gdV (wt t9_0 true) x0) (gdV (wt t9_0 true) x2))).bind fun t13_1 =>
(pickV t9_0 t13_1 (Go.Value.bool Bool.false)).bind fun t14_2 =>
k .ret ⟨#[x0, x1, x2, x3, x4, x5, t14_2, x0, x1, t9_0, t9_0, (gdV (wt t9_0 true) x0), (gdV (wt t9_0 true) x2), t13_1, t14_2], h⟩ := by kernel_rfl
theorem call111 (x0 x1 x2 : Value) (h : Heap) : evC Try.prog 111 #[x0, x1, x2] h = codeK Try.prog (evC Try.prog) loopL c111_0 ⟨#[x0, x1, x2, undef, undef, undef, undef, undef, undef, undef, undef, undef, undef, undef, undef], nm h⟩ (retK Try.f111 Try.prog h) :=
  (evC_call 111 Try.f111 c111_0 Try.func111 (by kernel_rfl) #[x0, x1, x2] h).trans (by kernel_rfl)
theorem ret111 (x0 x1 x2 x3 x4 x5 x6 x7 x8 x9 x10 x11 x12 x13 x14 : Value) (h0 h : Heap) : retK Try.f111 Try.prog h0 .ret ⟨#[x0, x1, x2, x3, x4, x5, x6, x7, x8, x9, x10, x11, x12, x13, x14], h⟩ = fin h0 (some x6) h := by kernel_rfl
theorem retn111 (x0 x1 x2 x3 x4 x5 x6 x7 x8 x9 x10 x11 x12 x13 x14 : Value) (h0 h : Heap) : retK Try.f111 Try.prog h0 .normal ⟨#[x0, x1, x2, x3, x4, x5, x6, x7, x8, x9, x10, x11, x12, x13, x14], h⟩ = fin h0 (some x6) h := by kernel_rfl
end Go.Am
namespace Go.Am
open Go.Proofs
set_option maxRecDepth 100000
noncomputable def c113_0 : Code := bodyC Try.f113 []
theorem c113_0_eq {β : Type} (x0 x1 x2 x3 x4 x5 x6 x7 x8 x9 x10 x11 x12 x13 x14 x15 x16 x17 x18 x19 x20 x21 x22 x23 x24 x25 x26 x27 x28 x29 x30 x31 x32 x33 x34 x35 x36 x37 x38 x39 x40 x41 x42 x43 : Value) (h : Heap) (k : Ex → St → Option β) : codeK Try.prog (evC Try.prog) loopL c113_0 ⟨#[x0, x1, x2, x3, x4, x5, x6, x7, x8, x9, x10, x11, x12, x13, x14, x15, x16, x17, x18, x19, x20, x21, x22, x23, x24, x25, x26, x27, x28, x29, x30, x31, x32, x33, x34, x35, x36, x37, x38, x39, x40, x41, x42, x43], h⟩ k =
obH (boxV Try.prog 104 x0 h) fun t1_0 h1 =>
(fieldAddrV Try.prog 104 t1_0 3).bind fun t3_2 =>
(loadV Try.prog 3 t3_2 h1).bind fun t4_3 =>
(binV Try.prog .eql 3 (.tmp 4) (.const (Go.Value.int Go.IntKind.i64 1)) t4_3 (Go.Value.int Go.IntKind.i64 1)).bind fun t6_4 =>
cnd t6_4 (
(fieldAddrV Try.prog 104 t1_0 6).bind fun t7_5 =>
(loadV Try.prog 3 t7_5 h1).bind fun t8_6 =>
(fieldAddrV Try.prog 104 t1_0 0).bind fun t9_7 =>
(loadV Try.prog 3 t9_7 h1).bind fun t10_8 =>
(binV Try.prog .eql 3 (.tmp 8) (.tmp 10) t8_6 t10_8).bind fun t11_9 =>
(gd (wt t11_9 true) (fieldAddrV Try.prog 104 t1_0 7)).bind fun t13_10 =>
(gd (wt t11_9 true) (loadV Try.prog 46 t13_10 h1)).bind fun t14_11 =>
(gd (wt t11_9 true) (binV Try.prog .gtr 46 (.tmp 14) (.const (Go.Value.int Go.IntKind.u64 0)) t14_11 (Go.Value.int Go.IntKind.u64 0))).bind fun t15_12 =>
(pickV t11_9 t15_12 (Go.Value.bool Bool.false)).bind fun t16_13 =>
k .ret ⟨#[x0, t1_0, t16_13, t3_2, t4_3, t6_4, t6_4, t7_5, t8_6, t9_7, t10_8, t11_9, t11_9, t13_10, t14_11, t15_12, t16_13, x17, x18, x19, x20, x21, x22, x23, x24, x25, x26, x27, x28, x29, x30, x31, x32, x33, x34, x35, x36, x37, x38, x39, x40, x41, x42, x43], h1⟩) (
(binV Try.prog .eql 3 (.tmp 4) (.const (Go.Value.int Go.IntKind.i64 3)) t4_3 (Go.Value.int Go.IntKind.i64 3)).bind fun t18_14 =>
cnd t18_14 (
(fieldAddrV Try.prog 104 t1_0 6).bind fun t19_15 =>
(loadV Try.prog 3 t19_15 h1).bind fun t20_16 =>
obH (evC Try.prog 111 #[t20_16, (Go.Value.int Go.IntKind.i64 (-1)), (Go.Value.int Go.IntKind.i64 15)] h1) fun t21_17 h18 =>
(gd (wt t21_17 true) (fieldAddrV Try.prog 104 t1_0 7)).bind fun t23_19 =>
(gd (wt t21_17 true) (loadV Try.prog 46 t23_19 h18)).bind fun t24_20 =>
(gd (wt t21_17 true) (binV Try.prog .eql 46 (.tmp 24) (.const (Go.Value.int Go.IntKind.u64 0)) t24_20 (Go.Value.int Go.IntKind.u64 0))).bind fun t25_21 =>
(gd (wt t21_17 true) (fieldAddrV Try.prog 104 t1_0 6)).bind fun t26_22 =>
(gd (wt t21_17 true) (loadV Try.prog 3 t26_22 h18)).bind fun t27_23 =>
(gd (wt t21_17 true) (binV Try.prog .eql 3 (.tmp 27) (.const (Go.Value.int Go.IntKind.i64 (-1))) t27_23 (Go.Value.int Go.IntKind.i64 (-1)))).bind fun t28_24 =>
(gd (wt t21_17 true) (binV Try.prog .eql 4 (.tmp 25) (.tmp 28) t25_21 t28_24)).bind fun t29_25 =>
(pickV t21_17 t29_25 (Go.Value.bool Bool.false)).bind fun t30_26 =>
k .ret ⟨#[x0, t1_0, t30_26, t3_2, t4_3, t6_4, t6_4, x7, x8, x9, x10, x11, x12, x13, x14, x15, x16, t18_14, t18_14, t19_15, t20_16, t21_17, t21_17, t23_19, t24_20, t25_21, t26_22, t27_23, t28_24, t29_25, t30_26, x31, x32, x33, x34, x35, x36, x37, x38, x39, x40, x41, x42, x43], h18⟩) (
(fieldAddrV Try.prog 104 t1_0 6).bind fun t31_27 =>
(loadV Try.prog 3 t31_27 h1).bind fun t32_28 =>
(binV Try.prog .eql 3 (.tmp 32) (.const (Go.Value.int Go.IntKind.i64 0)) t32_28 (Go.Value.int Go.IntKind.i64 0)).bind fun t33_29 =>
(gd (wt t33_29 true) (fieldAddrV Try.prog 104 t1_0 7)).bind fun t35_30 =>
(gd (wt t33_29 true) (loadV Try.prog 46 t35_30 h1)).bind fun t36_31 =>
(gd (wt t33_29 true) (binV Try.prog .eql 46 (.tmp 36) (.const (Go.Value.int Go.IntKind.u64 0)) t36_31 (Go.Value.int Go.IntKind.u64 0))).bind fun t37_32 =>
(pickV t33_29 t37_32 (Go.Value.bool Bool.false)).bind fun t38_33 =>
(gd (wt t38_33 true) (fieldAddrV Try.prog 104 t1_0 5)).bind fun t40_34 =>
(gd (wt t38_33 true) (loadV Try.prog 84 t40_34 h1)).bind fun t41_35 =>
obH (gdH (wt t38_33 true) h1 (evC Try.prog 126 #[t41_35, (Go.Value.float Go.FloatKind.f64 0)] h1)) fun t42_36 h37 =>
(pickV t38_33 t42_36 (Go.Value.bool Bool.false)).bind fun t43_38 =>
k .ret ⟨#[x0, t1_0, t43_38, t3_2, t4_3, t6_4, t6_4, x7, x8, x9, x10, x11, x12, x13, x14, x15, x16, t18_14, t18_14, x19, x20, x21, x22, x23, x24, x25, x26, x27, x28, x29, x30, t31_27, t32_28, t33_29, t33_29, t35_30, t36_31, t37_32, t38_33, t38_33, t40_34, t41_35, t42_36, t43_38], h37⟩)) := by kernel_rfl
theorem call113 (x0 : Value) (h : Heap) : evC Try.prog 113 #[x0] h = codeK Try.prog (evC Try.prog) loopL c113_0 ⟨#[x0, undef, undef, undef, undef, undef, undef, undef, undef, undef, undef, undef, undef, undef, undef, undef, undef, undef, undef, undef, undef, undef, undef, undef, undef, undef, undef, undef, undef, undef, undef, undef, undef, undef, undef, undef, undef, undef, undef, undef, undef, undef, undef, undef], nm h⟩ (retK Try.f113 Try.prog h) :=
  (evC_call 113 Try.f113 c113_0 Try.func113 (by kernel_rfl) #[x0] h).trans (by kernel_rfl)
theorem ret113 (x0 x1 x2 x3 x4 x5 x6 x7 x8 x9 x10 x11 x12 x13 x14 x15 x16 x17 x18 x19 x20 x21 x22 x23 x24 x25 x26 x27 x28 x29 x30 x31 x32 x33 x34 x35 x36 x37 x38 x39 x40 x41 x42 x43 : Value) (h0 h : Heap) : retK Try.f113 Try.prog h0 .ret ⟨#[x0, x1, x2, x3, x4, x5, x6, x7, x8, x9, x10, x11, x12, x13, x14, x15, x16, x17, x18, x19, x20, x21, x22, x23, x24, x25, x26, x27, x28, x29, x30, x31, x32, x33, x34, x35, x36, x37, x38, x39, x40, x41, x42, x43], h⟩ = fin h0 (some x2) h := by kernel_rfl
theorem retn113 (x0 x1 x2 x3 x4 x5 x6 x7 x8 x9 x10 x11 x12 x13 x14 x15 x16 x17 x18 x19 x20 x21 x22 x23 x24 x25 x26 x27 x28 x29 x30 x31 x32 x33 x34 x35 x36 x37 x38 x39 x40 x41 x42 x43 : Value) (h0 h : Heap) : retK Try.f113 Try.prog h0 .normal ⟨#[x0, x1, x2, x3, x4, x5, x6, x7, x8, x9, x10, x11, x12, x13, x14, x15, x16, x17, x18, x19, x20, x21, x22, x23, x24, x25, x26, x27, x28, x29, x30, x31, x32, x33, x34, x35, x36, x37, x38, x39, x40, x41, x42, x43], h⟩ = fin h0 (some x2) h := by kernel_rfl
end Go.Am
namespace Go.Am
open Go.Proofs
set_option maxRecDepth 100000
noncomputable def c110_0 : Code := bodyC Try.f110 []
theorem c110_0_eq {β : Type} (x0 x1 x2 x3 x4 x5 x6 x7 x8 : Value) (h : Heap) (k : Ex → St → Option β) : codeK Try.prog (evC Try.prog) loopL c110_0 ⟨#[x0, x1, x2, x3, x4, x5, x6, x7, x8], h⟩ k =
(binV Try.prog .eql 3 (.tmp 3) (.const (Go.Value.int Go.IntKind.i64 1)) x0 (Go.Value.int Go.IntKind.i64 1)).bind fun t4_0 =>
(gd (wt t4_0 false) (binV Try.prog .eql 3 (.tmp 6) (.const (Go.Value.int Go.IntKind.i64 3)) (gdV (wt t4_0 false) x0) (Go.Value.int Go.IntKind.i64 3))).bind fun t7_1 =>
(pickV t4_0 (Go.Value.bool Bool.true) t7_1).bind fun t8_2 =>
k .ret ⟨#[x0, x1, t8_2, x0, t4_0, t4_0, (gdV (wt t4_0 false) x0), t7_1, t8_2], h⟩ := by kernel_rfl
theorem call110 (x0 : Value) (h : Heap) : evC Try.prog 110 #[x0] h = codeK Try.prog (evC Try.prog) loopL c110_0 ⟨#[x0, undef, undef, undef, undef, undef, undef, undef, undef], nm h⟩ (retK Try.f110 Try.prog h) :=
  (evC_call 110 Try.f110 c110_0 Try.func110 (by kernel_rfl) #[x0] h).trans (by kernel_rfl)
theorem ret110 (x0 x1 x2 x3 x4 x5 x6 x7 x8 : Value) (h0 h : Heap) : retK Try.f110 Try.prog h0 .ret ⟨#[x0, x1, x2, x3, x4, x5, x6, x7, x8], h⟩ = fin h0 (some x2) h := by kernel_rfl
theorem retn110 (x0 x1 x2 x3 x4 x5 x6 x7 x8 : Value) (h0 h : Heap) : retK Try.f110 Try.prog h0 .normal ⟨#[x0, x1, x2, x3, x4, x5, x6, x7, x8], h⟩ = fin h0 (some x2) h := by kernel_rfl
end Go.Am
namespace Go.Am
open Go.Proofs
set_option maxRecDepth 100000
noncomputable def c71_0 : Code := bodyC Try.f71 []
noncomputable def c71_1 : Code := bodyC Try.f71 [false]
noncomputable def c71_2 : Code := bodyC Try.f71 [true]
noncomputable def c71_3 : Code := bodyC Try.f71 [true, false]
noncomputable def c71_4 : Code := bodyC Try.f71 [true, true]
noncomputable def d71_0 : Array Oper := opsC (bodyC Try.f71 [true, false, false])
noncomputable def c71_5 : Code := bodyC Try.f71 [true, false, false]
noncomputable def c71_6 : Code := bodyC Try.f71 [true, false, true]
theorem c71_0_eq {β : Type} (x0 x1 x2 x3 x4 x5 x6 x7 x8 x9 x10 x11 x12 x13 x14 x15 x16 x17 x18 x19 x20 x21 x22 x23 x24 x25 x26 x27 x28 x29 x30 x31 x32 x33 x34 x35 x36 x37 x38 x39 x40 x41 x42 x43 x44 x45 x46 x47 x48 x49 x50 x51 x52 x53 x54 x55 x56 x57 x58 x59 x60 x61 x62 x63 x64 x65 x66 : Value) (h : Heap) (k : Ex → St → Option β) : codeK Try.prog (evC Try.prog) loopL c71_0 ⟨#[x0, x1, x2, x3, x4, x5, x6, x7, x8, x9, x10, x11, x12, x13, x14, x15, x16, x17, x18, x19, x20, x21, x22, x23, x24, x25, x26, x27, x28, x29, x30, x31, x32, x33, x34, x35, x36, x37, x38, x39, x40, x41, x42, x43, x44, x45, x46, x47, x48, x49, x50, x51, x52, x53, x54, x55, x56, x57, x58, x59, x60, x61, x62, x63, x64, x65, x66], h⟩ k =
codeK Try.prog (evC Try.prog) loopL c71_1 ⟨#[x0, x1, x2, x3, x4, x5, x6, x7, x8, x9, x10, x11, x12, x13, x14, x15, x16, x17, x18, x19, x20, x21, x22, x23, x24, x25, x26, x27, x28, x29, x30, x31, x32, x33, x34, x35, x36, x37, x38, x39, x40, x41, x42, x43, x44, x45, x46, x47, x48, x49, x50, x51, x52, x53, x54, x55, x56, x57, x58, x59, x60, x61, x62, x63, x64, x65, x66], h⟩ (seqK Try.prog (evC Try.prog) c71_2 k) := codeK_seq _ _ _ _ _ (by kernel_rfl) _ _
theorem c71_1_eq {β : Type} (x0 x1 x2 x3 x4 x5 x6 x7 x8 x9 x10 x11 x12 x13 x14 x15 x16 x17 x18 x19 x20 x21 x22 x23 x24 x25 x26 x27 x28 x29 x30 x31 x32 x33 x34 x35 x36 x37 x38 x39 x40 x41 x42 x43 x44 x45 x46 x47 x48 x49 x50 x51 x52 x53 x54 x55 x56 x57 x58 x59 x60 x61 x62 x63 x64 x65 x66 : Value) (h : Heap) (k : Ex → St → Option β) : codeK Try.prog (evC Try.prog) loopL c71_1 ⟨#[x0, x1, x2, x3, x4, x5, x6, x7, x8, x9, x10, x11, x12, x13, x14, x15, x16, x17, x18, x19, x20, x21, x22, x23, x24, x25, x26, x27, x28, x29, x30, x31, x32, x33, x34, x35, x36, x37, x38, x39, x40, x41, x42, x43, x44, x45, x46, x47, x48, x49, x50, x51, x52, x53, x54, x55, x56, x57, x58, x59, x60, x61, x62, x63, x64, x65, x66], h⟩ k =
obH (boxV Try.prog 104 x0 h) fun t1_0 h1 =>
k .normal ⟨#[x0, t1_0, (Go.Value.bool Bool.false), x3, x4, x5, x6, x7, x8, x9, x10, x11, x12, x13, x14, x15, x16, x17, x18, x19, x20, x21, x22, x23, x24, x25, x26, x27, x28, x29, x30, x31, x32, x33, x34, x35, x36, x37, x38, x39, x40, x41, x42, x43, x44, x45, x46, x47, x48, x49, x50, x51, x52, x53, x54, x55, x56, x57, x58, x59, x60, x61, x62, x63, x64, x65, x66], h1⟩ := by kernel_rfl
theorem c71_2_eq {β : Type} (x0 x1 x2 x3 x4 x5 x6 x7 x8 x9 x10 x11 x12 x13 x14 x15 x16 x17 x18 x19 x20 x21 x22 x23 x24 x25 x26 x27 x28 x29 x30 x31 x32 x33 x34 x35 x36 x37 x38 x39 x40 x41 x42 x43 x44 x45 x46 x47 x48 x49 x50 x51 x52 x53 x54 x55 x56 x57 x58 x59 x60 x61 x62 x63 x64 x65 x66 : Value) (h : Heap) (k : Ex → St → Option β) : codeK Try.prog (evC Try.prog) loopL c71_2 ⟨#[x0, x1, x2, x3, x4, x5, x6, x7, x8, x9, x10, x11, x12, x13, x14, x15, x16, x17, x18, x19, x20, x21, x22, x23, x24, x25, x26, x27, x28, x29, x30, x31, x32, x33, x34, x35, x36, x37, x38, x39, x40, x41, x42, x43, x44, x45, x46, x47, x48, x49, x50, x51, x52, x53, x54, x55, x56, x57, x58, x59, x60, x61, x62, x63, x64, x65, x66], h⟩ k =
codeK Try.prog (evC Try.prog) loopL c71_3 ⟨#[x0, x1, x2, x3, x4, x5, x6, x7, x8, x9, x10, x11, x12, x13, x14, x15, x16, x17, x18, x19, x20, x21, x22, x23, x24, x25, x26, x27, x28, x29, x30, x31, x32, x33, x34, x35, x36, x37, x38, x39, x40, x41, x42, x43, x44, x45, x46, x47, x48, x49, x50, x51, x52, x53, x54, x55, x56, x57, x58, x59, x60, x61, x62, x63, x64, x65, x66], h⟩ (seqK Try.prog (evC Try.prog) c71_4 k) := codeK_seq _ _ _ _ _ (by kernel_rfl) _ _
theorem c71_3_eq {β : Type} (x0 x1 x2 x3 x4 x5 x6 x7 x8 x9 x10 x11 x12 x13 x14 x15 x16 x17 x18 x19 x20 x21 x22 x23 x24 x25 x26 x27 x28 x29 x30 x31 x32 x33 x34 x35 x36 x37 x38 x39 x40 x41 x42 x43 x44 x45 x46 x47 x48 x49 x50 x51 x52 x53 x54 x55 x56 x57 x58 x59 x60 x61 x62 x63 x64 x65 x66 : Value) (h : Heap) (k : Ex → St → Option β) : codeK Try.prog (evC Try.prog) loopL c71_3 ⟨#[x0, x1, x2, x3, x4, x5, x6, x7, x8, x9, x10, x11, x12, x13, x14, x15, x16, x17, x18, x19, x20, x21, x22, x23, x24, x25, x26, x27, x28, x29, x30, x31, x32, x33, x34, x35, x36, x37, x38, x39, x40, x41, x42, x43, x44, x45, x46, x47, x48, x49, x50, x51, x52, x53, x54, x55, x56, x57, x58, x59, x60, x61, x62, x63, x64, x65, x66], h⟩ k =
codeK Try.prog (evC Try.prog) loopL c71_5 ⟨#[x0, x1, x2, x3, x4, x5, x6, x7, x8, x9, x10, x11, x12, x13, x14, x15, x16, x17, x18, x19, x20, x21, x22, x23, x24, x25, x26, x27, x28, x29, x30, x31, x32, x33, x34, x35, x36, x37, x38, x39, x40, x41, x42, x43, x44, x45, x46, x47, x48, x49, x50, x51, x52, x53, x54, x55, x56, x57, x58, x59, x60, x61, x62, x63, x64, x65, x66], h⟩ (seqK Try.prog (evC Try.prog) c71_6 k) := codeK_seq _ _ _ _ _ (by kernel_rfl) _ _
theorem c71_4_eq {β : Type} (x0 x1 x2 x3 x4 x5 x6 x7 x8 x9 x10 x11 x12 x13 x14 x15 x16 x17 x18 x19 x20 x21 x22 x23 x24 x25 x26 x27 x28 x29 x30 x31 x32 x33 x34 x35 x36 x37 x38 x39 x40 x41 x42 x43 x44 x45 x46 x47 x48 x49 x50 x51 x52 x53 x54 x55 x56 x57 x58 x59 x60 x61 x62 x63 x64 x65 x66 : Value) (h : Heap) (k : Ex → St → Option β) : codeK Try.prog (evC Try.prog) loopL c71_4 ⟨#[x0, x1, x2, x3, x4, x5, x6, x7, x8, x9, x10, x11, x12, x13, x14, x15, x16, x17, x18, x19, x20, x21, x22, x23, x24, x25, x26, x27, x28, x29, x30, x31, x32, x33, x34, x35, x36, x37, x38, x39, x40, x41, x42, x43, x44, x45, x46, x47, x48, x49, x50, x51, x52, x53, x54, x55, x56, x57, x58, x59, x60, x61, x62, x63, x64, x65, x66], h⟩ k =
(fieldAddrV Try.prog 104 x1 3).bind fun t31_2 =>
(loadV Try.prog 3 t31_2 h).bind fun t32_3 =>
obH (evC Try.prog 111 #[t32_3, (Go.Value.int Go.IntKind.i64 0), (Go.Value.int Go.IntKind.i64 3)] h) fun t33_4 h5 =>
(unV Try.prog .not t33_4).bind fun t34_6 =>
(gd (wt t34_6 false) (loadV Try.prog 104 x1 h5)).bind fun t36_7 =>
obH (gdH (wt t34_6 false) h5 (evC Try.prog 113 #[t36_7] h5)) fun t37_8 h9 =>
(gd (wt t34_6 false) (unV Try.prog .not t37_8)).bind fun t38_10 =>
(pickV t34_6 (Go.Value.bool Bool.true) t38_10).bind fun t39_11 =>
(gd (wt t39_11 false) (fieldAddrV Try.prog 104 x1 9)).bind fun t41_12 =>
(gd (wt t39_11 false) (loadV Try.prog 23 t41_12 h9)).bind fun t42_13 =>
(gd (wt t39_11 false) (lenV Try.prog 23 t42_13 h9)).bind fun t43_14 =>
(gd (wt t39_11 false) (binV Try.prog .gtr 3 (.tmp 43) (.const (Go.Value.int Go.IntKind.i64 20000)) t43_14 (Go.Value.int Go.IntKind.i64 20000))).bind fun t44_15 =>
(pickV t39_11 (Go.Value.bool Bool.true) t44_15).bind fun t45_16 =>
cnd t45_16 (
k .ret ⟨#[x0, x1, (Go.Value.bool Bool.false), x3, x4, x5, x6, x7, x8, x9, x10, x11, x12, x13, x14, x15, x16, x17, x18, x19, x20, x21, x22, x23, x24, x25, x26, x27, x28, x29, x30, t31_2, t32_3, t33_4, t34_6, t34_6, t36_7, t37_8, t38_10, t39_11, t39_11, t41_12, t42_13, t43_14, t44_15, t45_16, x46, x47, x48, x49, x50, x51, x52, x53, x54, x55, x56, x57, x58, x59, x60, x61, x62, x63, x64, x65, x66], h9⟩) (
(fieldAddrV Try.prog 104 x1 3).bind fun t46_17 =>
(loadV Try.prog 3 t46_17 h9).bind fun t47_18 =>
(binV Try.prog .eql 3 (.tmp 47) (.const (Go.Value.int Go.IntKind.i64 0)) t47_18 (Go.Value.int Go.IntKind.i64 0)).bind fun t48_19 =>
cnd t48_19 (
(fieldAddrV Try.prog 104 x1 8).bind fun t49_20 =>
(loadV Try.prog 23 t49_20 h9).bind fun t50_21 =>
(lenV Try.prog 23 t50_21 h9).bind fun t51_22 =>
(binV Try.prog .leq 3 (.tmp 51) (.const (Go.Value.int Go.IntKind.i64 256)) t51_22 (Go.Value.int Go.IntKind.i64 256)).bind fun t52_23 =>
(gd (wt t52_23 true) (fieldAddrV Try.prog 104 x1 4)).bind fun t54_24 =>
(gd (wt t52_23 true) (loadV Try.prog 3 t54_24 h9)).bind fun t55_25 =>
(gd (wt t52_23 true) (binV Try.prog .eql 3 (.tmp 55) (.const (Go.Value.int Go.IntKind.i64 0)) t55_25 (Go.Value.int Go.IntKind.i64 0))).bind fun t56_26 =>
(pickV t52_23 t56_26 (Go.Value.bool Bool.false)).bind fun t57_27 =>
k .ret ⟨#[x0, x1, t57_27, x3, x4, x5, x6, x7, x8, x9, x10, x11, x12, x13, x14, x15, x16, x17, x18, x19, x20, x21, x22, x23, x24, x25, x26, x27, x28, x29, x30, t31_2, t32_3, t33_4, t34_6, t34_6, t36_7, t37_8, t38_10, t39_11, t39_11, t41_12, t42_13, t43_14, t44_15, t45_16, t46_17, t47_18, t48_19, t49_20, t50_21, t51_22, t52_23, t52_23, t54_24, t55_25, t56_26, t57_27, x58, x59, x60, x61, x62, x63, x64, x65, x66], h9⟩) (
(fieldAddrV Try.prog 104 x1 8).bind fun t58_28 =>
(loadV Try.prog 23 t58_28 h9).bind fun t59_29 =>
(lenV Try.prog 23 t59_29 h9).bind fun t60_30 =>
(binV Try.prog .eql 3 (.tmp 60) (.const (Go.Value.int Go.IntKind.i64 0)) t60_30 (Go.Value.int Go.IntKind.i64 0)).bind fun t61_31 =>
(gd (wt t61_31 true) (fieldAddrV Try.prog 104 x1 4)).bind fun t63_32 =>
(gd (wt t61_31 true) (loadV Try.prog 3 t63_32 h9)).bind fun t64_33 =>
obH (gdH (wt t61_31 true) h9 (evC Try.prog 111 #[t64_33, (Go.Value.int Go.IntKind.i64 0), (Go.Value.int Go.IntKind.i64 15)] h9)) fun t65_34 h35 =>
(pickV t61_31 t65_34 (Go.Value.bool Bool.false)).bind fun t66_36 =>
k .ret ⟨#[x0, x1, t66_36, x3, x4, x5, x6, x7, x8, x9, x10, x11, x12, x13, x14, x15, x16, x17, x18, x19, x20, x21, x22, x23, x24, x25, x26, x27, x28, x29, x30, t31_2, t32_3, t33_4, t34_6, t34_6, t36_7, t37_8, t38_10, t39_11, t39_11, t41_12, t42_13, t43_14, t44_15, t45_16, t46_17, t47_18, t48_19, x49, x50, x51, x52, x53, x54, x55, x56, x57, t58_28, t59_29, t60_30, t61_31, t61_31, t63_32, t64_33, t65_34, t66_36], h35⟩)) := by kernel_rfl
theorem d71_0_0 {β : Type} (x0 x1 x2 x3 x4 x5 x6 x7 x8 x9 x10 x11 x12 x13 x14 x15 x16 x17 x18 x19 x20 x21 x22 x23 x24 x25 x26 x27 x28 x29 x30 x31 x32 x33 x34 x35 x36 x37 x38 x39 x40 x41 x42 x43 x44 x45 x46 x47 x48 x49 x50 x51 x52 x53 x54 x55 x56 x57 x58 x59 x60 x61 x62 x63 x64 x65 x66 : Value) (h : Heap) (r m : List Nat) (k : St → Option β) : regD Try.prog (evC Try.prog) d71_0 0 ⟨#[x0, x1, x2, x3, x4, x5, x6, x7, x8, x9, x10, x11, x12, x13, x14, x15, x16, x17, x18, x19, x20, x21, x22, x23, x24, x25, x26, x27, x28, x29, x30, x31, x32, x33, x34, x35, x36, x37, x38, x39, x40, x41, x42, x43, x44, x45, x46, x47, x48, x49, x50, x51, x52, x53, x54, x55, x56, x57, x58, x59, x60, x61, x62, x63, x64, x65, x66], h⟩ r m k =
(fieldAddrV Try.prog 104 x1 0).bind fun t3_37 =>
regD Try.prog (evC Try.prog) d71_0 1 ⟨#[x0, x1, x2, t3_37, x4, x5, x6, x7, x8, x9, x10, x11, x12, x13, x14, x15, x16, x17, x18, x19, x20, x21, x22, x23, x24, x25, x26, x27, x28, x29, x30, x31, x32, x33, x34, x35, x36, x37, x38, x39, x40, x41, x42, x43, x44, x45, x46, x47, x48, x49, x50, x51, x52, x53, x54, x55, x56, x57, x58, x59, x60, x61, x62, x63, x64, x65, x66], h⟩ r m k := (regD_step _ _ d71_0 0 (by kernel_rfl) _ _ _ _).trans (by kernel_rfl)
theorem d71_0_1 {β : Type} (x0 x1 x2 x3 x4 x5 x6 x7 x8 x9 x10 x11 x12 x13 x14 x15 x16 x17 x18 x19 x20 x21 x22 x23 x24 x25 x26 x27 x28 x29 x30 x31 x32 x33 x34 x35 x36 x37 x38 x39 x40 x41 x42 x43 x44 x45 x46 x47 x48 x49 x50 x51 x52 x53 x54 x55 x56 x57 x58 x59 x60 x61 x62 x63 x64 x65 x66 : Value) (h : Heap) (r m : List Nat) (k : St → Option β) : regD Try.prog (evC Try.prog) d71_0 1 ⟨#[x0, x1, x2, x3, x4, x5, x6, x7, x8, x9, x10, x11, x12, x13, x14, x15, x16, x17, x18, x19, x20, x21, x22, x23, x24, x25, x26, x27, x28, x29, x30, x31, x32, x33, x34, x35, x36, x37, x38, x39, x40, x41, x42, x43, x44, x45, x46, x47, x48, x49, x50, x51, x52, x53, x54, x55, x56, x57, x58, x59, x60, x61, x62, x63, x64, x65, x66], h⟩ r m k =
(loadV Try.prog 3 x3 h).bind fun t4_38 =>
regD Try.prog (evC Try.prog) d71_0 2 ⟨#[x0, x1, x2, x3, t4_38, x5, x6, x7, x8, x9, x10, x11, x12, x13, x14, x15, x16, x17, x18, x19, x20, x21, x22, x23, x24, x25, x26, x27, x28, x29, x30, x31, x32, x33, x34, x35, x36, x37, x38, x39, x40, x41, x42, x43, x44, x45, x46, x47, x48, x49, x50, x51, x52, x53, x54, x55, x56, x57, x58, x59, x60, x61, x62, x63, x64, x65, x66], h⟩ r m k := (regD_step _ _ d71_0 1 (by kernel_rfl) _ _ _ _).trans (by kernel_rfl)
theorem d71_0_2 {β : Type} (x0 x1 x2 x3 x4 x5 x6 x7 x8 x9 x10 x11 x12 x13 x14 x15 x16 x17 x18 x19 x20 x21 x22 x23 x24 x25 x26 x27 x28 x29 x30 x31 x32 x33 x34 x35 x36 x37 x38 x39 x40 x41 x42 x43 x44 x45 x46 x47 x48 x49 x50 x51 x52 x53 x54 x55 x56 x57 x58 x59 x60 x61 x62 x63 x64 x65 x66 : Value) (h : Heap) (r m : List Nat) (k : St → Option β) : regD Try.prog (evC Try.prog) d71_0 2 ⟨#[x0, x1, x2, x3, x4, x5, x6, x7, x8, x9, x10, x11, x12, x13, x14, x15, x16, x17, x18, x19, x20, x21, x22, x23, x24, x25, x26, x27, x28, x29, x30, x31, x32, x33, x34, x35, x36, x37, x38, x39, x40, x41, x42, x43, x44, x45, x46, x47, x48, x49, x50, x51, x52, x53, x54, x55, x56, x57, x58, x59, x60, x61, x62, x63, x64, x65, x66], h⟩ r m k =
obH (evC Try.prog 111 #[x4, (Go.Value.int Go.IntKind.i64 0), (Go.Value.int Go.IntKind.i64 15)] h) fun t5_39 h40 =>
regD Try.prog (evC Try.prog) d71_0 3 ⟨#[x0, x1, x2, x3, x4, t5_39, x6, x7, x8, x9, x10, x11, x12, x13, x14, x15, x16, x17, x18, x19, x20, x21, x22, x23, x24, x25, x26, x27, x28, x29, x30, x31, x32, x33, x34, x35, x36, x37, x38, x39, x40, x41, x42, x43, x44, x45, x46, x47, x48, x49, x50, x51, x52, x53, x54, x55, x56, x57, x58, x59, x60, x61, x62, x63, x64, x65, x66], h40⟩ r m k := (regD_step _ _ d71_0 2 (by kernel_rfl) _ _ _ _).trans (by kernel_rfl)
theorem d71_0_3 {β : Type} (x0 x1 x2 x3 x4 x5 x6 x7 x8 x9 x10 x11 x12 x13 x14 x15 x16 x17 x18 x19 x20 x21 x22 x23 x24 x25 x26 x27 x28 x29 x30 x31 x32 x33 x34 x35 x36 x37 x38 x39 x40 x41 x42 x43 x44 x45 x46 x47 x48 x49 x50 x51 x52 x53 x54 x55 x56 x57 x58 x59 x60 x61 x62 x63 x64 x65 x66 : Value) (h : Heap) (r m : List Nat) (k : St → Option β) : regD Try.prog (evC Try.prog) d71_0 3 ⟨#[x0, x1, x2, x3, x4, x5, x6, x7, x8, x9, x10, x11, x12, x13, x14, x15, x16, x17, x18, x19, x20, x21, x22, x23, x24, x25, x26, x27, x28, x29, x30, x31, x32, x33, x34, x35, x36, x37, x38, x39, x40, x41, x42, x43, x44, x45, x46, x47, x48, x49, x50, x51, x52, x53, x54, x55, x56, x57, x58, x59, x60, x61, x62, x63, x64, x65, x66], h⟩ r m k =
(unV Try.prog .not x5).bind fun t6_41 =>
regD Try.prog (evC Try.prog) d71_0 4 ⟨#[x0, x1, x2, x3, x4, x5, t6_41, x7, x8, x9, x10, x11, x12, x13, x14, x15, x16, x17, x18, x19, x20, x21, x22, x23, x24, x25, x26, x27, x28, x29, x30, x31, x32, x33, x34, x35, x36, x37, x38, x39, x40, x41, x42, x43, x44, x45, x46, x47, x48, x49, x50, x51, x52, x53, x54, x55, x56, x57, x58, x59, x60, x61, x62, x63, x64, x65, x66], h⟩ r m k := (regD_step _ _ d71_0 3 (by kernel_rfl) _ _ _ _).trans (by kernel_rfl)
theorem d71_0_4 {β : Type} (x0 x1 x2 x3 x4 x5 x6 x7 x8 x9 x10 x11 x12 x13 x14 x15 x16 x17 x18 x19 x20 x21 x22 x23 x24 x25 x26 x27 x28 x29 x30 x31 x32 x33 x34 x35 x36 x37 x38 x39 x40 x41 x42 x43 x44 x45 x46 x47 x48 x49 x50 x51 x52 x53 x54 x55 x56 x57 x58 x59 x60 x61 x62 x63 x64 x65 x66 : Value) (h : Heap) (r m : List Nat) (k : St → Option β) : regD Try.prog (evC Try.prog) d71_0 4 ⟨#[x0, x1, x2, x3, x4, x5, x6, x7, x8, x9, x10, x11, x12, x13, x14, x15, x16, x17, x18, x19, x20, x21, x22, x23, x24, x25, x26, x27, x28, x29, x30, x31, x32, x33, x34, x35, x36, x37, x38, x39, x40, x41, x42, x43, x44, x45, x46, x47, x48, x49, x50, x51, x52, x53, x54, x55, x56, x57, x58, x59, x60, x61, x62, x63, x64, x65, x66], h⟩ r m k =
regD Try.prog (evC Try.prog) d71_0 5 ⟨#[x0, x1, x2, x3, x4, x5, x6, x6, x8, x9, x10, x11, x12, x13, x14, x15, x16, x17, x18, x19, x20, x21, x22, x23, x24, x25, x26, x27, x28, x29, x30, x31, x32, x33, x34, x35, x36, x37, x38, x39, x40, x41, x42, x43, x44, x45, x46, x47, x48, x49, x50, x51, x52, x53, x54, x55, x56, x57, x58, x59, x60, x61, x62, x63, x64, x65, x66], h⟩ r m k := regD_move _ _ d71_0 4 (by kernel_rfl) (by kernel_rfl) (by kernel_rfl) _ _ _ _ _ _ (by kernel_rfl) (by kernel_rfl)
theorem d71_0_5 {β : Type} (x0 x1 x2 x3 x4 x5 x6 x7 x8 x9 x10 x11 x12 x13 x14 x15 x16 x17 x18 x19 x20 x21 x22 x23 x24 x25 x26 x27 x28 x29 x30 x31 x32 x33 x34 x35 x36 x37 x38 x39 x40 x41 x42 x43 x44 x45 x46 x47 x48 x49 x50 x51 x52 x53 x54 x55 x56 x57 x58 x59 x60 x61 x62 x63 x64 x65 x66 : Value) (h : Heap) (r m : List Nat) (k : St → Option β) : regD Try.prog (evC Try.prog) d71_0 5 ⟨#[x0, x1, x2, x3, x4, x5, x6, x7, x8, x9, x10, x11, x12, x13, x14, x15, x16, x17, x18, x19, x20, x21, x22, x23, x24, x25, x26, x27, x28, x29, x30, x31, x32, x33, x34, x35, x36, x37, x38, x39, x40, x41, x42, x43, x44, x45, x46, x47, x48, x49, x50, x51, x52, x53, x54, x55, x56, x57, x58, x59, x60, x61, x62, x63, x64, x65, x66], h⟩ r m k =
(gd (wt x7 false) (fieldAddrV Try.prog 104 x1 1)).bind fun t8_42 =>
regD Try.prog (evC Try.prog) d71_0 6 ⟨#[x0, x1, x2, x3, x4, x5, x6, x7, t8_42, x9, x10, x11, x12, x13, x14, x15, x16, x17, x18, x19, x20, x21, x22, x23, x24, x25, x26, x27, x28, x29, x30, x31, x32, x33, x34, x35, x36, x37, x38, x39, x40, x41, x42, x43, x44, x45, x46, x47, x48, x49, x50, x51, x52, x53, x54, x55, x56, x57, x58, x59, x60, x61, x62, x63, x64, x65, x66], h⟩ r m k := (regD_step _ _ d71_0 5 (by kernel_rfl) _ _ _ _).trans (by kernel_rfl)
theorem d71_0_6 {β : Type} (x0 x1 x2 x3 x4 x5 x6 x7 x8 x9 x10 x11 x12 x13 x14 x15 x16 x17 x18 x19 x20 x21 x22 x23 x24 x25 x26 x27 x28 x29 x30 x31 x32 x33 x34 x35 x36 x37 x38 x39 x40 x41 x42 x43 x44 x45 x46 x47 x48 x49 x50 x51 x52 x53 x54 x55 x56 x57 x58 x59 x60 x61 x62 x63 x64 x65 x66 : Value) (h : Heap) (r m : List Nat) (k : St → Option β) : regD Try.prog (evC Try.prog) d71_0 6 ⟨#[x0, x1, x2, x3, x4, x5, x6, x7, x8, x9, x10, x11, x12, x13, x14, x15, x16, x17, x18, x19, x20, x21, x22, x23, x24, x25, x26, x27, x28, x29, x30, x31, x32, x33, x34, x35, x36, x37, x38, x39, x40, x41, x42, x43, x44, x45, x46, x47, x48, x49, x50, x51, x52, x53, x54, x55, x56, x57, x58, x59, x60, x61, x62, x63, x64, x65, x66], h⟩ r m k =
(gd (wt x7 false) (loadV Try.prog 46 x8 h)).bind fun t9_43 =>
regD Try.prog (evC Try.prog) d71_0 7 ⟨#[x0, x1, x2, x3, x4, x5, x6, x7, x8, t9_43, x10, x11, x12, x13, x14, x15, x16, x17, x18, x19, x20, x21, x22, x23, x24, x25, x26, x27, x28, x29, x30, x31, x32, x33, x34, x35, x36, x37, x38, x39, x40, x41, x42, x43, x44, x45, x46, x47, x48, x49, x50, x51, x52, x53, x54, x55, x56, x57, x58, x59, x60, x61, x62, x63, x64, x65, x66], h⟩ r m k := (regD_step _ _ d71_0 6 (by kernel_rfl) _ _ _ _).trans (by kernel_rfl)
theorem d71_0_7 {β : Type} (x0 x1 x2 x3 x4 x5 x6 x7 x8 x9 x10 x11 x12 x13 x14 x15 x16 x17 x18 x19 x20 x21 x22 x23 x24 x25 x26 x27 x28 x29 x30 x31 x32 x33 x34 x35 x36 x37 x38 x39 x40 x41 x42 x43 x44 x45 x46 x47 x48 x49 x50 x51 x52 x53 x54 x55 x56 x57 x58 x59 x60 x61 x62 x63 x64 x65 x66 : Value) (h : Heap) (r m : List Nat) (k : St → Option β) : regD Try.prog (evC Try.prog) d71_0 7 ⟨#[x0, x1, x2, x3, x4, x5, x6, x7, x8, x9, x10, x11, x12, x13, x14, x15, x16, x17, x18, x19, x20, x21, x22, x23, x24, x25, x26, x27, x28, x29, x30, x31, x32, x33, x34, x35, x36, x37, x38, x39, x40, x41, x42, x43, x44, x45, x46, x47, x48, x49, x50, x51, x52, x53, x54, x55, x56, x57, x58, x59, x60, x61, x62, x63, x64, x65, x66], h⟩ r m k =
(gd (wt x7 false) (binV Try.prog .lss 46 (.tmp 9) (.const (Go.Value.int Go.IntKind.u64 1)) x9 (Go.Value.int Go.IntKind.u64 1))).bind fun t10_44 =>
regD Try.prog (evC Try.prog) d71_0 8 ⟨#[x0, x1, x2, x3, x4, x5, x6, x7, x8, x9, t10_44, x11, x12, x13, x14, x15, x16, x17, x18, x19, x20, x21, x22, x23, x24, x25, x26, x27, x28, x29, x30, x31, x32, x33, x34, x35, x36, x37, x38, x39, x40, x41, x42, x43, x44, x45, x46, x47, x48, x49, x50, x51, x52, x53, x54, x55, x56, x57, x58, x59, x60, x61, x62, x63, x64, x65, x66], h⟩ r m k := (regD_step _ _ d71_0 7 (by kernel_rfl) _ _ _ _).trans (by kernel_rfl)
theorem d71_0_8 {β : Type} (x0 x1 x2 x3 x4 x5 x6 x7 x8 x9 x10 x11 x12 x13 x14 x15 x16 x17 x18 x19 x20 x21 x22 x23 x24 x25 x26 x27 x28 x29 x30 x31 x32 x33 x34 x35 x36 x37 x38 x39 x40 x41 x42 x43 x44 x45 x46 x47 x48 x49 x50 x51 x52 x53 x54 x55 x56 x57 x58 x59 x60 x61 x62 x63 x64 x65 x66 : Value) (h : Heap) (r m : List Nat) (k : St → Option β) : regD Try.prog (evC Try.prog) d71_0 8 ⟨#[x0, x1, x2, x3, x4, x5, x6, x7, x8, x9, x10, x11, x12, x13, x14, x15, x16, x17, x18, x19, x20, x21, x22, x23, x24, x25, x26, x27, x28, x29, x30, x31, x32, x33, x34, x35, x36, x37, x38, x39, x40, x41, x42, x43, x44, x45, x46, x47, x48, x49, x50, x51, x52, x53, x54, x55, x56, x57, x58, x59, x60, x61, x62, x63, x64, x65, x66], h⟩ r m k =
(pickV x7 (Go.Value.bool Bool.true) x10).bind fun t11_45 =>
regD Try.prog (evC Try.prog) d71_0 9 ⟨#[x0, x1, x2, x3, x4, x5, x6, x7, x8, x9, x10, t11_45, x12, x13, x14, x15, x16, x17, x18, x19, x20, x21, x22, x23, x24, x25, x26, x27, x28, x29, x30, x31, x32, x33, x34, x35, x36, x37, x38, x39, x40, x41, x42, x43, x44, x45, x46, x47, x48, x49, x50, x51, x52, x53, x54, x55, x56, x57, x58, x59, x60, x61, x62, x63, x64, x65, x66], h⟩ r m k := (regD_step _ _ d71_0 8 (by kernel_rfl) _ _ _ _).trans (by kernel_rfl)
theorem d71_0_9 {β : Type} (x0 x1 x2 x3 x4 x5 x6 x7 x8 x9 x10 x11 x12 x13 x14 x15 x16 x17 x18 x19 x20 x21 x22 x23 x24 x25 x26 x27 x28 x29 x30 x31 x32 x33 x34 x35 x36 x37 x38 x39 x40 x41 x42 x43 x44 x45 x46 x47 x48 x49 x50 x51 x52 x53 x54 x55 x56 x57 x58 x59 x60 x61 x62 x63 x64 x65 x66 : Value) (h : Heap) (r m : List Nat) (k : St → Option β) : regD Try.prog (evC Try.prog) d71_0 9 ⟨#[x0, x1, x2, x3, x4, x5, x6, x7, x8, x9, x10, x11, x12, x13, x14, x15, x16, x17, x18, x19, x20, x21, x22, x23, x24, x25, x26, x27, x28, x29, x30, x31, x32, x33, x34, x35, x36, x37, x38, x39, x40, x41, x42, x43, x44, x45, x46, x47, x48, x49, x50, x51, x52, x53, x54, x55, x56, x57, x58, x59, x60, x61, x62, x63, x64, x65, x66], h⟩ r m k =
regD Try.prog (evC Try.prog) d71_0 10 ⟨#[x0, x1, x2, x3, x4, x5, x6, x7, x8, x9, x10, x11, x11, x13, x14, x15, x16, x17, x18, x19, x20, x21, x22, x23, x24, x25, x26, x27, x28, x29, x30, x31, x32, x33, x34, x35, x36, x37, x38, x39, x40, x41, x42, x43, x44, x45, x46, x47, x48, x49, x50, x51, x52, x53, x54, x55, x56, x57, x58, x59, x60, x61, x62, x63, x64, x65, x66], h⟩ r m k := regD_move _ _ d71_0 9 (by kernel_rfl) (by kernel_rfl) (by kernel_rfl) _ _ _ _ _ _ (by kernel_rfl) (by kernel_rfl)
theorem d71_0_10 {β : Type} (x0 x1 x2 x3 x4 x5 x6 x7 x8 x9 x10 x11 x12 x13 x14 x15 x16 x17 x18 x19 x20 x21 x22 x23 x24 x25 x26 x27 x28 x29 x30 x31 x32 x33 x34 x35 x36 x37 x38 x39 x40 x41 x42 x43 x44 x45 x46 x47 x48 x49 x50 x51 x52 x53 x54 x55 x56 x57 x58 x59 x60 x61 x62 x63 x64 x65 x66 : Value) (h : Heap) (r m : List Nat) (k : St → Option β) : regD Try.prog (evC Try.prog) d71_0 10 ⟨#[x0, x1, x2, x3, x4, x5, x6, x7, x8, x9, x10, x11, x12, x13, x14, x15, x16, x17, x18, x19, x20, x21, x22, x23, x24, x25, x26, x27, x28, x29, x30, x31, x32, x33, x34, x35, x36, x37, x38, x39, x40, x41, x42, x43, x44, x45, x46, x47, x48, x49, x50, x51, x52, x53, x54, x55, x56, x57, x58, x59, x60, x61, x62, x63, x64, x65, x66], h⟩ r m k =
(gd (wt x12 false) (fieldAddrV Try.prog 104 x1 2)).bind fun t13_46 =>
regD Try.prog (evC Try.prog) d71_0 11 ⟨#[x0, x1, x2, x3, x4, x5, x6, x7, x8, x9, x10, x11, x12, t13_46, x14, x15, x16, x17, x18, x19, x20, x21, x22, x23, x24, x25, x26, x27, x28, x29, x30, x31, x32, x33, x34, x35, x36, x37, x38, x39, x40, x41, x42, x43, x44, x45, x46, x47, x48, x49, x50, x51, x52, x53, x54, x55, x56, x57, x58, x59, x60, x61, x62, x63, x64, x65, x66], h⟩ r m k := (regD_step _ _ d71_0 10 (by kernel_rfl) _ _ _ _).trans (by kernel_rfl)
theorem d71_0_11 {β : Type} (x0 x1 x2 x3 x4 x5 x6 x7 x8 x9 x10 x11 x12 x13 x14 x15 x16 x17 x18 x19 x20 x21 x22 x23 x24 x25 x26 x27 x28 x29 x30 x31 x32 x33 x34 x35 x36 x37 x38 x39 x40 x41 x42 x43 x44 x45 x46 x47 x48 x49 x50 x51 x52 x53 x54 x55 x56 x57 x58 x59 x60 x61 x62 x63 x64 x65 x66 : Value) (h : Heap) (r m : List Nat) (k : St → Option β) : regD Try.prog (evC Try.prog) d71_0 11 ⟨#[x0, x1, x2, x3, x4, x5, x6, x7, x8, x9, x10, x11, x12, x13, x14, x15, x16, x17, x18, x19, x20, x21, x22, x23, x24, x25, x26, x27, x28, x29, x30, x31, x32, x33, x34, x35, x36, x37, x38, x39, x40, x41, x42, x43, x44, x45, x46, x47, x48, x49, x50, x51, x52, x53, x54, x55, x56, x57, x58, x59, x60, x61, x62, x63, x64, x65, x66], h⟩ r m k =
(gd (wt x12 false) (loadV Try.prog 47 x13 h)).bind fun t14_47 =>
regD Try.prog (evC Try.prog) d71_0 12 ⟨#[x0, x1, x2, x3, x4, x5, x6, x7, x8, x9, x10, x11, x12, x13, t14_47, x15, x16, x17, x18, x19, x20, x21, x22, x23, x24, x25, x26, x27, x28, x29, x30, x31, x32, x33, x34, x35, x36, x37, x38, x39, x40, x41, x42, x43, x44, x45, x46, x47, x48, x49, x50, x51, x52, x53, x54, x55, x56, x57, x58, x59, x60, x61, x62, x63, x64, x65, x66], h⟩ r m k := (regD_step _ _ d71_0 11 (by kernel_rfl) _ _ _ _).trans (by kernel_rfl)
theorem d71_0_12 {β : Type} (x0 x1 x2 x3 x4 x5 x6 x7 x8 x9 x10 x11 x12 x13 x14 x15 x16 x17 x18 x19 x20 x21 x22 x23 x24 x25 x26 x27 x28 x29 x30 x31 x32 x33 x34 x35 x36 x37 x38 x39 x40 x41 x42 x43 x44 x45 x46 x47 x48 x49 x50 x51 x52 x53 x54 x55 x56 x57 x58 x59 x60 x61 x62 x63 x64 x65 x66 : Value) (h : Heap) (r m : List Nat) (k : St → Option β) : regD Try.prog (evC Try.prog) d71_0 12 ⟨#[x0, x1, x2, x3, x4, x5, x6, x7, x8, x9, x10, x11, x12, x13, x14, x15, x16, x17, x18, x19, x20, x21, x22, x23, x24, x25, x26, x27, x28, x29, x30, x31, x32, x33, x34, x35, x36, x37, x38, x39, x40, x41, x42, x43, x44, x45, x46, x47, x48, x49, x50, x51, x52, x53, x54, x55, x56, x57, x58, x59, x60, x61, x62, x63, x64, x65, x66], h⟩ r m k =
(gd (wt x12 false) (binV Try.prog .eql 47 (.tmp 14) (.const (Go.Value.int Go.IntKind.u64 0)) x14 (Go.Value.int Go.IntKind.u64 0))).bind fun t15_48 =>
regD Try.prog (evC Try.prog) d71_0 13 ⟨#[x0, x1, x2, x3, x4, x5, x6, x7, x8, x9, x10, x11, x12, x13, x14, t15_48, x16, x17, x18, x19, x20, x21, x22, x23, x24, x25, x26, x27, x28, x29, x30, x31, x32, x33, x34, x35, x36, x37, x38, x39, x40, x41, x42, x43, x44, x45, x46, x47, x48, x49, x50, x51, x52, x53, x54, x55, x56, x57, x58, x59, x60, x61, x62, x63, x64, x65, x66], h⟩ r m k := (regD_step _ _ d71_0 12 (by kernel_rfl) _ _ _ _).trans (by kernel_rfl)
theorem d71_0_13 {β : Type} (x0 x1 x2 x3 x4 x5 x6 x7 x8 x9 x10 x11 x12 x13 x14 x15 x16 x17 x18 x19 x20 x21 x22 x23 x24 x25 x26 x27 x28 x29 x30 x31 x32 x33 x34 x35 x36 x37 x38 x39 x40 x41 x42 x43 x44 x45 x46 x47 x48 x49 x50 x51 x52 x53 x54 x55 x56 x57 x58 x59 x60 x61 x62 x63 x64 x65 x66 : Value) (h : Heap) (r m : List Nat) (k : St → Option β) : regD Try.prog (evC Try.prog) d71_0 13 ⟨#[x0, x1, x2, x3, x4, x5, x6, x7, x8, x9, x10, x11, x12, x13, x14, x15, x16, x17, x18, x19, x20, x21, x22, x23, x24, x25, x26, x27, x28, x29, x30, x31, x32, x33, x34, x35, x36, x37, x38, x39, x40, x41, x42, x43, x44, x45, x46, x47, x48, x49, x50, x51, x52, x53, x54, x55, x56, x57, x58, x59, x60, x61, x62, x63, x64, x65, x66], h⟩ r m k =
(pickV x12 (Go.Value.bool Bool.true) x15).bind fun t16_49 =>
regD Try.prog (evC Try.prog) d71_0 14 ⟨#[x0, x1, x2, x3, x4, x5, x6, x7, x8, x9, x10, x11, x12, x13, x14, x15, t16_49, x17, x18, x19, x20, x21, x22, x23, x24, x25, x26, x27, x28, x29, x30, x31, x32, x33, x34, x35, x36, x37, x38, x39, x40, x41, x42, x43, x44, x45, x46, x47, x48, x49, x50, x51, x52, x53, x54, x55, x56, x57, x58, x59, x60, x61, x62, x63, x64, x65, x66], h⟩ r m k := (regD_step _ _ d71_0 13 (by kernel_rfl) _ _ _ _).trans (by kernel_rfl)
theorem d71_0_14 {β : Type} (x0 x1 x2 x3 x4 x5 x6 x7 x8 x9 x10 x11 x12 x13 x14 x15 x16 x17 x18 x19 x20 x21 x22 x23 x24 x25 x26 x27 x28 x29 x30 x31 x32 x33 x34 x35 x36 x37 x38 x39 x40 x41 x42 x43 x44 x45 x46 x47 x48 x49 x50 x51 x52 x53 x54 x55 x56 x57 x58 x59 x60 x61 x62 x63 x64 x65 x66 : Value) (h : Heap) (r m : List Nat) (k : St → Option β) : regD Try.prog (evC Try.prog) d71_0 14 ⟨#[x0, x1, x2, x3, x4, x5, x6, x7, x8, x9, x10, x11, x12, x13, x14, x15, x16, x17, x18, x19, x20, x21, x22, x23, x24, x25, x26, x27, x28, x29, x30, x31, x32, x33, x34, x35, x36, x37, x38, x39, x40, x41, x42, x43, x44, x45, x46, x47, x48, x49, x50, x51, x52, x53, x54, x55, x56, x57, x58, x59, x60, x61, x62, x63, x64, x65, x66], h⟩ r m k =
regD Try.prog (evC Try.prog) d71_0 15 ⟨#[x0, x1, x2, x3, x4, x5, x6, x7, x8, x9, x10, x11, x12, x13, x14, x15, x16, x16, x18, x19, x20, x21, x22, x23, x24, x25, x26, x27, x28, x29, x30, x31, x32, x33, x34, x35, x36, x37, x38, x39, x40, x41, x42, x43, x44, x45, x46, x47, x48, x49, x50, x51, x52, x53, x54, x55, x56, x57, x58, x59, x60, x61, x62, x63, x64, x65, x66], h⟩ r m k := regD_move _ _ d71_0 14 (by kernel_rfl) (by kernel_rfl) (by kernel_rfl) _ _ _ _ _ _ (by kernel_rfl) (by kernel_rfl)
theorem d71_0_15 {β : Type} (x0 x1 x2 x3 x4 x5 x6 x7 x8 x9 x10 x11 x12 x13 x14 x15 x16 x17 x18 x19 x20 x21 x22 x23 x24 x25 x26 x27 x28 x29 x30 x31 x32 x33 x34 x35 x36 x37 x38 x39 x40 x41 x42 x43 x44 x45 x46 x47 x48 x49 x50 x51 x52 x53 x54 x55 x56 x57 x58 x59 x60 x61 x62 x63 x64 x65 x66 : Value) (h : Heap) (r m : List Nat) (k : St → Option β) : regD Try.prog (evC Try.prog) d71_0 15 ⟨#[x0, x1, x2, x3, x4, x5, x6, x7, x8, x9, x10, x11, x12, x13, x14, x15, x16, x17, x18, x19, x20, x21, x22, x23, x24, x25, x26, x27, x28, x29, x30, x31, x32, x33, x34, x35, x36, x37, x38, x39, x40, x41, x42, x43, x44, x45, x46, x47, x48, x49, x50, x51, x52, x53, x54, x55, x56, x57, x58, x59, x60, x61, x62, x63, x64, x65, x66], h⟩ r m k =
(gd (wt x17 false) (fieldAddrV Try.prog 104 x1 2)).bind fun t18_50 =>
regD Try.prog (evC Try.prog) d71_0 16 ⟨#[x0, x1, x2, x3, x4, x5, x6, x7, x8, x9, x10, x11, x12, x13, x14, x15, x16, x17, t18_50, x19, x20, x21, x22, x23, x24, x25, x26, x27, x28, x29, x30, x31, x32, x33, x34, x35, x36, x37, x38, x39, x40, x41, x42, x43, x44, x45, x46, x47, x48, x49, x50, x51, x52, x53, x54, x55, x56, x57, x58, x59, x60, x61, x62, x63, x64, x65, x66], h⟩ r m k := (regD_step _ _ d71_0 15 (by kernel_rfl) _ _ _ _).trans (by kernel_rfl)
theorem d71_0_16 {β : Type} (x0 x1 x2 x3 x4 x5 x6 x7 x8 x9 x10 x11 x12 x13 x14 x15 x16 x17 x18 x19 x20 x21 x22 x23 x24 x25 x26 x27 x28 x29 x30 x31 x32 x33 x34 x35 x36 x37 x38 x39 x40 x41 x42 x43 x44 x45 x46 x47 x48 x49 x50 x51 x52 x53 x54 x55 x56 x57 x58 x59 x60 x61 x62 x63 x64 x65 x66 : Value) (h : Heap) (r m : List Nat) (k : St → Option β) : regD Try.prog (evC Try.prog) d71_0 16 ⟨#[x0, x1, x2, x3, x4, x5, x6, x7, x8, x9, x10, x11, x12, x13, x14, x15, x16, x17, x18, x19, x20, x21, x22, x23, x24, x25, x26, x27, x28, x29, x30, x31, x32, x33, x34, x35, x36, x37, x38, x39, x40, x41, x42, x43, x44, x45, x46, x47, x48, x49, x50, x51, x52, x53, x54, x55, x56, x57, x58, x59, x60, x61, x62, x63, x64, x65, x66], h⟩ r m k =
(gd (wt x17 false) (loadV Try.prog 47 x18 h)).bind fun t19_51 =>
regD Try.prog (evC Try.prog) d71_0 17 ⟨#[x0, x1, x2, x3, x4, x5, x6, x7, x8, x9, x10, x11, x12, x13, x14, x15, x16, x17, x18, t19_51, x20, x21, x22, x23, x24, x25, x26, x27, x28, x29, x30, x31, x32, x33, x34, x35, x36, x37, x38, x39, x40, x41, x42, x43, x44, x45, x46, x47, x48, x49, x50, x51, x52, x53, x54, x55, x56, x57, x58, x59, x60, x61, x62, x63, x64, x65, x66], h⟩ (rdL (wt x17 false) (rb x18) ++ r) m k := (regD_step _ _ d71_0 16 (by kernel_rfl) _ _ _ _).trans (by kernel_rfl)
theorem d71_0_17 {β : Type} (x0 x1 x2 x3 x4 x5 x6 x7 x8 x9 x10 x11 x12 x13 x14 x15 x16 x17 x18 x19 x20 x21 x22 x23 x24 x25 x26 x27 x28 x29 x30 x31 x32 x33 x34 x35 x36 x37 x38 x39 x40 x41 x42 x43 x44 x45 x46 x47 x48 x49 x50 x51 x52 x53 x54 x55 x56 x57 x58 x59 x60 x61 x62 x63 x64 x65 x66 : Value) (h : Heap) (r m : List Nat) (k : St → Option β) : regD Try.prog (evC Try.prog) d71_0 17 ⟨#[x0, x1, x2, x3, x4, x5, x6, x7, x8, x9, x10, x11, x12, x13, x14, x15, x16, x17, x18, x19, x20, x21, x22, x23, x24, x25, x26, x27, x28, x29, x30, x31, x32, x33, x34, x35, x36, x37, x38, x39, x40, x41, x42, x43, x44, x45, x46, x47, x48, x49, x50, x51, x52, x53, x54, x55, x56, x57, x58, x59, x60, x61, x62, x63, x64, x65, x66], h⟩ r m k =
obH (gdH (wt x17 false) (nm h) (evC Try.prog 80 #[(Go.Value.int Go.IntKind.i64 16)] (nm h))) fun t20_52 h53 =>
regD Try.prog (evC Try.prog) d71_0 18 ⟨#[x0, x1, x2, x3, x4, x5, x6, x7, x8, x9, x10, x11, x12, x13, x14, x15, x16, x17, x18, x19, t20_52, x21, x22, x23, x24, x25, x26, x27, x28, x29, x30, x31, x32, x33, x34, x35, x36, x37, x38, x39, x40, x41, x42, x43, x44, x45, x46, x47, x48, x49, x50, x51, x52, x53, x54, x55, x56, x57, x58, x59, x60, x61, x62, x63, x64, x65, x66], (am h53 h)⟩ r (h53.mods ++ m) k := (regD_step _ _ d71_0 17 (by kernel_rfl) _ _ _ _).trans (by kernel_rfl)
theorem d71_0_18 {β : Type} (x0 x1 x2 x3 x4 x5 x6 x7 x8 x9 x10 x11 x12 x13 x14 x15 x16 x17 x18 x19 x20 x21 x22 x23 x24 x25 x26 x27 x28 x29 x30 x31 x32 x33 x34 x35 x36 x37 x38 x39 x40 x41 x42 x43 x44 x45 x46 x47 x48 x49 x50 x51 x52 x53 x54 x55 x56 x57 x58 x59 x60 x61 x62 x63 x64 x65 x66 : Value) (h : Heap) (r m : List Nat) (k : St → Option β) : regD Try.prog (evC Try.prog) d71_0 18 ⟨#[x0, x1, x2, x3, x4, x5, x6, x7, x8, x9, x10, x11, x12, x13, x14, x15, x16, x17, x18, x19, x20, x21, x22, x23, x24, x25, x26, x27, x28, x29, x30, x31, x32, x33, x34, x35, x36, x37, x38, x39, x40, x41, x42, x43, x44, x45, x46, x47, x48, x49, x50, x51, x52, x53, x54, x55, x56, x57, x58, x59, x60, x61, x62, x63, x64, x65, x66], h⟩ r m k =
obH (gdH (wt x17 false) h (evC Try.prog 100 #[x19, x20] h)) fun t21_54 h55 =>
regD Try.prog (evC Try.prog) d71_0 19 ⟨#[x0, x1, x2, x3, x4, x5, x6, x7, x8, x9, x10, x11, x12, x13, x14, x15, x16, x17, x18, x19, x20, t21_54, x22, x23, x24, x25, x26, x27, x28, x29, x30, x31, x32, x33, x34, x35, x36, x37, x38, x39, x40, x41, x42, x43, x44, x45, x46, x47, x48, x49, x50, x51, x52, x53, x54, x55, x56, x57, x58, x59, x60, x61, x62, x63, x64, x65, x66], h55⟩ r m k := (regD_step _ _ d71_0 18 (by kernel_rfl) _ _ _ _).trans (by kernel_rfl)
theorem d71_0_19 {β : Type} (x0 x1 x2 x3 x4 x5 x6 x7 x8 x9 x10 x11 x12 x13 x14 x15 x16 x17 x18 x19 x20 x21 x22 x23 x24 x25 x26 x27 x28 x29 x30 x31 x32 x33 x34 x35 x36 x37 x38 x39 x40 x41 x42 x43 x44 x45 x46 x47 x48 x49 x50 x51 x52 x53 x54 x55 x56 x57 x58 x59 x60 x61 x62 x63 x64 x65 x66 : Value) (h : Heap) (r m : List Nat) (k : St → Option β) : regD Try.prog (evC Try.prog) d71_0 19 ⟨#[x0, x1, x2, x3, x4, x5, x6, x7, x8, x9, x10, x11, x12, x13, x14, x15, x16, x17, x18, x19, x20, x21, x22, x23, x24, x25, x26, x27, x28, x29, x30, x31, x32, x33, x34, x35, x36, x37, x38, x39, x40, x41, x42, x43, x44, x45, x46, x47, x48, x49, x50, x51, x52, x53, x54, x55, x56, x57, x58, x59, x60, x61, x62, x63, x64, x65, x66], h⟩ r m k =
(gd (wt x17 false) (unV Try.prog .not x21)).bind fun t22_56 =>
regD Try.prog (evC Try.prog) d71_0 20 ⟨#[x0, x1, x2, x3, x4, x5, x6, x7, x8, x9, x10, x11, x12, x13, x14, x15, x16, x17, x18, x19, x20, x21, t22_56, x23, x24, x25, x26, x27, x28, x29, x30, x31, x32, x33, x34, x35, x36, x37, x38, x39, x40, x41, x42, x43, x44, x45, x46, x47, x48, x49, x50, x51, x52, x53, x54, x55, x56, x57, x58, x59, x60, x61, x62, x63, x64, x65, x66], h⟩ r m k := (regD_step _ _ d71_0 19 (by kernel_rfl) _ _ _ _).trans (by kernel_rfl)
theorem d71_0_20 {β : Type} (x0 x1 x2 x3 x4 x5 x6 x7 x8 x9 x10 x11 x12 x13 x14 x15 x16 x17 x18 x19 x20 x21 x22 x23 x24 x25 x26 x27 x28 x29 x30 x31 x32 x33 x34 x35 x36 x37 x38 x39 x40 x41 x42 x43 x44 x45 x46 x47 x48 x49 x50 x51 x52 x53 x54 x55 x56 x57 x58 x59 x60 x61 x62 x63 x64 x65 x66 : Value) (h : Heap) (r m : List Nat) (k : St → Option β) : regD Try.prog (evC Try.prog) d71_0 20 ⟨#[x0, x1, x2, x3, x4, x5, x6, x7, x8, x9, x10, x11, x12, x13, x14, x15, x16, x17, x18, x19, x20, x21, x22, x23, x24, x25, x26, x27, x28, x29, x30, x31, x32, x33, x34, x35, x36, x37, x38, x39, x40, x41, x42, x43, x44, x45, x46, x47, x48, x49, x50, x51, x52, x53, x54, x55, x56, x57, x58, x59, x60, x61, x62, x63, x64, x65, x66], h⟩ r m k =
(pickV x17 (Go.Value.bool Bool.true) x22).bind fun t23_57 =>
regD Try.prog (evC Try.prog) d71_0 21 ⟨#[x0, x1, x2, x3, x4, x5, x6, x7, x8, x9, x10, x11, x12, x13, x14, x15, x16, x17, x18, x19, x20, x21, x22, t23_57, x24, x25, x26, x27, x28, x29, x30, x31, x32, x33, x34, x35, x36, x37, x38, x39, x40, x41, x42, x43, x44, x45, x46, x47, x48, x49, x50, x51, x52, x53, x54, x55, x56, x57, x58, x59, x60, x61, x62, x63, x64, x65, x66], h⟩ r m k := (regD_step _ _ d71_0 20 (by kernel_rfl) _ _ _ _).trans (by kernel_rfl)
theorem d71_0_21 {β : Type} (x0 x1 x2 x3 x4 x5 x6 x7 x8 x9 x10 x11 x12 x13 x14 x15 x16 x17 x18 x19 x20 x21 x22 x23 x24 x25 x26 x27 x28 x29 x30 x31 x32 x33 x34 x35 x36 x37 x38 x39 x40 x41 x42 x43 x44 x45 x46 x47 x48 x49 x50 x51 x52 x53 x54 x55 x56 x57 x58 x59 x60 x61 x62 x63 x64 x65 x66 : Value) (h : Heap) (r m : List Nat) (k : St → Option β) : regD Try.prog (evC Try.prog) d71_0 21 ⟨#[x0, x1, x2, x3, x4, x5, x6, x7, x8, x9, x10, x11, x12, x13, x14, x15, x16, x17, x18, x19, x20, x21, x22, x23, x24, x25, x26, x27, x28, x29, x30, x31, x32, x33, x34, x35, x36, x37, x38, x39, x40, x41, x42, x43, x44, x45, x46, x47, x48, x49, x50, x51, x52, x53, x54, x55, x56, x57, x58, x59, x60, x61, x62, x63, x64, x65, x66], h⟩ r m k =
regD Try.prog (evC Try.prog) d71_0 22 ⟨#[x0, x1, x2, x3, x4, x5, x6, x7, x8, x9, x10, x11, x12, x13, x14, x15, x16, x17, x18, x19, x20, x21, x22, x23, x23, x25, x26, x27, x28, x29, x30, x31, x32, x33, x34, x35, x36, x37, x38, x39, x40, x41, x42, x43, x44, x45, x46, x47, x48, x49, x50, x51, x52, x53, x54, x55, x56, x57, x58, x59, x60, x61, x62, x63, x64, x65, x66], h⟩ r m k := regD_move _ _ d71_0 21 (by kernel_rfl) (by kernel_rfl) (by kernel_rfl) _ _ _ _ _ _ (by kernel_rfl) (by kernel_rfl)
theorem d71_0_22 {β : Type} (x0 x1 x2 x3 x4 x5 x6 x7 x8 x9 x10 x11 x12 x13 x14 x15 x16 x17 x18 x19 x20 x21 x22 x23 x24 x25 x26 x27 x28 x29 x30 x31 x32 x33 x34 x35 x36 x37 x38 x39 x40 x41 x42 x43 x44 x45 x46 x47 x48 x49 x50 x51 x52 x53 x54 x55 x56 x57 x58 x59 x60 x61 x62 x63 x64 x65 x66 : Value) (h : Heap) (r m : List Nat) (k : St → Option β) : regD Try.prog (evC Try.prog) d71_0 22 ⟨#[x0, x1, x2, x3, x4, x5, x6, x7, x8, x9, x10, x11, x12, x13, x14, x15, x16, x17, x18, x19, x20, x21, x22, x23, x24, x25, x26, x27, x28, x29, x30, x31, x32, x33, x34, x35, x36, x37, x38, x39, x40, x41, x42, x43, x44, x45, x46, x47, x48, x49, x50, x51, x52, x53, x54, x55, x56, x57, x58, x59, x60, x61, x62, x63, x64, x65, x66], h⟩ r m k =
(gd (wt x24 false) (fieldAddrV Try.prog 104 x1 2)).bind fun t25_58 =>
regD Try.prog (evC Try.prog) d71_0 23 ⟨#[x0, x1, x2, x3, x4, x5, x6, x7, x8, x9, x10, x11, x12, x13, x14, x15, x16, x17, x18, x19, x20, x21, x22, x23, x24, t25_58, x26, x27, x28, x29, x30, x31, x32, x33, x34, x35, x36, x37, x38, x39, x40, x41, x42, x43, x44, x45, x46, x47, x48, x49, x50, x51, x52, x53, x54, x55, x56, x57, x58, x59, x60, x61, x62, x63, x64, x65, x66], h⟩ r m k := (regD_step _ _ d71_0 22 (by kernel_rfl) _ _ _ _).trans (by kernel_rfl)
theorem d71_0_23 {β : Type} (x0 x1 x2 x3 x4 x5 x6 x7 x8 x9 x10 x11 x12 x13 x14 x15 x16 x17 x18 x19 x20 x21 x22 x23 x24 x25 x26 x27 x28 x29 x30 x31 x32 x33 x34 x35 x36 x37 x38 x39 x40 x41 x42 x43 x44 x45 x46 x47 x48 x49 x50 x51 x52 x53 x54 x55 x56 x57 x58 x59 x60 x61 x62 x63 x64 x65 x66 : Value) (h : Heap) (r m : List Nat) (k : St → Option β) : regD Try.prog (evC Try.prog) d71_0 23 ⟨#[x0, x1, x2, x3, x4, x5, x6, x7, x8, x9, x10, x11, x12, x13, x14, x15, x16, x17, x18, x19, x20, x21, x22, x23, x24, x25, x26, x27, x28, x29, x30, x31, x32, x33, x34, x35, x36, x37, x38, x39, x40, x41, x42, x43, x44, x45, x46, x47, x48, x49, x50, x51, x52, x53, x54, x55, x56, x57, x58, x59, x60, x61, x62, x63, x64, x65, x66], h⟩ r m k =
(gd (wt x24 false) (loadV Try.prog 47 x25 h)).bind fun t26_59 =>
regD Try.prog (evC Try.prog) d71_0 24 ⟨#[x0, x1, x2, x3, x4, x5, x6, x7, x8, x9, x10, x11, x12, x13, x14, x15, x16, x17, x18, x19, x20, x21, x22, x23, x24, x25, t26_59, x27, x28, x29, x30, x31, x32, x33, x34, x35, x36, x37, x38, x39, x40, x41, x42, x43, x44, x45, x46, x47, x48, x49, x50, x51, x52, x53, x54, x55, x56, x57, x58, x59, x60, x61, x62, x63, x64, x65, x66], h⟩ r m k := (regD_step _ _ d71_0 23 (by kernel_rfl) _ _ _ _).trans (by kernel_rfl)
theorem d71_0_24 {β : Type} (x0 x1 x2 x3 x4 x5 x6 x7 x8 x9 x10 x11 x12 x13 x14 x15 x16 x17 x18 x19 x20 x21 x22 x23 x24 x25 x26 x27 x28 x29 x30 x31 x32 x33 x34 x35 x36 x37 x38 x39 x40 x41 x42 x43 x44 x45 x46 x47 x48 x49 x50 x51 x52 x53 x54 x55 x56 x57 x58 x59 x60 x61 x62 x63 x64 x65 x66 : Value) (h : Heap) (r m : List Nat) (k : St → Option β) : regD Try.prog (evC Try.prog) d71_0 24 ⟨#[x0, x1, x2, x3, x4, x5, x6, x7, x8, x9, x10, x11, x12, x13, x14, x15, x16, x17, x18, x19, x20, x21, x22, x23, x24, x25, x26, x27, x28, x29, x30, x31, x32, x33, x34, x35, x36, x37, x38, x39, x40, x41, x42, x43, x44, x45, x46, x47, x48, x49, x50, x51, x52, x53, x54, x55, x56, x57, x58, x59, x60, x61, x62, x63, x64, x65, x66], h⟩ r m k =
(gd (wt x24 false) (fieldAddrV Try.prog 104 x1 0)).bind fun t27_60 =>
regD Try.prog (evC Try.prog) d71_0 25 ⟨#[x0, x1, x2, x3, x4, x5, x6, x7, x8, x9, x10, x11, x12, x13, x14, x15, x16, x17, x18, x19, x20, x21, x22, x23, x24, x25, x26, t27_60, x28, x29, x30, x31, x32, x33, x34, x35, x36, x37, x38, x39, x40, x41, x42, x43, x44, x45, x46, x47, x48, x49, x50, x51, x52, x53, x54, x55, x56, x57, x58, x59, x60, x61, x62, x63, x64, x65, x66], h⟩ r m k := (regD_step _ _ d71_0 24 (by kernel_rfl) _ _ _ _).trans (by kernel_rfl)
theorem d71_0_25 {β : Type} (x0 x1 x2 x3 x4 x5 x6 x7 x8 x9 x10 x11 x12 x13 x14 x15 x16 x17 x18 x19 x20 x21 x22 x23 x24 x25 x26 x27 x28 x29 x30 x31 x32 x33 x34 x35 x36 x37 x38 x39 x40 x41 x42 x43 x44 x45 x46 x47 x48 x49 x50 x51 x52 x53 x54 x55 x56 x57 x58 x59 x60 x61 x62 x63 x64 x65 x66 : Value) (h : Heap) (r m : List Nat) (k : St → Option β) : regD Try.prog (evC Try.prog) d71_0 25 ⟨#[x0, x1, x2, x3, x4, x5, x6, x7, x8, x9, x10, x11, x12, x13, x14, x15, x16, x17, x18, x19, x20, x21, x22, x23, x24, x25, x26, x27, x28, x29, x30, x31, x32, x33, x34, x35, x36, x37, x38, x39, x40, x41, x42, x43, x44, x45, x46, x47, x48, x49, x50, x51, x52, x53, x54, x55, x56, x57, x58, x59, x60, x61, x62, x63, x64, x65, x66], h⟩ r m k =
(gd (wt x24 false) (loadV Try.prog 3 x27 h)).bind fun t28_61 =>
regD Try.prog (evC Try.prog) d71_0 26 ⟨#[x0, x1, x2, x3, x4, x5, x6, x7, x8, x9, x10, x11, x12, x13, x14, x15, x16, x17, x18, x19, x20, x21, x22, x23, x24, x25, x26, x27, t28_61, x29, x30, x31, x32, x33, x34, x35, x36, x37, x38, x39, x40, x41, x42, x43, x44, x45, x46, x47, x48, x49, x50, x51, x52, x53, x54, x55, x56, x57, x58, x59, x60, x61, x62, x63, x64, x65, x66], h⟩ r m k := (regD_step _ _ d71_0 25 (by kernel_rfl) _ _ _ _).trans (by kernel_rfl)
theorem d71_0_26 {β : Type} (x0 x1 x2 x3 x4 x5 x6 x7 x8 x9 x10 x11 x12 x13 x14 x15 x16 x17 x18 x19 x20 x21 x22 x23 x24 x25 x26 x27 x28 x29 x30 x31 x32 x33 x34 x35 x36 x37 x38 x39 x40 x41 x42 x43 x44 x45 x46 x47 x48 x49 x50 x51 x52 x53 x54 x55 x56 x57 x58 x59 x60 x61 x62 x63 x64 x65 x66 : Value) (h : Heap) (r m : List Nat) (k : St → Option β) : regD Try.prog (evC Try.prog) d71_0 26 ⟨#[x0, x1, x2, x3, x4, x5, x6, x7, x8, x9, x10, x11, x12, x13, x14, x15, x16, x17, x18, x19, x20, x21, x22, x23, x24, x25, x26, x27, x28, x29, x30, x31, x32, x33, x34, x35, x36, x37, x38, x39, x40, x41, x42, x43, x44, x45, x46, x47, x48, x49, x50, x51, x52, x53, x54, x55, x56, x57, x58, x59, x60, x61, x62, x63, x64, x65, x66], h⟩ r m k =
obH (gdH (wt x24 false) h (evC Try.prog 112 #[x26, x28] h)) fun t29_62 h63 =>
regD Try.prog (evC Try.prog) d71_0 27 ⟨#[x0, x1, x2, x3, x4, x5, x6, x7, x8, x9, x10, x11, x12, x13, x14, x15, x16, x17, x18, x19, x20, x21, x22, x23, x24, x25, x26, x27, x28, t29_62, x30, x31, x32, x33, x34, x35, x36, x37, x38, x39, x40, x41, x42, x43, x44, x45, x46, x47, x48, x49, x50, x51, x52, x53, x54, x55, x56, x57, x58, x59, x60, x61, x62, x63, x64, x65, x66], h63⟩ r m k := (regD_step _ _ d71_0 26 (by kernel_rfl) _ _ _ _).trans (by kernel_rfl)
theorem d71_0_27 {β : Type} (x0 x1 x2 x3 x4 x5 x6 x7 x8 x9 x10 x11 x12 x13 x14 x15 x16 x17 x18 x19 x20 x21 x22 x23 x24 x25 x26 x27 x28 x29 x30 x31 x32 x33 x34 x35 x36 x37 x38 x39 x40 x41 x42 x43 x44 x45 x46 x47 x48 x49 x50 x51 x52 x53 x54 x55 x56 x57 x58 x59 x60 x61 x62 x63 x64 x65 x66 : Value) (h : Heap) (r m : List Nat) (k : St → Option β) : regD Try.prog (evC Try.prog) d71_0 27 ⟨#[x0, x1, x2, x3, x4, x5, x6, x7, x8, x9, x10, x11, x12, x13, x14, x15, x16, x17, x18, x19, x20, x21, x22, x23, x24, x25, x26, x27, x28, x29, x30, x31, x32, x33, x34, x35, x36, x37, x38, x39, x40, x41, x42, x43, x44, x45, x46, x47, x48, x49, x50, x51, x52, x53, x54, x55, x56, x57, x58, x59, x60, x61, x62, x63, x64, x65, x66], h⟩ r m k =
(pickV x24 (Go.Value.bool Bool.true) x29).bind fun t30_64 =>
regD Try.prog (evC Try.prog) d71_0 28 ⟨#[x0, x1, x2, x3, x4, x5, x6, x7, x8, x9, x10, x11, x12, x13, x14, x15, x16, x17, x18, x19, x20, x21, x22, x23, x24, x25, x26, x27, x28, x29, t30_64, x31, x32, x33, x34, x35, x36, x37, x38, x39, x40, x41, x42, x43, x44, x45, x46, x47, x48, x49, x50, x51, x52, x53, x54, x55, x56, x57, x58, x59, x60, x61, x62, x63, x64, x65, x66], h⟩ r m k := (regD_step _ _ d71_0 27 (by kernel_rfl) _ _ _ _).trans (by kernel_rfl)
theorem d71_0_28 {β : Type} (x0 x1 x2 x3 x4 x5 x6 x7 x8 x9 x10 x11 x12 x13 x14 x15 x16 x17 x18 x19 x20 x21 x22 x23 x24 x25 x26 x27 x28 x29 x30 x31 x32 x33 x34 x35 x36 x37 x38 x39 x40 x41 x42 x43 x44 x45 x46 x47 x48 x49 x50 x51 x52 x53 x54 x55 x56 x57 x58 x59 x60 x61 x62 x63 x64 x65 x66 : Value) (h : Heap) (r m : List Nat) (k : St → Option β) : regD Try.prog (evC Try.prog) d71_0 28 ⟨#[x0, x1, x2, x3, x4, x5, x6, x7, x8, x9, x10, x11, x12, x13, x14, x15, x16, x17, x18, x19, x20, x21, x22, x23, x24, x25, x26, x27, x28, x29, x30, x31, x32, x33, x34, x35, x36, x37, x38, x39, x40, x41, x42, x43, x44, x45, x46, x47, x48, x49, x50, x51, x52, x53, x54, x55, x56, x57, x58, x59, x60, x61, x62, x63, x64, x65, x66], h⟩ r m k =
chk r m (k ⟨#[x0, x1, x2, x3, x4, x5, x6, x7, x8, x9, x10, x11, x12, x13, x14, x15, x16, x17, x18, x19, x20, x21, x22, x23, x24, x25, x26, x27, x28, x29, x30, x31, x32, x33, x34, x35, x36, x37, x38, x39, x40, x41, x42, x43, x44, x45, x46, x47, x48, x49, x50, x51, x52, x53, x54, x55, x56, x57, x58, x59, x60, x61, x62, x63, x64, x65, x66], h⟩) := by kernel_rfl
theorem c71_5_eq {β : Type} (x0 x1 x2 x3 x4 x5 x6 x7 x8 x9 x10 x11 x12 x13 x14 x15 x16 x17 x18 x19 x20 x21 x22 x23 x24 x25 x26 x27 x28 x29 x30 x31 x32 x33 x34 x35 x36 x37 x38 x39 x40 x41 x42 x43 x44 x45 x46 x47 x48 x49 x50 x51 x52 x53 x54 x55 x56 x57 x58 x59 x60 x61 x62 x63 x64 x65 x66 : Value) (h : Heap) (k : Ex → St → Option β) : codeK Try.prog (evC Try.prog) loopL c71_5 ⟨#[x0, x1, x2, x3, x4, x5, x6, x7, x8, x9, x10, x11, x12, x13, x14, x15, x16, x17, x18, x19, x20, x21, x22, x23, x24, x25, x26, x27, x28, x29, x30, x31, x32, x33, x34, x35, x36, x37, x38, x39, x40, x41, x42, x43, x44, x45, x46, x47, x48, x49, x50, x51, x52, x53, x54, x55, x56, x57, x58, x59, x60, x61, x62, x63, x64, x65, x66], h⟩ k =
regD Try.prog (evC Try.prog) d71_0 0 ⟨#[x0, x1, x2, x3, x4, x5, x6, x7, x8, x9, x10, x11, x12, x13, x14, x15, x16, x17, x18, x19, x20, x21, x22, x23, x24, x25, x26, x27, x28, x29, x30, x31, x32, x33, x34, x35, x36, x37, x38, x39, x40, x41, x42, x43, x44, x45, x46, x47, x48, x49, x50, x51, x52, x53, x54, x55, x56, x57, x58, x59, x60, x61, x62, x63, x64, x65, x66], h⟩ [] [] (fun s => k .normal s) := by kernel_rfl
theorem c71_6_eq {β : Type} (x0 x1 x2 x3 x4 x5 x6 x7 x8 x9 x10 x11 x12 x13 x14 x15 x16 x17 x18 x19 x20 x21 x22 x23 x24 x25 x26 x27 x28 x29 x30 x31 x32 x33 x34 x35 x36 x37 x38 x39 x40 x41 x42 x43 x44 x45 x46 x47 x48 x49 x50 x51 x52 x53 x54 x55 x56 x57 x58 x59 x60 x61 x62 x63 x64 x65 x66 : Value) (h : Heap) (k : Ex → St → Option β) : codeK Try.prog (evC Try.prog) loopL c71_6 ⟨#[x0, x1, x2, x3, x4, x5, x6, x7, x8, x9, x10, x11, x12, x13, x14, x15, x16, x17, x18, x19, x20, x21, x22, x23, x24, x25, x26, x27, x28, x29, x30, x31, x32, x33, x34, x35, x36, x37, x38, x39, x40, x41, x42, x43, x44, x45, x46, x47, x48, x49, x50, x51, x52, x53, x54, x55, x56, x57, x58, x59, x60, x61, x62, x63, x64, x65, x66], h⟩ k =
cnd x30 (
k .ret ⟨#[x0, x1, (Go.Value.bool Bool.false), x3, x4, x5, x6, x7, x8, x9, x10, x11, x12, x13, x14, x15, x16, x17, x18, x19, x20, x21, x22, x23, x24, x25, x26, x27, x28, x29, x30, x31, x32, x33, x34, x35, x36, x37, x38, x39, x40, x41, x42, x43, x44, x45, x46, x47, x48, x49, x50, x51, x52, x53, x54, x55, x56, x57, x58, x59, x60, x61, x62, x63, x64, x65, x66], h⟩) (
k .normal ⟨#[x0, x1, x2, x3, x4, x5, x6, x7, x8, x9, x10, x11, x12, x13, x14, x15, x16, x17, x18, x19, x20, x21, x22, x23, x24, x25, x26, x27, x28, x29, x30, x31, x32, x33, x34, x35, x36, x37, x38, x39, x40, x41, x42, x43, x44, x45, x46, x47, x48, x49, x50, x51, x52, x53, x54, x55, x56, x57, x58, x59, x60, x61, x62, x63, x64, x65, x66], h⟩) := by kernel_rfl
theorem call71 (x0 : Value) (h : Heap) : evC Try.prog 71 #[x0] h = codeK Try.prog (evC Try.prog) loopL c71_0 ⟨#[x0, undef, undef, undef, undef, undef, undef, undef, undef, undef, undef, undef, undef, undef, undef, undef, undef, undef, undef, undef, undef, undef, undef, undef, undef, undef, undef, undef, undef, undef, undef, undef, undef, undef, undef, undef, undef, undef, undef, undef, undef, undef, undef, undef, undef, undef, undef, undef, undef, undef, undef, undef, undef, undef, undef, undef, undef, undef, undef, undef, undef, undef, undef, undef, undef, undef, undef], nm h⟩ (retK Try.f71 Try.prog h) :=
  (evC_call 71 Try.f71 c71_0 Try.func71 (by kernel_rfl) #[x0] h).trans (by kernel_rfl)
theorem ret71 (x0 x1 x2 x3 x4 x5 x6 x7 x8 x9 x10 x11 x12 x13 x14 x15 x16 x17 x18 x19 x20 x21 x22 x23 x24 x25 x26 x27 x28 x29 x30 x31 x32 x33 x34 x35 x36 x37 x38 x39 x40 x41 x42 x43 x44 x45 x46 x47 x48 x49 x50 x51 x52 x53 x54 x55 x56 x57 x58 x59 x60 x61 x62 x63 x64 x65 x66 : Value) (h0 h : Heap) : retK Try.f71 Try.prog h0 .ret ⟨#[x0, x1, x2, x3, x4, x5, x6, x7, x8, x9, x10, x11, x12, x13, x14, x15, x16, x17, x18, x19, x20, x21, x22, x23, x24, x25, x26, x27, x28, x29, x30, x31, x32, x33, x34, x35, x36, x37, x38, x39, x40, x41, x42, x43, x44, x45, x46, x47, x48, x49, x50, x51, x52, x53, x54, x55, x56, x57, x58, x59, x60, x61, x62, x63, x64, x65, x66], h⟩ = fin h0 (some x2) h := by kernel_rfl
theorem retn71 (x0 x1 x2 x3 x4 x5 x6 x7 x8 x9 x10 x11 x12 x13 x14 x15 x16 x17 x18 x19 x20 x21 x22 x23 x24 x25 x26 x27 x28 x29 x30 x31 x32 x33 x34 x35 x36 x37 x38 x39 x40 x41 x42 x43 x44 x45 x46 x47 x48 x49 x50 x51 x52 x53 x54 x55 x56 x57 x58 x59 x60 x61 x62 x63 x64 x65 x66 : Value) (h0 h : Heap) : retK Try.f71 Try.prog h0 .normal ⟨#[x0, x1, x2, x3, x4, x5, x6, x7, x8, x9, x10, x11, x12, x13, x14, x15, x16, x17, x18, x19, x20, x21, x22, x23, x24, x25, x26, x27, x28, x29, x30, x31, x32, x33, x34, x35, x36, x37, x38, x39, x40, x41, x42, x43, x44, x45, x46, x47, x48, x49, x50, x51, x52, x53, x54, x55, x56, x57, x58, x59, x60, x61, x62, x63, x64, x65, x66], h⟩ = fin h0 (some x2) h := by kernel_rfl
end Go.Am
namespace Go.Am
open Go.Proofs
set_option maxRecDepth 100000
noncomputable def c66_0 : Code := bodyC Try.f66 []
noncomputable def c66_1 : Code := bodyC Try.f66 [true, true, true, true, true, true, true, true]
noncomputable def c66_2 : Code := bodyC Try.f66 [true, true, true, true, true, true, true, true, true]
theorem c66_0_eq {β : Type} (x0 x1 x2 x3 x4 x5 x6 x7 x8 x9 x10 x11 x12 x13 x14 x15 x16 x17 x18 x19 x20 x21 x22 x23 x24 x25 x26 x27 x28 x29 x30 x31 x32 x33 x34 x35 x36 x37 x38 x39 x40 x41 x42 x43 x44 x45 x46 x47 x48 x49 x50 x51 x52 x53 x54 x55 x56 x57 x58 x59 x60 : Value) (h : Heap) (k : Ex → St → Option β) : codeK Try.prog (evC Try.prog) loopL c66_0 ⟨#[x0, x1, x2, x3, x4, x5, x6, x7, x8, x9, x10, x11, x12, x13, x14, x15, x16, x17, x18, x19, x20, x21, x22, x23, x24, x25, x26, x27, x28, x29, x30, x31, x32, x33, x34, x35, x36, x37, x38, x39, x40, x41, x42, x43, x44, x45, x46, x47, x48, x49, x50, x51, x52, x53, x54, x55, x56, x57, x58, x59, x60], h⟩ k =
obH (boxV Try.prog 104 x0 h) fun t1_0 h1 =>
(loadV Try.prog 104 t1_0 h1).bind fun t4_2 =>
obH (evC Try.prog 71 #[t4_2] h1) fun t5_3 h4 =>
(unV Try.prog .not t5_3).bind fun t6_5 =>
cnd t6_5 (
k .ret ⟨#[x0, t1_0, (Go.Value.slice Option.none 0 0), x3, t4_2, t5_3, t6_5, x7, x8, x9, x10, x11, x12, x13, x14, x15, x16, x17, x18, x19, x20, x21, x22, x23, x24, x25, x26, x27, x28, x29, x30, x31, x32, x33, x34, x35, x36, x37, x38, x39, x40, x41, x42, x43, x44, x45, x46, x47, x48, x49, x50, x51, x52, x53, x54, x55, x56, x57, x58, x59, x60], h4⟩) (
obH (evC Try.prog 42 #[] h4) fun t7_6 h7 =>
(fieldAddrV Try.prog 104 t1_0 0).bind fun t9_8 =>
(loadV Try.prog 3 t9_8 h7).bind fun t10_9 =>
obH (convV Try.prog 3 46 t10_9 h7) fun t11_10 h11 =>
obH (evC Try.prog 43 #[t7_6, t11_10] h11) fun t12_12 h13 =>
(fieldAddrV Try.prog 104 t1_0 1).bind fun t14_14 =>
(loadV Try.prog 46 t14_14 h13).bind fun t15_15 =>
obH (evC Try.prog 43 #[t7_6, t15_15] h13) fun t16_16 h17 =>
(fieldAddrV Try.prog 104 t1_0 2).bind fun t18_18 =>
(loadV Try.prog 47 t18_18 h17).bind fun t19_19 =>
obH (evC Try.prog 59 #[t7_6, t19_19] h17) fun t20_20 h21 =>
(fieldAddrV Try.prog 104 t1_0 3).bind fun t22_22 =>
(loadV Try.prog 3 t22_22 h21).bind fun t23_23 =>
obH (convV Try.prog 3 46 t23_23 h21) fun t24_24 h25 =>
obH (evC Try.prog 43 #[t7_6, t24_24] h25) fun t25_26 h27 =>
(fieldAddrV Try.prog 104 t1_0 3).bind fun t26_28 =>
(loadV Try.prog 3 t26_28 h27).bind fun t27_29 =>
(binV Try.prog .eql 3 (.tmp 27) (.const (Go.Value.int Go.IntKind.i64 0)) t27_29 (Go.Value.int Go.IntKind.i64 0)).bind fun t28_30 =>
cnd t28_30 (
(fieldAddrV Try.prog 104 t1_0 8).bind fun t30_31 =>
(loadV Try.prog 23 t30_31 h27).bind fun t31_32 =>
obH (evC Try.prog 61 #[t7_6, t31_32] h27) fun t32_33 h34 =>
codeK Try.prog (evC Try.prog) loopL c66_1 ⟨#[x0, t1_0, (Go.Value.slice Option.none 0 0), t7_6, t4_2, t5_3, t6_5, t7_6, t7_6, t9_8, t10_9, t11_10, t12_12, t7_6, t14_14, t15_15, t16_16, t7_6, t18_18, t19_19, t20_20, t7_6, t22_22, t23_23, t24_24, t25_26, t26_28, t27_29, t28_30, t7_6, t30_31, t31_32, t32_33, x33, x34, x35, x36, x37, x38, x39, x40, x41, x42, x43, x44, x45, x46, x47, x48, x49, x50, x51, x52, x53, x54, x55, x56, x57, x58, x59, x60], h34⟩ k) (
(fieldAddrV Try.prog 104 t1_0 4).bind fun t34_35 =>
(loadV Try.prog 3 t34_35 h27).bind fun t35_36 =>
obH (convV Try.prog 3 46 t35_36 h27) fun t36_37 h38 =>
obH (evC Try.prog 43 #[t7_6, t36_37] h38) fun t37_39 h40 =>
codeK Try.prog (evC Try.prog) loopL c66_1 ⟨#[x0, t1_0, (Go.Value.slice Option.none 0 0), t7_6, t4_2, t5_3, t6_5, t7_6, t7_6, t9_8, t10_9, t11_10, t12_12, t7_6, t14_14, t15_15, t16_16, t7_6, t18_18, t19_19, t20_20, t7_6, t22_22, t23_23, t24_24, t25_26, t26_28, t27_29, t28_30, x29, x30, x31, x32, t7_6, t34_35, t35_36, t36_37, t37_39, x38, x39, x40, x41, x42, x43, x44, x45, x46, x47, x48, x49, x50, x51, x52, x53, x54, x55, x56, x57, x58, x59, x60], h40⟩ k)) := by kernel_rfl
theorem c66_1_eq {β : Type} (x0 x1 x2 x3 x4 x5 x6 x7 x8 x9 x10 x11 x12 x13 x14 x15 x16 x17 x18 x19 x20 x21 x22 x23 x24 x25 x26 x27 x28 x29 x30 x31 x32 x33 x34 x35 x36 x37 x38 x39 x40 x41 x42 x43 x44 x45 x46 x47 x48 x49 x50 x51 x52 x53 x54 x55 x56 x57 x58 x59 x60 : Value) (h : Heap) (k : Ex → St → Option β) : codeK Try.prog (evC Try.prog) loopL c66_1 ⟨#[x0, x1, x2, x3, x4, x5, x6, x7, x8, x9, x10, x11, x12, x13, x14, x15, x16, x17, x18, x19, x20, x21, x22, x23, x24, x25, x26, x27, x28, x29, x30, x31, x32, x33, x34, x35, x36, x37, x38, x39, x40, x41, x42, x43, x44, x45, x46, x47, x48, x49, x50, x51, x52, x53, x54, x55, x56, x57, x58, x59, x60], h⟩ k =
(fieldAddrV Try.prog 104 x1 3).bind fun t38_41 =>
(loadV Try.prog 3 t38_41 h).bind fun t39_42 =>
obH (evC Try.prog 110 #[t39_42] h) fun t40_43 h44 =>
cnd t40_43 (
(fieldAddrV Try.prog 104 x1 5).bind fun t42_45 =>
(loadV Try.prog 84 t42_45 h44).bind fun t43_46 =>
obH (evC Try.prog 57 #[x3, t43_46] h44) fun t44_47 h48 =>
(fieldAddrV Try.prog 104 x1 6).bind fun t46_49 =>
(loadV Try.prog 3 t46_49 h48).bind fun t47_50 =>
(binV Try.prog .add 3 (.tmp 47) (.const (Go.Value.int Go.IntKind.i64 1)) t47_50 (Go.Value.int Go.IntKind.i64 1)).bind fun t48_51 =>
obH (convV Try.prog 3 46 t48_51 h48) fun t49_52 h53 =>
obH (evC Try.prog 43 #[x3, t49_52] h53) fun t50_54 h55 =>
(fieldAddrV Try.prog 104 x1 7).bind fun t52_56 =>
(loadV Try.prog 46 t52_56 h55).bind fun t53_57 =>
obH (evC Try.prog 43 #[x3, t53_57] h55) fun t54_58 h59 =>
codeK Try.prog (evC Try.prog) loopL c66_2 ⟨#[x0, x1, x2, x3, x4, x5, x6, x7, x8, x9, x10, x11, x12, x13, x14, x15, x16, x17, x18, x19, x20, x21, x22, x23, x24, x25, x26, x27, x28, x29, x30, x31, x32, x33, x34, x35, x36, x37, t38_41, t39_42, t40_43, x3, t42_45, t43_46, t44_47, x3, t46_49, t47_50, t48_51, t49_52, t50_54, x3, t52_56, t53_57, t54_58, x55, x56, x57, x58, x59, x60], h59⟩ k) (
codeK Try.prog (evC Try.prog) loopL c66_2 ⟨#[x0, x1, x2, x3, x4, x5, x6, x7, x8, x9, x10, x11, x12, x13, x14, x15, x16, x17, x18, x19, x20, x21, x22, x23, x24, x25, x26, x27, x28, x29, x30, x31, x32, x33, x34, x35, x36, x37, t38_41, t39_42, t40_43, x41, x42, x43, x44, x45, x46, x47, x48, x49, x50, x51, x52, x53, x54, x55, x56, x57, x58, x59, x60], h44⟩ k) := by kernel_rfl
theorem c66_2_eq {β : Type} (x0 x1 x2 x3 x4 x5 x6 x7 x8 x9 x10 x11 x12 x13 x14 x15 x16 x17 x18 x19 x20 x21 x22 x23 x24 x25 x26 x27 x28 x29 x30 x31 x32 x33 x34 x35 x36 x37 x38 x39 x40 x41 x42 x43 x44 x45 x46 x47 x48 x49 x50 x51 x52 x53 x54 x55 x56 x57 x58 x59 x60 : Value) (h : Heap) (k : Ex → St → Option β) : codeK Try.prog (evC Try.prog) loopL c66_2 ⟨#[x0, x1, x2, x3, x4, x5, x6, x7, x8, x9, x10, x11, x12, x13, x14, x15, x16, x17, x18, x19, x20, x21, x22, x23, x24, x25, x26, x27, x28, x29, x30, x31, x32, x33, x34, x35, x36, x37, x38, x39, x40, x41, x42, x43, x44, x45, x46, x47, x48, x49, x50, x51, x52, x53, x54, x55, x56, x57, x58, x59, x60], h⟩ k =
(fieldAddrV Try.prog 104 x1 9).bind fun t56_60 =>
(loadV Try.prog 23 t56_60 h).bind fun t57_61 =>
obH (evC Try.prog 61 #[x3, t57_61] h) fun t58_62 h63 =>
obH (evC Try.prog 44 #[x3] h63) fun t60_64 h65 =>
k .ret ⟨#[x0, x1, t60_64, x3, x4, x5, x6, x7, x8, x9, x10, x11, x12, x13, x14, x15, x16, x17, x18, x19, x20, x21, x22, x23, x24, x25, x26, x27, x28, x29, x30, x31, x32, x33, x34, x35, x36, x37, x38, x39, x40, x41, x42, x43, x44, x45, x46, x47, x48, x49, x50, x51, x52, x53, x54, x3, t56_60, t57_61, t58_62, x3, t60_64], h65⟩ := by kernel_rfl
theorem call66 (x0 : Value) (h : Heap) : evC Try.prog 66 #[x0] h = codeK Try.prog (evC Try.prog) loopL c66_0 ⟨#[x0, undef, undef, undef, undef, undef, undef, undef, undef, undef, undef, undef, undef, undef, undef, undef, undef, undef, undef, undef, undef, undef, undef, undef, undef, undef, undef, undef, undef, undef, undef, undef, undef, undef, undef, undef, undef, undef, undef, undef, undef, undef, undef, undef, undef, undef, undef, undef, undef, undef, undef, undef, undef, undef, undef, undef, undef, undef, undef, undef, undef], nm h⟩ (retK Try.f66 Try.prog h) :=
  (evC_call 66 Try.f66 c66_0 Try.func66 (by kernel_rfl) #[x0] h).trans (by kernel_rfl)
theorem ret66 (x0 x1 x2 x3 x4 x5 x6 x7 x8 x9 x10 x11 x12 x13 x14 x15 x16 x17 x18 x19 x20 x21 x22 x23 x24 x25 x26 x27 x28 x29 x30 x31 x32 x33 x34 x35 x36 x37 x38 x39 x40 x41 x42 x43 x44 x45 x46 x47 x48 x49 x50 x51 x52 x53 x54 x55 x56 x57 x58 x59 x60 : Value) (h0 h : Heap) : retK Try.f66 Try.prog h0 .ret ⟨#[x0, x1, x2, x3, x4, x5, x6, x7, x8, x9, x10, x11, x12, x13, x14, x15, x16, x17, x18, x19, x20, x21, x22, x23, x24, x25, x26, x27, x28, x29, x30, x31, x32, x33, x34, x35, x36, x37, x38, x39, x40, x41, x42, x43, x44, x45, x46, x47, x48, x49, x50, x51, x52, x53, x54, x55, x56, x57, x58, x59, x60], h⟩ = fin h0 (some x2) h := by kernel_rfl
theorem retn66 (x0 x1 x2 x3 x4 x5 x6 x7 x8 x9 x10 x11 x12 x13 x14 x15 x16 x17 x18 x19 x20 x21 x22 x23 x24 x25 x26 x27 x28 x29 x30 x31 x32 x33 x34 x35 x36 x37 x38 x39 x40 x41 x42 x43 x44 x45 x46 x47 x48 x49 x50 x51 x52 x53 x54 x55 x56 x57 x58 x59 x60 : Value) (h0 h : Heap) : retK Try.f66 Try.prog h0 .normal ⟨#[x0, x1, x2, x3, x4, x5, x6, x7, x8, x9, x10, x11, x12, x13, x14, x15, x16, x17, x18, x19, x20, x21, x22, x23, x24, x25, x26, x27, x28, x29, x30, x31, x32, x33, x34, x35, x36, x37, x38, x39, x40, x41, x42, x43, x44, x45, x46, x47, x48, x49, x50, x51, x52, x53, x54, x55, x56, x57, x58, x59, x60], h⟩ = fin h0 (some x2) h := by kernel_rfl
end Go.Am
namespace Go.Am
open Go.Proofs
set_option maxRecDepth 100000
noncomputable def c73_0 : Code := bodyC Try.f73 []
theorem c73_0_eq {β : Type} (x0 x1 x2 x3 x4 x5 : Value) (h : Heap) (k : Ex → St → Option β) : codeK Try.prog (evC Try.prog) loopL c73_0 ⟨#[x0, x1, x2, x3, x4, x5], h⟩ k =
obH (boxV Try.prog 104 x0 h) fun t1_0 h1 =>
(loadV Try.prog 104 t1_0 h1).bind fun t3_2 =>
obH (evC Try.prog 66 #[t3_2] h1) fun t4_3 h4 =>
(lenV Try.prog 23 t4_3 h4).bind fun t5_5 =>
k .ret ⟨#[x0, t1_0, t5_5, t3_2, t4_3, t5_5], h4⟩ := by kernel_rfl
theorem call73 (x0 : Value) (h : Heap) : evC Try.prog 73 #[x0] h = codeK Try.prog (evC Try.prog) loopL c73_0 ⟨#[x0, undef, undef, undef, undef, undef], nm h⟩ (retK Try.f73 Try.prog h) :=
  (evC_call 73 Try.f73 c73_0 Try.func73 (by kernel_rfl) #[x0] h).trans (by kernel_rfl)
theorem ret73 (x0 x1 x2 x3 x4 x5 : Value) (h0 h : Heap) : retK Try.f73 Try.prog h0 .ret ⟨#[x0, x1, x2, x3, x4, x5], h⟩ = fin h0 (some x2) h := by kernel_rfl
theorem retn73 (x0 x1 x2 x3 x4 x5 : Value) (h0 h : Heap) : retK Try.f73 Try.prog h0 .normal ⟨#[x0, x1, x2, x3, x4, x5], h⟩ = fin h0 (some x2) h := by kernel_rfl
end Go.Am
namespace Go.Am
open Go.Proofs
set_option maxRecDepth 100000
noncomputable def c69_0 : Code := bodyC Try.f69 []
noncomputable def c69_1 : Code := bodyC Try.f69 [true, true, true, true]
noncomputable def c69_2 : Code := bodyC Try.f69 [true, true, true, true, true]
theorem c69_0_eq {β : Type} (x0 x1 x2 x3 x4 x5 x6 x7 x8 x9 x10 x11 x12 x13 x14 x15 x16 x17 x18 x19 x20 x21 x22 x23 x24 x25 x26 x27 x28 x29 x30 x31 x32 x33 x34 x35 x36 x37 x38 x39 x40 x41 x42 x43 x44 x45 x46 x47 x48 x49 x50 x51 x52 x53 x54 x55 x56 : Value) (h : Heap) (k : Ex → St → Option β) : codeK Try.prog (evC Try.prog) loopL c69_0 ⟨#[x0, x1, x2, x3, x4, x5, x6, x7, x8, x9, x10, x11, x12, x13, x14, x15, x16, x17, x18, x19, x20, x21, x22, x23, x24, x25, x26, x27, x28, x29, x30, x31, x32, x33, x34, x35, x36, x37, x38, x39, x40, x41, x42, x43, x44, x45, x46, x47, x48, x49, x50, x51, x52, x53, x54, x55, x56], h⟩ k =
obH (allocV Try.prog 104 h) fun t2_0 h1 =>
obH (evC Try.prog 45 #[x0] h1) fun t7_2 h3 =>
obH (evC Try.prog 46 #[t7_2, (Go.Value.int Go.IntKind.u64 16)] h3) fun t9_4 h5 =>
obH (convV Try.prog 46 3 t9_4 h5) fun t10_6 h7 =>
obH (evC Try.prog 46 #[t7_2, (Go.Value.int Go.IntKind.u64 18446744073709551615)] h7) fun t12_8 h9 =>
obH (evC Try.prog 80 #[(Go.Value.int Go.IntKind.i64 16)] h9) fun t14_10 h11 =>
obH (evC Try.prog 49 #[t7_2, t14_10] h11) fun t15_12 h13 =>
obH (evC Try.prog 46 #[t7_2, (Go.Value.int Go.IntKind.u64 3)] h13) fun t17_14 h15 =>
obH (convV Try.prog 46 3 t17_14 h15) fun t18_16 h17 =>
(buildV Try.prog 104 #[(0, t10_6), (1, t12_8), (2, t15_12), (3, t18_16)]).bind fun t19_18 =>
obH (allocV Try.prog 104 h17) fun t5_19 h20 =>
(storeV Try.prog 104 t5_19 t19_18 h20).bind fun h21 =>
(fieldAddrV Try.prog 104 t5_19 3).bind fun t20_22 =>
(loadV Try.prog 3 t20_22 h21).bind fun t21_23 =>
(binV Try.prog .eql 3 (.tmp 21) (.const (Go.Value.int Go.IntKind.i64 0)) t21_23 (Go.Value.int Go.IntKind.i64 0)).bind fun t22_24 =>
cnd t22_24 (
obH (evC Try.prog 54 #[t7_2, (Go.Value.int Go.IntKind.i64 256)] h21) fun t24_25 h26 =>
(fieldAddrV Try.prog 104 t5_19 8).bind fun t25_27 =>
(storeV Try.prog 23 t25_27 t24_25 h26).bind fun h28 =>
codeK Try.prog (evC Try.prog) loopL c69_1 ⟨#[x0, x1, t2_0, (Go.Value.int Go.IntKind.i64 0), t7_2, t5_19, x0, t7_2, t7_2, t9_4, t10_6, t7_2, t12_8, t7_2, t14_10, t15_12, t7_2, t17_14, t18_16, t19_18, t20_22, t21_23, t22_24, t7_2, t24_25, t25_27, x26, x27, x28, x29, x30, x31, x32, x33, x34, x35, x36, x37, x38, x39, x40, x41, x42, x43, x44, x45, x46, x47, x48, x49, x50, x51, x52, x53, x54, x55, x56], h28⟩ k) (
obH (evC Try.prog 46 #[t7_2, (Go.Value.int Go.IntKind.u64 16)] h21) fun t27_29 h30 =>
obH (convV Try.prog 46 3 t27_29 h30) fun t28_31 h32 =>
(fieldAddrV Try.prog 104 t5_19 4).bind fun t29_33 =>
(storeV Try.prog 3 t29_33 t28_31 h32).bind fun h34 =>
codeK Try.prog (evC Try.prog) loopL c69_1 ⟨#[x0, x1, t2_0, (Go.Value.int Go.IntKind.i64 0), t7_2, t5_19, x0, t7_2, t7_2, t9_4, t10_6, t7_2, t12_8, t7_2, t14_10, t15_12, t7_2, t17_14, t18_16, t19_18, t20_22, t21_23, t22_24, x23, x24, x25, t7_2, t27_29, t28_31, t29_33, x30, x31, x32, x33, x34, x35, x36, x37, x38, x39, x40, x41, x42, x43, x44, x45, x46, x47, x48, x49, x50, x51, x52, x53, x54, x55, x56], h34⟩ k) := by kernel_rfl
theorem c69_1_eq {β : Type} (x0 x1 x2 x3 x4 x5 x6 x7 x8 x9 x10 x11 x12 x13 x14 x15 x16 x17 x18 x19 x20 x21 x22 x23 x24 x25 x26 x27 x28 x29 x30 x31 x32 x33 x34 x35 x36 x37 x38 x39 x40 x41 x42 x43 x44 x45 x46 x47 x48 x49 x50 x51 x52 x53 x54 x55 x56 : Value) (h : Heap) (k : Ex → St → Option β) : codeK Try.prog (evC Try.prog) loopL c69_1 ⟨#[x0, x1, x2, x3, x4, x5, x6, x7, x8, x9, x10, x11, x12, x13, x14, x15, x16, x17, x18, x19, x20, x21, x22, x23, x24, x25, x26, x27, x28, x29, x30, x31, x32, x33, x34, x35, x36, x37, x38, x39, x40, x41, x42, x43, x44, x45, x46, x47, x48, x49, x50, x51, x52, x53, x54, x55, x56], h⟩ k =
(fieldAddrV Try.prog 104 x5 3).bind fun t30_35 =>
(loadV Try.prog 3 t30_35 h).bind fun t31_36 =>
obH (evC Try.prog 110 #[t31_36] h) fun t32_37 h38 =>
cnd t32_37 (
obH (evC Try.prog 52 #[x4] h38) fun t34_39 h40 =>
(fieldAddrV Try.prog 104 x5 5).bind fun t35_41 =>
(storeV Try.prog 84 t35_41 t34_39 h40).bind fun h42 =>
obH (evC Try.prog 46 #[x4, (Go.Value.int Go.IntKind.u64 16)] h42) fun t37_43 h44 =>
obH (convV Try.prog 46 3 t37_43 h44) fun t38_45 h46 =>
(binV Try.prog .sub 3 (.tmp 38) (.const (Go.Value.int Go.IntKind.i64 1)) t38_45 (Go.Value.int Go.IntKind.i64 1)).bind fun t39_47 =>
(fieldAddrV Try.prog 104 x5 6).bind fun t40_48 =>
(storeV Try.prog 3 t40_48 t39_47 h46).bind fun h49 =>
obH (evC Try.prog 46 #[x4, (Go.Value.int Go.IntKind.u64 18446744073709551615)] h49) fun t42_50 h51 =>
(fieldAddrV Try.prog 104 x5 7).bind fun t43_52 =>
(storeV Try.prog 46 t43_52 t42_50 h51).bind fun h53 =>
codeK Try.prog (evC Try.prog) loopL c69_2 ⟨#[x0, x1, x2, x3, x4, x5, x6, x7, x8, x9, x10, x11, x12, x13, x14, x15, x16, x17, x18, x19, x20, x21, x22, x23, x24, x25, x26, x27, x28, x29, t30_35, t31_36, t32_37, x4, t34_39, t35_41, x4, t37_43, t38_45, t39_47, t40_48, x4, t42_50, t43_52, x44, x45, x46, x47, x48, x49, x50, x51, x52, x53, x54, x55, x56], h53⟩ k) (
codeK Try.prog (evC Try.prog) loopL c69_2 ⟨#[x0, x1, x2, x3, x4, x5, x6, x7, x8, x9, x10, x11, x12, x13, x14, x15, x16, x17, x18, x19, x20, x21, x22, x23, x24, x25, x26, x27, x28, x29, t30_35, t31_36, t32_37, x33, x34, x35, x36, x37, x38, x39, x40, x41, x42, x43, x44, x45, x46, x47, x48, x49, x50, x51, x52, x53, x54, x55, x56], h38⟩ k) := by kernel_rfl
theorem c69_2_eq {β : Type} (x0 x1 x2 x3 x4 x5 x6 x7 x8 x9 x10 x11 x12 x13 x14 x15 x16 x17 x18 x19 x20 x21 x22 x23 x24 x25 x26 x27 x28 x29 x30 x31 x32 x33 x34 x35 x36 x37 x38 x39 x40 x41 x42 x43 x44 x45 x46 x47 x48 x49 x50 x51 x52 x53 x54 x55 x56 : Value) (h : Heap) (k : Ex → St → Option β) : codeK Try.prog (evC Try.prog) loopL c69_2 ⟨#[x0, x1, x2, x3, x4, x5, x6, x7, x8, x9, x10, x11, x12, x13, x14, x15, x16, x17, x18, x19, x20, x21, x22, x23, x24, x25, x26, x27, x28, x29, x30, x31, x32, x33, x34, x35, x36, x37, x38, x39, x40, x41, x42, x43, x44, x45, x46, x47, x48, x49, x50, x51, x52, x53, x54, x55, x56], h⟩ k =
obH (evC Try.prog 54 #[x4, (Go.Value.int Go.IntKind.i64 20000)] h) fun t45_54 h55 =>
(fieldAddrV Try.prog 104 x5 9).bind fun t46_56 =>
(storeV Try.prog 23 t46_56 t45_54 h55).bind fun h57 =>
obH (evC Try.prog 47 #[x4] h57) fun t48_58 h59 =>
(unV Try.prog .not t48_58).bind fun t49_60 =>
(gd (wt t49_60 false) (loadV Try.prog 104 x5 h59)).bind fun t51_61 =>
obH (gdH (wt t49_60 false) h59 (evC Try.prog 71 #[t51_61] h59)) fun t52_62 h63 =>
(gd (wt t49_60 false) (unV Try.prog .not t52_62)).bind fun t53_64 =>
(pickV t49_60 (Go.Value.bool Bool.true) t53_64).bind fun t54_65 =>
cnd t54_65 (
(buildV Try.prog 104 #[]).bind fun t55_66 =>
(storeV Try.prog 104 x2 t55_66 h63).bind fun h67 =>
k .ret ⟨#[x0, x1, x2, (Go.Value.int Go.IntKind.i64 2), x4, x5, x6, x7, x8, x9, x10, x11, x12, x13, x14, x15, x16, x17, x18, x19, x20, x21, x22, x23, x24, x25, x26, x27, x28, x29, x30, x31, x32, x33, x34, x35, x36, x37, x38, x39, x40, x41, x42, x43, x4, t45_54, t46_56, x4, t48_58, t49_60, t49_60, t51_61, t52_62, t53_64, t54_65, t55_66, x56], h67⟩) (
(loadV Try.prog 104 x5 h63).bind fun t56_68 =>
(storeV Try.prog 104 x2 t56_68 h63).bind fun h69 =>
k .ret ⟨#[x0, x1, x2, (Go.Value.int Go.IntKind.i64 0), x4, x5, x6, x7, x8, x9, x10, x11, x12, x13, x14, x15, x16, x17, x18, x19, x20, x21, x22, x23, x24, x25, x26, x27, x28, x29, x30, x31, x32, x33, x34, x35, x36, x37, x38, x39, x40, x41, x42, x43, x4, t45_54, t46_56, x4, t48_58, t49_60, t49_60, t51_61, t52_62, t53_64, t54_65, x55, t56_68], h69⟩) := by kernel_rfl
theorem call69 (x0 : Value) (h : Heap) : evC Try.prog 69 #[x0] h = codeK Try.prog (evC Try.prog) loopL c69_0 ⟨#[x0, undef, undef, undef, undef, undef, undef, undef, undef, undef, undef, undef, undef, undef, undef, undef, undef, undef, undef, undef, undef, undef, undef, undef, undef, undef, undef, undef, undef, undef, undef, undef, undef, undef, undef, undef, undef, undef, undef, undef, undef, undef, undef, undef, undef, undef, undef, undef, undef, undef, undef, undef, undef, undef, undef, undef, undef], nm h⟩ (retK Try.f69 Try.prog h) :=
  (evC_call 69 Try.f69 c69_0 Try.func69 (by kernel_rfl) #[x0] h).trans (by kernel_rfl)
theorem ret69 (x0 x1 x2 x3 x4 x5 x6 x7 x8 x9 x10 x11 x12 x13 x14 x15 x16 x17 x18 x19 x20 x21 x22 x23 x24 x25 x26 x27 x28 x29 x30 x31 x32 x33 x34 x35 x36 x37 x38 x39 x40 x41 x42 x43 x44 x45 x46 x47 x48 x49 x50 x51 x52 x53 x54 x55 x56 : Value) (h0 h : Heap) : retK Try.f69 Try.prog h0 .ret ⟨#[x0, x1, x2, x3, x4, x5, x6, x7, x8, x9, x10, x11, x12, x13, x14, x15, x16, x17, x18, x19, x20, x21, x22, x23, x24, x25, x26, x27, x28, x29, x30, x31, x32, x33, x34, x35, x36, x37, x38, x39, x40, x41, x42, x43, x44, x45, x46, x47, x48, x49, x50, x51, x52, x53, x54, x55, x56], h⟩ = fin h0 (rvals ((loadV Try.prog 104 x2 h).bind fun r0 => some [r0, x3])) h := by kernel_rfl
theorem retn69 (x0 x1 x2 x3 x4 x5 x6 x7 x8 x9 x10 x11 x12 x13 x14 x15 x16 x17 x18 x19 x20 x21 x22 x23 x24 x25 x26 x27 x28 x29 x30 x31 x32 x33 x34 x35 x36 x37 x38 x39 x40 x41 x42 x43 x44 x45 x46 x47 x48 x49 x50 x51 x52 x53 x54 x55 x56 : Value) (h0 h : Heap) : retK Try.f69 Try.prog h0 .normal ⟨#[x0, x1, x2, x3, x4, x5, x6, x7, x8, x9, x10, x11, x12, x13, x14, x15, x16, x17, x18, x19, x20, x21, x22, x23, x24, x25, x26, x27, x28, x29, x30, x31, x32, x33, x34, x35, x36, x37, x38, x39, x40, x41, x42, x43, x44, x45, x46, x47, x48, x49, x50, x51, x52, x53, x54, x55, x56], h⟩ = fin h0 (rvals ((loadV Try.prog 104 x2 h).bind fun r0 => some [r0, x3])) h := by kernel_rfl
end Go.Am
namespace Go.Am
open Go.Proofs
set_option maxRecDepth 100000
noncomputable def c41_0 : Code := bodyC Try.f41 []
theorem c41_0_eq {β : Type} (x0 x1 x2 x3 x4 x5 x6 x7 x8 x9 x10 x11 x12 x13 x14 x15 x16 x17 x18 x19 x20 x21 x22 x23 x24 x25 x26 x27 x28 x29 x30 x31 x32 x33 x34 x35 : Value) (h : Heap) (k : Ex → St → Option β) : codeK Try.prog (evC Try.prog) loopL c41_0 ⟨#[x0, x1, x2, x3, x4, x5, x6, x7, x8, x9, x10, x11, x12, x13, x14, x15, x16, x17, x18, x19, x20, x21, x22, x23, x24, x25, x26, x27, x28, x29, x30, x31, x32, x33, x34, x35], h⟩ k =
obH (evC Try.prog 42 #[] h) fun t3_0 h1 =>
(binV Try.prog .eql 71 (.tmp 4) (.const (Go.Value.pointer Option.none)) t3_0 (Go.Value.pointer Option.none)).bind fun t5_2 =>
cnd t5_2 (
k .ret ⟨#[(Go.Value.bool Bool.false), t3_0, x2, t3_0, t3_0, t5_2, x6, x7, x8, x9, x10, x11, x12, x13, x14, x15, x16, x17, x18, x19, x20, x21, x22, x23, x24, x25, x26, x27, x28, x29, x30, x31, x32, x33, x34, x35], h1⟩) (
obH (evC Try.prog 43 #[t3_0, (Go.Value.int Go.IntKind.u64 300)] h1) fun t7_3 h4 =>
obH (buildSliceV Try.prog 23 1 #[(0, (Go.Value.int Go.IntKind.u8 97))] h4) fun t9_5 h6 =>
obH (convV Try.prog 23 23 t9_5 h6) fun t10_7 h8 =>
obH (evC Try.prog 61 #[t3_0, t10_7] h8) fun t11_9 h10 =>
obH (evC Try.prog 44 #[t3_0] h10) fun t13_11 h12 =>
obH (evC Try.prog 45 #[t13_11] h12) fun t14_13 h14 =>
(binV Try.prog .eql 76 (.tmp 15) (.const (Go.Value.pointer Option.none)) t14_13 (Go.Value.pointer Option.none)).bind fun t16_15 =>
cnd t16_15 (
k .ret ⟨#[(Go.Value.bool Bool.false), t3_0, t14_13, t3_0, t3_0, t5_2, t3_0, t7_3, t3_0, t9_5, t10_7, t11_9, t3_0, t13_11, t14_13, t14_13, t16_15, x17, x18, x19, x20, x21, x22, x23, x24, x25, x26, x27, x28, x29, x30, x31, x32, x33, x34, x35], h14⟩) (
obH (evC Try.prog 44 #[t3_0] h14) fun t18_16 h17 =>
obH (convV Try.prog 23 9 t18_16 h17) fun t19_18 h19 =>
(binV Try.prog .eql 9 (.tmp 19) (.const (Go.Value.string { data := #[172, 2, 1, 97] })) t19_18 (Go.Value.string { data := #[172, 2, 1, 97] })).bind fun t20_20 =>
obH (gdH (wt t20_20 true) h19 (evC Try.prog 46 #[(gdV (wt t20_20 true) t14_13), (Go.Value.int Go.IntKind.u64 300)] h19)) fun t23_21 h22 =>
(gd (wt t20_20 true) (binV Try.prog .eql 46 (.tmp 23) (.const (Go.Value.int Go.IntKind.u64 300)) t23_21 (Go.Value.int Go.IntKind.u64 300))).bind fun t24_23 =>
(pickV t20_20 t24_23 (Go.Value.bool Bool.false)).bind fun t25_24 =>
obH (gdH (wt t25_24 true) h22 (evC Try.prog 54 #[(gdV (wt t25_24 true) t14_13), (Go.Value.int Go.IntKind.i64 1)] h22)) fun t28_25 h26 =>
obH (gdH (wt t25_24 true) h26 (convV Try.prog 23 9 t28_25 h26)) fun t29_27 h28 =>
(gd (wt t25_24 true) (binV Try.prog .eql 9 (.tmp 29) (.const (Go.Value.string { data := #[97] })) t29_27 (Go.Value.string { data := #[97] }))).bind fun t30_29 =>
(pickV t25_24 t30_29 (Go.Value.bool Bool.false)).bind fun t31_30 =>
obH (gdH (wt t31_30 true) h28 (evC Try.prog 47 #[(gdV (wt t31_30 true) t14_13)] h28)) fun t34_31 h32 =>
(pickV t31_30 t34_31 (Go.Value.bool Bool.false)).bind fun t35_33 =>
k .ret ⟨#[t35_33, t3_0, t14_13, t3_0, t3_0, t5_2, t3_0, t7_3, t3_0, t9_5, t10_7, t11_9, t3_0, t13_11, t14_13, t14_13, t16_15, t3_0, t18_16, t19_18, t20_20, t20_20, (gdV (wt t20_20 true) t14_13), t23_21, t24_23, t25_24, t25_24, (gdV (wt t25_24 true) t14_13), t28_25, t29_27, t30_29, t31_30, t31_30, (gdV (wt t31_30 true) t14_13), t34_31, t35_33], h32⟩)) := by kernel_rfl
theorem call41 (h : Heap) : evC Try.prog 41 #[] h = codeK Try.prog (evC Try.prog) loopL c41_0 ⟨#[undef, undef, undef, undef, undef, undef, undef, undef, undef, undef, undef, undef, undef, undef, undef, undef, undef, undef, undef, undef, undef, undef, undef, undef, undef, undef, undef, undef, undef, undef, undef, undef, undef, undef, undef, undef], nm h⟩ (retK Try.f41 Try.prog h) :=
  (evC_call 41 Try.f41 c41_0 Try.func41 (by kernel_rfl) #[] h).trans (by kernel_rfl)
theorem ret41 (x0 x1 x2 x3 x4 x5 x6 x7 x8 x9 x10 x11 x12 x13 x14 x15 x16 x17 x18 x19 x20 x21 x22 x23 x24 x25 x26 x27 x28 x29 x30 x31 x32 x33 x34 x35 : Value) (h0 h : Heap) : retK Try.f41 Try.prog h0 .ret ⟨#[x0, x1, x2, x3, x4, x5, x6, x7, x8, x9, x10, x11, x12, x13, x14, x15, x16, x17, x18, x19, x20, x21, x22, x23, x24, x25, x26, x27, x28, x29, x30, x31, x32, x33, x34, x35], h⟩ = fin h0 (some x0) h := by kernel_rfl
theorem retn41 (x0 x1 x2 x3 x4 x5 x6 x7 x8 x9 x10 x11 x12 x13 x14 x15 x16 x17 x18 x19 x20 x21 x22 x23 x24 x25 x26 x27 x28 x29 x30 x31 x32 x33 x34 x35 : Value) (h0 h : Heap) : retK Try.f41 Try.prog h0 .normal ⟨#[x0, x1, x2, x3, x4, x5, x6, x7, x8, x9, x10, x11, x12, x13, x14, x15, x16, x17, x18, x19, x20, x21, x22, x23, x24, x25, x26, x27, x28, x29, x30, x31, x32, x33, x34, x35], h⟩ = fin h0 (some x0) h := by kernel_rfl
end Go.Am
namespace Go.Am
open Go.Proofs
set_option maxRecDepth 100000
noncomputable def c68_0 : Code := bodyC Try.f68 []
theorem c68_0_eq {β : Type} (x0 x1 x2 x3 x4 x5 x6 x7 x8 x9 x10 x11 x12 x13 x14 x15 x16 x17 x18 x19 x20 x21 x22 x23 : Value) (h : Heap) (k : Ex → St → Option β) : codeK Try.prog (evC Try.prog) loopL c68_0 ⟨#[x0, x1, x2, x3, x4, x5, x6, x7, x8, x9, x10, x11, x12, x13, x14, x15, x16, x17, x18, x19, x20, x21, x22, x23], h⟩ k =
obH (boxV Try.prog 104 x0 h) fun t1_0 h1 =>
obH (allocV Try.prog 108 h1) fun t2_2 h3 =>
(fieldAddrV Try.prog 104 t1_0 0).bind fun t3_4 =>
(loadV Try.prog 3 t3_4 h3).bind fun t4_5 =>
(fieldAddrV Try.prog 104 t1_0 1).bind fun t5_6 =>
(loadV Try.prog 46 t5_6 h3).bind fun t6_7 =>
(fieldAddrV Try.prog 104 t1_0 2).bind fun t7_8 =>
(loadV Try.prog 47 t7_8 h3).bind fun t8_9 =>
(fieldAddrV Try.prog 104 t1_0 3).bind fun t9_10 =>
(loadV Try.prog 3 t9_10 h3).bind fun t10_11 =>
(fieldAddrV Try.prog 104 t1_0 4).bind fun t11_12 =>
(loadV Try.prog 3 t11_12 h3).bind fun t12_13 =>
(fieldAddrV Try.prog 104 t1_0 5).bind fun t13_14 =>
(loadV Try.prog 84 t13_14 h3).bind fun t14_15 =>
(fieldAddrV Try.prog 104 t1_0 6).bind fun t15_16 =>
(loadV Try.prog 3 t15_16 h3).bind fun t16_17 =>
(fieldAddrV Try.prog 104 t1_0 7).bind fun t17_18 =>
(loadV Try.prog 46 t17_18 h3).bind fun t18_19 =>
(fieldAddrV Try.prog 104 t1_0 8).bind fun t19_20 =>
(loadV Try.prog 23 t19_20 h3).bind fun t20_21 =>
(fieldAddrV Try.prog 104 t1_0 9).bind fun t21_22 =>
(loadV Try.prog 23 t21_22 h3).bind fun t22_23 =>
(buildV Try.prog 108 #[(0, t4_5), (1, t6_7), (2, t8_9), (3, t10_11), (4, t12_13), (5, t14_15), (6, t16_17), (7, t18_19), (8, t20_21), (9, t22_23)]).bind fun t23_24 =>
(storeV Try.prog 108 t2_2 t23_24 h3).bind fun h25 =>
k .ret ⟨#[x0, t1_0, t2_2, t3_4, t4_5, t5_6, t6_7, t7_8, t8_9, t9_10, t10_11, t11_12, t12_13, t13_14, t14_15, t15_16, t16_17, t17_18, t18_19, t19_20, t20_21, t21_22, t22_23, t23_24], h25⟩ := by kernel_rfl
theorem call68 (x0 : Value) (h : Heap) : evC Try.prog 68 #[x0] h = codeK Try.prog (evC Try.prog) loopL c68_0 ⟨#[x0, undef, undef, undef, undef, undef, undef, undef, undef, undef, undef, undef, undef, undef, undef, undef, undef, undef, undef, undef, undef, undef, undef, undef], nm h⟩ (retK Try.f68 Try.prog h) :=
  (evC_call 68 Try.f68 c68_0 Try.func68 (by kernel_rfl) #[x0] h).trans (by kernel_rfl)
theorem ret68 (x0 x1 x2 x3 x4 x5 x6 x7 x8 x9 x10 x11 x12 x13 x14 x15 x16 x17 x18 x19 x20 x21 x22 x23 : Value) (h0 h : Heap) : retK Try.f68 Try.prog h0 .ret ⟨#[x0, x1, x2, x3, x4, x5, x6, x7, x8, x9, x10, x11, x12, x13, x14, x15, x16, x17, x18, x19, x20, x21, x22, x23], h⟩ = fin h0 (rvals ((loadV Try.prog 108 x2 h).bind fun r0 => some [r0])) h := by kernel_rfl
theorem retn68 (x0 x1 x2 x3 x4 x5 x6 x7 x8 x9 x10 x11 x12 x13 x14 x15 x16 x17 x18 x19 x20 x21 x22 x23 : Value) (h0 h : Heap) : retK Try.f68 Try.prog h0 .normal ⟨#[x0, x1, x2, x3, x4, x5, x6, x7, x8, x9, x10, x11, x12, x13, x14, x15, x16, x17, x18, x19, x20, x21, x22, x23], h⟩ = fin h0 (rvals ((loadV Try.prog 108 x2 h).bind fun r0 => some [r0])) h := by kernel_rfl
end Go.Am
namespace Go.Am
open Go.Proofs
set_option maxRecDepth 100000
noncomputable def c74_0 : Code := bodyC Try.f74 []
theorem c74_0_eq {β : Type} (x0 x1 x2 x3 x4 x5 x6 x7 x8 x9 x10 x11 x12 x13 x14 x15 x16 x17 x18 x19 x20 x21 x22 x23 x24 x25 x26 x27 x28 x29 x30 x31 x32 x33 x34 x35 x36 x37 x38 x39 x40 x41 x42 x43 x44 x45 x46 x47 x48 x49 x50 x51 x52 x53 x54 x55 x56 x57 x58 x59 x60 x61 x62 x63 x64 x65 x66 x67 x68 x69 x70 x71 x72 x73 x74 x75 x76 : Value) (h : Heap) (k : Ex → St → Option β) : codeK Try.prog (evC Try.prog) loopL c74_0 ⟨#[x0, x1, x2, x3, x4, x5, x6, x7, x8, x9, x10, x11, x12, x13, x14, x15, x16, x17, x18, x19, x20, x21, x22, x23, x24, x25, x26, x27, x28, x29, x30, x31, x32, x33, x34, x35, x36, x37, x38, x39, x40, x41, x42, x43, x44, x45, x46, x47, x48, x49, x50, x51, x52, x53, x54, x55, x56, x57, x58, x59, x60, x61, x62, x63, x64, x65, x66, x67, x68, x69, x70, x71, x72, x73, x74, x75, x76], h⟩ k =
obH (boxV Try.prog 108 x0 h) fun t2_0 h1 =>
obH (boxV Try.prog 108 x1 h1) fun t3_2 h3 =>
(fieldAddrV Try.prog 108 t2_0 0).bind fun t5_4 =>
(loadV Try.prog 3 t5_4 h3).bind fun t6_5 =>
(fieldAddrV Try.prog 108 t3_2 0).bind fun t7_6 =>
(loadV Try.prog 3 t7_6 h3).bind fun t8_7 =>
(binV Try.prog .eql 3 (.tmp 6) (.tmp 8) t6_5 t8_7).bind fun t9_8 =>
(gd (wt t9_8 true) (fieldAddrV Try.prog 108 t2_0 1)).bind fun t11_9 =>
(gd (wt t9_8 true) (loadV Try.prog 46 t11_9 h3)).bind fun t12_10 =>
(gd (wt t9_8 true) (fieldAddrV Try.prog 108 t3_2 1)).bind fun t13_11 =>
(gd (wt t9_8 true) (loadV Try.prog 46 t13_11 h3)).bind fun t14_12 =>
(gd (wt t9_8 true) (binV Try.prog .eql 46 (.tmp 12) (.tmp 14) t12_10 t14_12)).bind fun t15_13 =>
(pickV t9_8 t15_13 (Go.Value.bool Bool.false)).bind fun t16_14 =>
(gd (wt t16_14 true) (fieldAddrV Try.prog 108 t2_0 2)).bind fun t18_15 =>
(gd (wt t16_14 true) (loadV Try.prog 46 t18_15 h3)).bind fun t19_16 =>
(gd (wt t16_14 true) (fieldAddrV Try.prog 108 t3_2 2)).bind fun t20_17 =>
(gd (wt t16_14 true) (loadV Try.prog 46 t20_17 h3)).bind fun t21_18 =>
(gd (wt t16_14 true) (binV Try.prog .eql 46 (.tmp 19) (.tmp 21) t19_16 t21_18)).bind fun t22_19 =>
(pickV t16_14 t22_19 (Go.Value.bool Bool.false)).bind fun t23_20 =>
(gd (wt t23_20 true) (fieldAddrV Try.prog 108 t2_0 3)).bind fun t25_21 =>
(gd (wt t23_20 true) (loadV Try.prog 3 t25_21 h3)).bind fun t26_22 =>
(gd (wt t23_20 true) (fieldAddrV Try.prog 108 t3_2 3)).bind fun t27_23 =>
(gd (wt t23_20 true) (loadV Try.prog 3 t27_23 h3)).bind fun t28_24 =>
(gd (wt t23_20 true) (binV Try.prog .eql 3 (.tmp 26) (.tmp 28) t26_22 t28_24)).bind fun t29_25 =>
(pickV t23_20 t29_25 (Go.Value.bool Bool.false)).bind fun t30_26 =>
(gd (wt t30_26 true) (fieldAddrV Try.prog 108 t2_0 4)).bind fun t32_27 =>
(gd (wt t30_26 true) (loadV Try.prog 3 t32_27 h3)).bind fun t33_28 =>
(gd (wt t30_26 true) (fieldAddrV Try.prog 108 t3_2 4)).bind fun t34_29 =>
(gd (wt t30_26 true) (loadV Try.prog 3 t34_29 h3)).bind fun t35_30 =>
(gd (wt t30_26 true) (binV Try.prog .eql 3 (.tmp 33) (.tmp 35) t33_28 t35_30)).bind fun t36_31 =>
(pickV t30_26 t36_31 (Go.Value.bool Bool.false)).bind fun t37_32 =>
(gd (wt t37_32 true) (fieldAddrV Try.prog 108 t2_0 5)).bind fun t39_33 =>
(gd (wt t37_32 true) (loadV Try.prog 84 t39_33 h3)).bind fun t40_34 =>
(gd (wt t37_32 true) (fieldAddrV Try.prog 108 t3_2 5)).bind fun t41_35 =>
(gd (wt t37_32 true) (loadV Try.prog 84 t41_35 h3)).bind fun t42_36 =>
obH (gdH (wt t37_32 true) h3 (evC Try.prog 51 #[t40_34, t42_36] h3)) fun t43_37 h38 =>
(pickV t37_32 t43_37 (Go.Value.bool Bool.false)).bind fun t44_39 =>
(gd (wt t44_39 true) (fieldAddrV Try.prog 108 t2_0 6)).bind fun t46_40 =>
(gd (wt t44_39 true) (loadV Try.prog 3 t46_40 h38)).bind fun t47_41 =>
(gd (wt t44_39 true) (fieldAddrV Try.prog 108 t3_2 6)).bind fun t48_42 =>
(gd (wt t44_39 true) (loadV Try.prog 3 t48_42 h38)).bind fun t49_43 =>
(gd (wt t44_39 true) (binV Try.prog .eql 3 (.tmp 47) (.tmp 49) t47_41 t49_43)).bind fun t50_44 =>
(pickV t44_39 t50_44 (Go.Value.bool Bool.false)).bind fun t51_45 =>
(gd (wt t51_45 true) (fieldAddrV Try.prog 108 t2_0 7)).bind fun t53_46 =>
(gd (wt t51_45 true) (loadV Try.prog 46 t53_46 h38)).bind fun t54_47 =>
(gd (wt t51_45 true) (fieldAddrV Try.prog 108 t3_2 7)).bind fun t55_48 =>
(gd (wt t51_45 true) (loadV Try.prog 46 t55_48 h38)).bind fun t56_49 =>
(gd (wt t51_45 true) (binV Try.prog .eql 46 (.tmp 54) (.tmp 56) t54_47 t56_49)).bind fun t57_50 =>
(pickV t51_45 t57_50 (Go.Value.bool Bool.false)).bind fun t58_51 =>
(gd (wt t58_51 true) (fieldAddrV Try.prog 108 t2_0 8)).bind fun t60_52 =>
(gd (wt t58_51 true) (loadV Try.prog 23 t60_52 h38)).bind fun t61_53 =>
obH (gdH (wt t58_51 true) h38 (convV Try.prog 23 9 t61_53 h38)) fun t62_54 h55 =>
(gd (wt t58_51 true) (fieldAddrV Try.prog 108 t3_2 8)).bind fun t63_56 =>
(gd (wt t58_51 true) (loadV Try.prog 23 t63_56 h55)).bind fun t64_57 =>
obH (gdH (wt t58_51 true) h55 (convV Try.prog 23 9 t64_57 h55)) fun t65_58 h59 =>
(gd (wt t58_51 true) (binV Try.prog .eql 9 (.tmp 62) (.tmp 65) t62_54 t65_58)).bind fun t66_60 =>
(pickV t58_51 t66_60 (Go.Value.bool Bool.false)).bind fun t67_61 =>
(gd (wt t67_61 true) (fieldAddrV Try.prog 108 t2_0 9)).bind fun t69_62 =>
(gd (wt t67_61 true) (loadV Try.prog 23 t69_62 h59)).bind fun t70_63 =>
obH (gdH (wt t67_61 true) h59 (convV Try.prog 23 9 t70_63 h59)) fun t71_64 h65 =>
(gd (wt t67_61 true) (fieldAddrV Try.prog 108 t3_2 9)).bind fun t72_66 =>
(gd (wt t67_61 true) (loadV Try.prog 23 t72_66 h65)).bind fun t73_67 =>
obH (gdH (wt t67_61 true) h65 (convV Try.prog 23 9 t73_67 h65)) fun t74_68 h69 =>
(gd (wt t67_61 true) (binV Try.prog .eql 9 (.tmp 71) (.tmp 74) t71_64 t74_68)).bind fun t75_70 =>
(pickV t67_61 t75_70 (Go.Value.bool Bool.false)).bind fun t76_71 =>
k .ret ⟨#[x0, x1, t2_0, t3_2, t76_71, t5_4, t6_5, t7_6, t8_7, t9_8, t9_8, t11_9, t12_10, t13_11, t14_12, t15_13, t16_14, t16_14, t18_15, t19_16, t20_17, t21_18, t22_19, t23_20, t23_20, t25_21, t26_22, t27_23, t28_24, t29_25, t30_26, t30_26, t32_27, t33_28, t34_29, t35_30, t36_31, t37_32, t37_32, t39_33, t40_34, t41_35, t42_36, t43_37, t44_39, t44_39, t46_40, t47_41, t48_42, t49_43, t50_44, t51_45, t51_45, t53_46, t54_47, t55_48, t56_49, t57_50, t58_51, t58_51, t60_52, t61_53, t62_54, t63_56, t64_57, t65_58, t66_60, t67_61, t67_61, t69_62, t70_63, t71_64, t72_66, t73_67, t74_68, t75_70, t76_71], h69⟩ := by kernel_rfl
theorem call74 (x0 x1 : Value) (h : Heap) : evC Try.prog 74 #[x0, x1] h = codeK Try.prog (evC Try.prog) loopL c74_0 ⟨#[x0, x1, undef, undef, undef, undef, undef, undef, undef, undef, undef, undef, undef, undef, undef, undef, undef, undef, undef, undef, undef, undef, undef, undef, undef, undef, undef, undef, undef, undef, undef, undef, undef, undef, undef, undef, undef, undef, undef, undef, undef, undef, undef, undef, undef, undef, undef, undef, undef, undef, undef, undef, undef, undef, undef, undef, undef, undef, undef, undef, undef, undef, undef, undef, undef, undef, undef, undef, undef, undef, undef, undef, undef, undef, undef, undef, undef], nm h⟩ (retK Try.f74 Try.prog h) :=
  (evC_call 74 Try.f74 c74_0 Try.func74 (by kernel_rfl) #[x0, x1] h).trans (by kernel_rfl)
theorem ret74 (x0 x1 x2 x3 x4 x5 x6 x7 x8 x9 x10 x11 x12 x13 x14 x15 x16 x17 x18 x19 x20 x21 x22 x23 x24 x25 x26 x27 x28 x29 x30 x31 x32 x33 x34 x35 x36 x37 x38 x39 x40 x41 x42 x43 x44 x45 x46 x47 x48 x49 x50 x51 x52 x53 x54 x55 x56 x57 x58 x59 x60 x61 x62 x63 x64 x65 x66 x67 x68 x69 x70 x71 x72 x73 x74 x75 x76 : Value) (h0 h : Heap) : retK Try.f74 Try.prog h0 .ret ⟨#[x0, x1, x2, x3, x4, x5, x6, x7, x8, x9, x10, x11, x12, x13, x14, x15, x16, x17, x18, x19, x20, x21, x22, x23, x24, x25, x26, x27, x28, x29, x30, x31, x32, x33, x34, x35, x36, x37, x38, x39, x40, x41, x42, x43, x44, x45, x46, x47, x48, x49, x50, x51, x52, x53, x54, x55, x56, x57, x58, x59, x60, x61, x62, x63, x64, x65, x66, x67, x68, x69, x70, x71, x72, x73, x74, x75, x76], h⟩ = fin h0 (some x4) h := by kernel_rfl
theorem retn74 (x0 x1 x2 x3 x4 x5 x6 x7 x8 x9 x10 x11 x12 x13 x14 x15 x16 x17 x18 x19 x20 x21 x22 x23 x24 x25 x26 x27 x28 x29 x30 x31 x32 x33 x34 x35 x36 x37 x38 x39 x40 x41 x42 x43 x44 x45 x46 x47 x48 x49 x50 x51 x52 x53 x54 x55 x56 x57 x58 x59 x60 x61 x62 x63 x64 x65 x66 x67 x68 x69 x70 x71 x72 x73 x74 x75 x76 : Value) (h0 h : Heap) : retK Try.f74 Try.prog h0 .normal ⟨#[x0, x1, x2, x3, x4, x5, x6, x7, x8, x9, x10, x11, x12, x13, x14, x15, x16, x17, x18, x19, x20, x21, x22, x23, x24, x25, x26, x27, x28, x29, x30, x31, x32, x33, x34, x35, x36, x37, x38, x39, x40, x41, x42, x43, x44, x45, x46, x47, x48, x49, x50, x51, x52, x53, x54, x55, x56, x57, x58, x59, x60, x61, x62, x63, x64, x65, x66, x67, x68, x69, x70, x71, x72, x73, x74, x75, x76], h⟩ = fin h0 (some x4) h := by kernel_rfl
end Go.Am
namespace Go.Am
open Go.Proofs
set_option maxRecDepth 100000
noncomputable def c75_0 : Code := bodyC Try.f75 []
theorem c75_0_eq {β : Type} (x0 x1 x2 x3 : Value) (h : Heap) (k : Ex → St → Option β) : codeK Try.prog (evC Try.prog) loopL c75_0 ⟨#[x0, x1, x2, x3], h⟩ k =
obH (allocV Try.prog 104 h) fun t0_0 h1 =>
obH (buildSliceV Try.prog 23 1 #[(0, (Go.Value.int Go.IntKind.u8 97))] h1) fun t1_2 h3 =>
obH (convV Try.prog 23 23 t1_2 h3) fun t2_4 h5 =>
(buildV Try.prog 104 #[(1, (Go.Value.int Go.IntKind.u64 1)), (2, (Go.Value.int Go.IntKind.u64 2)), (8, t2_4)]).bind fun t3_6 =>
(storeV Try.prog 104 t0_0 t3_6 h5).bind fun h7 =>
k .ret ⟨#[t0_0, t1_2, t2_4, t3_6], h7⟩ := by kernel_rfl
theorem call75 (h : Heap) : evC Try.prog 75 #[] h = codeK Try.prog (evC Try.prog) loopL c75_0 ⟨#[undef, undef, undef, undef], nm h⟩ (retK Try.f75 Try.prog h) :=
  (evC_call 75 Try.f75 c75_0 Try.func75 (by kernel_rfl) #[] h).trans (by kernel_rfl)
theorem ret75 (x0 x1 x2 x3 : Value) (h0 h : Heap) : retK Try.f75 Try.prog h0 .ret ⟨#[x0, x1, x2, x3], h⟩ = fin h0 (rvals ((loadV Try.prog 104 x0 h).bind fun r0 => some [r0])) h := by kernel_rfl
theorem retn75 (x0 x1 x2 x3 : Value) (h0 h : Heap) : retK Try.f75 Try.prog h0 .normal ⟨#[x0, x1, x2, x3], h⟩ = fin h0 (rvals ((loadV Try.prog 104 x0 h).bind fun r0 => some [r0])) h := by kernel_rfl
end Go.Am
namespace Go.Am
open Go.Proofs
set_option maxRecDepth 100000
noncomputable def c65_0 : Code := bodyC Try.f65 []
theorem c65_0_eq {β : Type} (x0 x1 x2 x3 x4 x5 x6 x7 x8 x9 x10 x11 x12 x13 x14 x15 x16 x17 x18 x19 x20 x21 x22 x23 x24 x25 x26 x27 x28 x29 x30 x31 x32 x33 : Value) (h : Heap) (k : Ex → St → Option β) : codeK Try.prog (evC Try.prog) loopL c65_0 ⟨#[x0, x1, x2, x3, x4, x5, x6, x7, x8, x9, x10, x11, x12, x13, x14, x15, x16, x17, x18, x19, x20, x21, x22, x23, x24, x25, x26, x27, x28, x29, x30, x31, x32, x33], h⟩ k =
obH (evC Try.prog 75 #[] h) fun t4_0 h1 =>
obH (evC Try.prog 66 #[t4_0] h1) fun t5_2 h3 =>
obH (evC Try.prog 69 #[t5_2] h3) fun t8_4 h5 =>
(extractV t8_4 0).bind fun t9_6 =>
(extractV t8_4 1).bind fun t10_7 =>
obH (allocV Try.prog 104 h5) fun t2_8 h9 =>
(storeV Try.prog 104 t2_8 t9_6 h9).bind fun h10 =>
(lenV Try.prog 23 t5_2 h10).bind fun t12_11 =>
(binV Try.prog .eql 3 (.tmp 12) (.const (Go.Value.int Go.IntKind.i64 7)) t12_11 (Go.Value.int Go.IntKind.i64 7)).bind fun t13_12 =>
(gd (wt t13_12 true) (binV Try.prog .eql 41 (.tmp 15) (.const (Go.Value.int Go.IntKind.i64 0)) (gdV (wt t13_12 true) t10_7) (Go.Value.int Go.IntKind.i64 0))).bind fun t16_13 =>
(pickV t13_12 t16_13 (Go.Value.bool Bool.false)).bind fun t17_14 =>
(gd (wt t17_14 true) (loadV Try.prog 104 t2_8 h10)).bind fun t19_15 =>
obH (gdH (wt t17_14 true) h10 (evC Try.prog 68 #[t19_15] h10)) fun t20_16 h17 =>
obH (gdH (wt t17_14 true) h17 (evC Try.prog 75 #[] h17)) fun t21_18 h19 =>
obH (gdH (wt t17_14 true) h19 (evC Try.prog 68 #[t21_18] h19)) fun t22_20 h21 =>
obH (gdH (wt t17_14 true) h21 (evC Try.prog 74 #[t20_16, t22_20] h21)) fun t23_22 h23 =>
(pickV t17_14 t23_22 (Go.Value.bool Bool.false)).bind fun t24_24 =>
obH (gdH (wt t24_24 true) h23 (evC Try.prog 75 #[] h23)) fun t26_25 h26 =>
obH (gdH (wt t24_24 true) h26 (evC Try.prog 73 #[t26_25] h26)) fun t27_27 h28 =>
(gd (wt t24_24 true) (binV Try.prog .eql 3 (.tmp 27) (.const (Go.Value.int Go.IntKind.i64 7)) t27_27 (Go.Value.int Go.IntKind.i64 7))).bind fun t28_29 =>
(pickV t24_24 t28_29 (Go.Value.bool Bool.false)).bind fun t29_30 =>
obH (gdH (wt t29_30 true) h28 (evC Try.prog 75 #[] h28)) fun t31_31 h32 =>
obH (gdH (wt t29_30 true) h32 (evC Try.prog 71 #[t31_31] h32)) fun t32_33 h34 =>
(pickV t29_30 t32_33 (Go.Value.bool Bool.false)).bind fun t33_35 =>
k .ret ⟨#[t33_35, t5_2, t2_8, t10_7, t4_0, t5_2, t8_4, t5_2, t8_4, t9_6, t10_7, t5_2, t12_11, t13_12, t13_12, (gdV (wt t13_12 true) t10_7), t16_13, t17_14, t17_14, t19_15, t20_16, t21_18, t22_20, t23_22, t24_24, t24_24, t26_25, t27_27, t28_29, t29_30, t29_30, t31_31, t32_33, t33_35], h34⟩ := by kernel_rfl
theorem call65 (h : Heap) : evC Try.prog 65 #[] h = codeK Try.prog (evC Try.prog) loopL c65_0 ⟨#[undef, undef, undef, undef, undef, undef, undef, undef, undef, undef, undef, undef, undef, undef, undef, undef, undef, undef, undef, undef, undef, undef, undef, undef, undef, undef, undef, undef, undef, undef, undef, undef, undef, undef], nm h⟩ (retK Try.f65 Try.prog h) :=
  (evC_call 65 Try.f65 c65_0 Try.func65 (by kernel_rfl) #[] h).trans (by kernel_rfl)
theorem ret65 (x0 x1 x2 x3 x4 x5 x6 x7 x8 x9 x10 x11 x12 x13 x14 x15 x16 x17 x18 x19 x20 x21 x22 x23 x24 x25 x26 x27 x28 x29 x30 x31 x32 x33 : Value) (h0 h : Heap) : retK Try.f65 Try.prog h0 .ret ⟨#[x0, x1, x2, x3, x4, x5, x6, x7, x8, x9, x10, x11, x12, x13, x14, x15, x16, x17, x18, x19, x20, x21, x22, x23, x24, x25, x26, x27, x28, x29, x30, x31, x32, x33], h⟩ = fin h0 (some x0) h := by kernel_rfl
theorem retn65 (x0 x1 x2 x3 x4 x5 x6 x7 x8 x9 x10 x11 x12 x13 x14 x15 x16 x17 x18 x19 x20 x21 x22 x23 x24 x25 x26 x27 x28 x29 x30 x31 x32 x33 : Value) (h0 h : Heap) : retK Try.f65 Try.prog h0 .normal ⟨#[x0, x1, x2, x3, x4, x5, x6, x7, x8, x9, x10, x11, x12, x13, x14, x15, x16, x17, x18, x19, x20, x21, x22, x23, x24, x25, x26, x27, x28, x29, x30, x31, x32, x33], h⟩ = fin h0 (some x0) h := by kernel_rfl
end Go.Am
namespace Go.Am
open Go.Proofs
set_option maxRecDepth 100000
noncomputable def c72_0 : Code := bodyC Try.f72 []
theorem c72_0_eq {β : Type} (x0 x1 x2 x3 x4 x5 x6 x7 x8 x9 x10 x11 x12 x13 x14 x15 x16 x17 x18 x19 x20 x21 x22 x23 x24 x25 x26 x27 x28 x29 x30 x31 x32 x33 x34 x35 x36 x37 x38 x39 x40 x41 x42 x43 x44 x45 x46 x47 x48 x49 x50 x51 x52 x53 x54 x55 x56 x57 x58 x59 x60 x61 x62 x63 x64 x65 x66 x67 x68 x69 x70 x71 x72 x73 x74 x75 x76 x77 x78 x79 x80 x81 x82 x83 x84 x85 x86 x87 x88 x89 x90 x91 x92 x93 x94 x95 x96 x97 x98 x99 x100 x101 x102 x103 x104 x105 x106 x107 x108 x109 x110 x111 x112 x113 x114 x115 x116 x117 x118 x119 x120 x121 x122 x123 x124 x125 x126 x127 x128 x129 x130 x131 : Value) (h : Heap) (k : Ex → St → Option β) : codeK Try.prog (evC Try.prog) loopL c72_0 ⟨#[x0, x1, x2, x3, x4, x5, x6, x7, x8, x9, x10, x11, x12, x13, x14, x15, x16, x17, x18, x19, x20, x21, x22, x23, x24, x25, x26, x27, x28, x29, x30, x31, x32, x33, x34, x35, x36, x37, x38, x39, x40, x41, x42, x43, x44, x45, x46, x47, x48, x49, x50, x51, x52, x53, x54, x55, x56, x57, x58, x59, x60, x61, x62, x63, x64, x65, x66, x67, x68, x69, x70, x71, x72, x73, x74, x75, x76, x77, x78, x79, x80, x81, x82, x83, x84, x85, x86, x87, x88, x89, x90, x91, x92, x93, x94, x95, x96, x97, x98, x99, x100, x101, x102, x103, x104, x105, x106, x107, x108, x109, x110, x111, x112, x113, x114, x115, x116, x117, x118, x119, x120, x121, x122, x123, x124, x125, x126, x127, x128, x129, x130, x131], h⟩ k =
obH (boxV Try.prog 108 x0 h) fun t1_0 h1 =>
(fieldAddrV Try.prog 108 t1_0 0).bind fun t3_2 =>
(loadV Try.prog 3 t3_2 h1).bind fun t4_3 =>
(binV Try.prog .lss 3 (.tmp 4) (.const (Go.Value.int Go.IntKind.i64 0)) t4_3 (Go.Value.int Go.IntKind.i64 0)).bind fun t5_4 =>
(gd (wt t5_4 false) (fieldAddrV Try.prog 108 t1_0 0)).bind fun t7_5 =>
(gd (wt t5_4 false) (loadV Try.prog 3 t7_5 h1)).bind fun t8_6 =>
(gd (wt t5_4 false) (binV Try.prog .gtr 3 (.tmp 8) (.const (Go.Value.int Go.IntKind.i64 15)) t8_6 (Go.Value.int Go.IntKind.i64 15))).bind fun t9_7 =>
(pickV t5_4 (Go.Value.bool Bool.true) t9_7).bind fun t10_8 =>
(gd (wt t10_8 false) (fieldAddrV Try.prog 108 t1_0 1)).bind fun t12_9 =>
(gd (wt t10_8 false) (loadV Try.prog 46 t12_9 h1)).bind fun t13_10 =>
(gd (wt t10_8 false) (binV Try.prog .lss 46 (.tmp 13) (.const (Go.Value.int Go.IntKind.u64 1)) t13_10 (Go.Value.int Go.IntKind.u64 1))).bind fun t14_11 =>
(pickV t10_8 (Go.Value.bool Bool.true) t14_11).bind fun t15_12 =>
(gd (wt t15_12 false) (fieldAddrV Try.prog 108 t1_0 2)).bind fun t17_13 =>
(gd (wt t15_12 false) (loadV Try.prog 46 t17_13 h1)).bind fun t18_14 =>
(gd (wt t15_12 false) (binV Try.prog .eql 46 (.tmp 18) (.const (Go.Value.int Go.IntKind.u64 0)) t18_14 (Go.Value.int Go.IntKind.u64 0))).bind fun t19_15 =>
(pickV t15_12 (Go.Value.bool Bool.true) t19_15).bind fun t20_16 =>
(gd (wt t20_16 false) (fieldAddrV Try.prog 108 t1_0 2)).bind fun t22_17 =>
(gd (wt t20_16 false) (loadV Try.prog 46 t22_17 h1)).bind fun t23_18 =>
(gd (wt t20_16 false) (binV Try.prog .gtr 46 (.tmp 23) (.const (Go.Value.int Go.IntKind.u64 65535)) t23_18 (Go.Value.int Go.IntKind.u64 65535))).bind fun t24_19 =>
(pickV t20_16 (Go.Value.bool Bool.true) t24_19).bind fun t25_20 =>
(gd (wt t25_20 false) (fieldAddrV Try.prog 108 t1_0 2)).bind fun t27_21 =>
(gd (wt t25_20 false) (loadV Try.prog 46 t27_21 h1)).bind fun t28_22 =>
(gd (wt t25_20 false) (fieldAddrV Try.prog 108 t1_0 0)).bind fun t29_23 =>
(gd (wt t25_20 false) (loadV Try.prog 3 t29_23 h1)).bind fun t30_24 =>
obH (gdH (wt t25_20 false) h1 (evC Try.prog 114 #[t28_22, t30_24] h1)) fun t31_25 h26 =>
(pickV t25_20 (Go.Value.bool Bool.true) t31_25).bind fun t32_27 =>
(gd (wt t32_27 false) (fieldAddrV Try.prog 108 t1_0 3)).bind fun t34_28 =>
(gd (wt t32_27 false) (loadV Try.prog 3 t34_28 h26)).bind fun t35_29 =>
(gd (wt t32_27 false) (binV Try.prog .lss 3 (.tmp 35) (.const (Go.Value.int Go.IntKind.i64 0)) t35_29 (Go.Value.int Go.IntKind.i64 0))).bind fun t36_30 =>
(pickV t32_27 (Go.Value.bool Bool.true) t36_30).bind fun t37_31 =>
(gd (wt t37_31 false) (fieldAddrV Try.prog 108 t1_0 3)).bind fun t39_32 =>
(gd (wt t37_31 false) (loadV Try.prog 3 t39_32 h26)).bind fun t40_33 =>
(gd (wt t37_31 false) (binV Try.prog .gtr 3 (.tmp 40) (.const (Go.Value.int Go.IntKind.i64 3)) t40_33 (Go.Value.int Go.IntKind.i64 3))).bind fun t41_34 =>
(pickV t37_31 (Go.Value.bool Bool.true) t41_34).bind fun t42_35 =>
(gd (wt t42_35 false) (fieldAddrV Try.prog 108 t1_0 8)).bind fun t44_36 =>
(gd (wt t42_35 false) (loadV Try.prog 23 t44_36 h26)).bind fun t45_37 =>
(gd (wt t42_35 false) (lenV Try.prog 23 t45_37 h26)).bind fun t46_38 =>
(gd (wt t42_35 false) (binV Try.prog .gtr 3 (.tmp 46) (.const (Go.Value.int Go.IntKind.i64 256)) t46_38 (Go.Value.int Go.IntKind.i64 256))).bind fun t47_39 =>
(pickV t42_35 (Go.Value.bool Bool.true) t47_39).bind fun t48_40 =>
(gd (wt t48_40 false) (fieldAddrV Try.prog 108 t1_0 3)).bind fun t50_41 =>
(gd (wt t48_40 false) (loadV Try.prog 3 t50_41 h26)).bind fun t51_42 =>
(gd (wt t48_40 false) (binV Try.prog .neq 3 (.tmp 51) (.const (Go.Value.int Go.IntKind.i64 0)) t51_42 (Go.Value.int Go.IntKind.i64 0))).bind fun t52_43 =>
(gd (wt (gdV (wt t48_40 false) t52_43) true) (fieldAddrV Try.prog 108 t1_0 8)).bind fun t54_44 =>
(gd (wt (gdV (wt t48_40 false) t52_43) true) (loadV Try.prog 23 t54_44 h26)).bind fun t55_45 =>
(gd (wt (gdV (wt t48_40 false) t52_43) true) (lenV Try.prog 23 t55_45 h26)).bind fun t56_46 =>
(gd (wt (gdV (wt t48_40 false) t52_43) true) (binV Try.prog .gtr 3 (.tmp 56) (.const (Go.Value.int Go.IntKind.i64 0)) t56_46 (Go.Value.int Go.IntKind.i64 0))).bind fun t57_47 =>
(gd (wt t48_40 false) (pickV (gdV (wt t48_40 false) t52_43) t57_47 (Go.Value.bool Bool.false))).bind fun t58_48 =>
(pickV t48_40 (Go.Value.bool Bool.true) t58_48).bind fun t59_49 =>
(gd (wt t59_49 false) (fieldAddrV Try.prog 108 t1_0 4)).bind fun t61_50 =>
(gd (wt t59_49 false) (loadV Try.prog 3 t61_50 h26)).bind fun t62_51 =>
(gd (wt t59_49 false) (binV Try.prog .lss 3 (.tmp 62) (.const (Go.Value.int Go.IntKind.i64 0)) t62_51 (Go.Value.int Go.IntKind.i64 0))).bind fun t63_52 =>
(pickV t59_49 (Go.Value.bool Bool.true) t63_52).bind fun t64_53 =>
(gd (wt t64_53 false) (fieldAddrV Try.prog 108 t1_0 4)).bind fun t66_54 =>
(gd (wt t64_53 false) (loadV Try.prog 3 t66_54 h26)).bind fun t67_55 =>
(gd (wt t64_53 false) (binV Try.prog .gtr 3 (.tmp 67) (.const (Go.Value.int Go.IntKind.i64 15)) t67_55 (Go.Value.int Go.IntKind.i64 15))).bind fun t68_56 =>
(pickV t64_53 (Go.Value.bool Bool.true) t68_56).bind fun t69_57 =>
(gd (wt t69_57 false) (fieldAddrV Try.prog 108 t1_0 3)).bind fun t71_58 =>
(gd (wt t69_57 false) (loadV Try.prog 3 t71_58 h26)).bind fun t72_59 =>
(gd (wt t69_57 false) (binV Try.prog .eql 3 (.tmp 72) (.const (Go.Value.int Go.IntKind.i64 0)) t72_59 (Go.Value.int Go.IntKind.i64 0))).bind fun t73_60 =>
(gd (wt (gdV (wt t69_57 false) t73_60) true) (fieldAddrV Try.prog 108 t1_0 4)).bind fun t75_61 =>
(gd (wt (gdV (wt t69_57 false) t73_60) true) (loadV Try.prog 3 t75_61 h26)).bind fun t76_62 =>
(gd (wt (gdV (wt t69_57 false) t73_60) true) (binV Try.prog .neq 3 (.tmp 76) (.const (Go.Value.int Go.IntKind.i64 0)) t76_62 (Go.Value.int Go.IntKind.i64 0))).bind fun t77_63 =>
(gd (wt t69_57 false) (pickV (gdV (wt t69_57 false) t73_60) t77_63 (Go.Value.bool Bool.false))).bind fun t78_64 =>
(pickV t69_57 (Go.Value.bool Bool.true) t78_64).bind fun t79_65 =>
(gd (wt t79_65 false) (fieldAddrV Try.prog 108 t1_0 9)).bind fun t81_66 =>
(gd (wt t79_65 false) (loadV Try.prog 23 t81_66 h26)).bind fun t82_67 =>
(gd (wt t79_65 false) (lenV Try.prog 23 t82_67 h26)).bind fun t83_68 =>
(gd (wt t79_65 false) (binV Try.prog .gtr 3 (.tmp 83) (.const (Go.Value.int Go.IntKind.i64 20000)) t83_68 (Go.Value.int Go.IntKind.i64 20000))).bind fun t84_69 =>
(pickV t79_65 (Go.Value.bool Bool.true) t84_69).bind fun t85_70 =>
(gd (wt t85_70 false) (fieldAddrV Try.prog 108 t1_0 6)).bind fun t87_71 =>
(gd (wt t85_70 false) (loadV Try.prog 3 t87_71 h26)).bind fun t88_72 =>
(gd (wt t85_70 false) (binV Try.prog .lss 3 (.tmp 88) (.const (Go.Value.int Go.IntKind.i64 (-1))) t88_72 (Go.Value.int Go.IntKind.i64 (-1)))).bind fun t89_73 =>
(pickV t85_70 (Go.Value.bool Bool.true) t89_73).bind fun t90_74 =>
(gd (wt t90_74 false) (fieldAddrV Try.prog 108 t1_0 6)).bind fun t92_75 =>
(gd (wt t90_74 false) (loadV Try.prog 3 t92_75 h26)).bind fun t93_76 =>
(gd (wt t90_74 false) (binV Try.prog .gtr 3 (.tmp 93) (.const (Go.Value.int Go.IntKind.i64 15)) t93_76 (Go.Value.int Go.IntKind.i64 15))).bind fun t94_77 =>
(pickV t90_74 (Go.Value.bool Bool.true) t94_77).bind fun t95_78 =>
cnd t95_78 (
k .ret ⟨#[x0, t1_0, (Go.Value.bool Bool.false), t3_2, t4_3, t5_4, t5_4, t7_5, t8_6, t9_7, t10_8, t10_8, t12_9, t13_10, t14_11, t15_12, t15_12, t17_13, t18_14, t19_15, t20_16, t20_16, t22_17, t23_18, t24_19, t25_20, t25_20, t27_21, t28_22, t29_23, t30_24, t31_25, t32_27, t32_27, t34_28, t35_29, t36_30, t37_31, t37_31, t39_32, t40_33, t41_34, t42_35, t42_35, t44_36, t45_37, t46_38, t47_39, t48_40, t48_40, t50_41, t51_42, t52_43, (gdV (wt t48_40 false) t52_43), t54_44, t55_45, t56_46, t57_47, t58_48, t59_49, t59_49, t61_50, t62_51, t63_52, t64_53, t64_53, t66_54, t67_55, t68_56, t69_57, t69_57, t71_58, t72_59, t73_60, (gdV (wt t69_57 false) t73_60), t75_61, t76_62, t77_63, t78_64, t79_65, t79_65, t81_66, t82_67, t83_68, t84_69, t85_70, t85_70, t87_71, t88_72, t89_73, t90_74, t90_74, t92_75, t93_76, t94_77, t95_78, x96, x97, x98, x99, x100, x101, x102, x103, x104, x105, x106, x107, x108, x109, x110, x111, x112, x113, x114, x115, x116, x117, x118, x119, x120, x121, x122, x123, x124, x125, x126, x127, x128, x129, x130, x131], h26⟩) (
(fieldAddrV Try.prog 108 t1_0 3).bind fun t96_79 =>
(loadV Try.prog 3 t96_79 h26).bind fun t97_80 =>
(binV Try.prog .eql 3 (.tmp 97) (.const (Go.Value.int Go.IntKind.i64 1)) t97_80 (Go.Value.int Go.IntKind.i64 1)).bind fun t99_81 =>
cnd t99_81 (
(fieldAddrV Try.prog 108 t1_0 6).bind fun t100_82 =>
(loadV Try.prog 3 t100_82 h26).bind fun t101_83 =>
(fieldAddrV Try.prog 108 t1_0 0).bind fun t102_84 =>
(loadV Try.prog 3 t102_84 h26).bind fun t103_85 =>
(binV Try.prog .eql 3 (.tmp 101) (.tmp 103) t101_83 t103_85).bind fun t104_86 =>
(gd (wt t104_86 true) (fieldAddrV Try.prog 108 t1_0 7)).bind fun t106_87 =>
(gd (wt t104_86 true) (loadV Try.prog 46 t106_87 h26)).bind fun t107_88 =>
(gd (wt t104_86 true) (binV Try.prog .gtr 46 (.tmp 107) (.const (Go.Value.int Go.IntKind.u64 0)) t107_88 (Go.Value.int Go.IntKind.u64 0))).bind fun t108_89 =>
(pickV t104_86 t108_89 (Go.Value.bool Bool.false)).bind fun t109_90 =>
k .ret ⟨#[x0, t1_0, t109_90, t3_2, t4_3, t5_4, t5_4, t7_5, t8_6, t9_7, t10_8, t10_8, t12_9, t13_10, t14_11, t15_12, t15_12, t17_13, t18_14, t19_15, t20_16, t20_16, t22_17, t23_18, t24_19, t25_20, t25_20, t27_21, t28_22, t29_23, t30_24, t31_25, t32_27, t32_27, t34_28, t35_29, t36_30, t37_31, t37_31, t39_32, t40_33, t41_34, t42_35, t42_35, t44_36, t45_37, t46_38, t47_39, t48_40, t48_40, t50_41, t51_42, t52_43, (gdV (wt t48_40 false) t52_43), t54_44, t55_45, t56_46, t57_47, t58_48, t59_49, t59_49, t61_50, t62_51, t63_52, t64_53, t64_53, t66_54, t67_55, t68_56, t69_57, t69_57, t71_58, t72_59, t73_60, (gdV (wt t69_57 false) t73_60), t75_61, t76_62, t77_63, t78_64, t79_65, t79_65, t81_66, t82_67, t83_68, t84_69, t85_70, t85_70, t87_71, t88_72, t89_73, t90_74, t90_74, t92_75, t93_76, t94_77, t95_78, t96_79, t97_80, t99_81, t99_81, t100_82, t101_83, t102_84, t103_85, t104_86, t104_86, t106_87, t107_88, t108_89, t109_90, x110, x111, x112, x113, x114, x115, x116, x117, x118, x119, x120, x121, x122, x123, x124, x125, x126, x127, x128, x129, x130, x131], h26⟩) (
(binV Try.prog .eql 3 (.tmp 97) (.const (Go.Value.int Go.IntKind.i64 3)) t97_80 (Go.Value.int Go.IntKind.i64 3)).bind fun t111_91 =>
cnd t111_91 (
(fieldAddrV Try.prog 108 t1_0 7).bind fun t112_92 =>
(loadV Try.prog 46 t112_92 h26).bind fun t113_93 =>
(binV Try.prog .eql 46 (.tmp 113) (.const (Go.Value.int Go.IntKind.u64 0)) t113_93 (Go.Value.int Go.IntKind.u64 0)).bind fun t114_94 =>
(fieldAddrV Try.prog 108 t1_0 6).bind fun t115_95 =>
(loadV Try.prog 3 t115_95 h26).bind fun t116_96 =>
(binV Try.prog .eql 3 (.tmp 116) (.const (Go.Value.int Go.IntKind.i64 (-1))) t116_96 (Go.Value.int Go.IntKind.i64 (-1))).bind fun t117_97 =>
(binV Try.prog .eql 4 (.tmp 114) (.tmp 117) t114_94 t117_97).bind fun t118_98 =>
k .ret ⟨#[x0, t1_0, t118_98, t3_2, t4_3, t5_4, t5_4, t7_5, t8_6, t9_7, t10_8, t10_8, t12_9, t13_10, t14_11, t15_12, t15_12, t17_13, t18_14, t19_15, t20_16, t20_16, t22_17, t23_18, t24_19, t25_20, t25_20, t27_21, t28_22, t29_23, t30_24, t31_25, t32_27, t32_27, t34_28, t35_29, t36_30, t37_31, t37_31, t39_32, t40_33, t41_34, t42_35, t42_35, t44_36, t45_37, t46_38, t47_39, t48_40, t48_40, t50_41, t51_42, t52_43, (gdV (wt t48_40 false) t52_43), t54_44, t55_45, t56_46, t57_47, t58_48, t59_49, t59_49, t61_50, t62_51, t63_52, t64_53, t64_53, t66_54, t67_55, t68_56, t69_57, t69_57, t71_58, t72_59, t73_60, (gdV (wt t69_57 false) t73_60), t75_61, t76_62, t77_63, t78_64, t79_65, t79_65, t81_66, t82_67, t83_68, t84_69, t85_70, t85_70, t87_71, t88_72, t89_73, t90_74, t90_74, t92_75, t93_76, t94_77, t95_78, t96_79, t97_80, t99_81, t99_81, x100, x101, x102, x103, x104, x105, x106, x107, x108, x109, t111_91, t111_91, t112_92, t113_93, t114_94, t115_95, t116_96, t117_97, t118_98, x119, x120, x121, x122, x123, x124, x125, x126, x127, x128, x129, x130, x131], h26⟩) (
(fieldAddrV Try.prog 108 t1_0 5).bind fun t119_99 =>
(loadV Try.prog 84 t119_99 h26).bind fun t120_100 =>
obH (evC Try.prog 51 #[t120_100, (Go.Value.float Go.FloatKind.f64 0)] h26) fun t121_101 h102 =>
(gd (wt t121_101 true) (fieldAddrV Try.prog 108 t1_0 6)).bind fun t123_103 =>
(gd (wt t121_101 true) (loadV Try.prog 3 t123_103 h102)).bind fun t124_104 =>
(gd (wt t121_101 true) (binV Try.prog .eql 3 (.tmp 124) (.const (Go.Value.int Go.IntKind.i64 0)) t124_104 (Go.Value.int Go.IntKind.i64 0))).bind fun t125_105 =>
(pickV t121_101 t125_105 (Go.Value.bool Bool.false)).bind fun t126_106 =>
(gd (wt t126_106 true) (fieldAddrV Try.prog 108 t1_0 7)).bind fun t128_107 =>
(gd (wt t126_106 true) (loadV Try.prog 46 t128_107 h102)).bind fun t129_108 =>
(gd (wt t126_106 true) (binV Try.prog .eql 46 (.tmp 129) (.const (Go.Value.int Go.IntKind.u64 0)) t129_108 (Go.Value.int Go.IntKind.u64 0))).bind fun t130_109 =>
(pickV t126_106 t130_109 (Go.Value.bool Bool.false)).bind fun t131_110 =>
k .ret ⟨#[x0, t1_0, t131_110, t3_2, t4_3, t5_4, t5_4, t7_5, t8_6, t9_7, t10_8, t10_8, t12_9, t13_10, t14_11, t15_12, t15_12, t17_13, t18_14, t19_15, t20_16, t20_16, t22_17, t23_18, t24_19, t25_20, t25_20, t27_21, t28_22, t29_23, t30_24, t31_25, t32_27, t32_27, t34_28, t35_29, t36_30, t37_31, t37_31, t39_32, t40_33, t41_34, t42_35, t42_35, t44_36, t45_37, t46_38, t47_39, t48_40, t48_40, t50_41, t51_42, t52_43, (gdV (wt t48_40 false) t52_43), t54_44, t55_45, t56_46, t57_47, t58_48, t59_49, t59_49, t61_50, t62_51, t63_52, t64_53, t64_53, t66_54, t67_55, t68_56, t69_57, t69_57, t71_58, t72_59, t73_60, (gdV (wt t69_57 false) t73_60), t75_61, t76_62, t77_63, t78_64, t79_65, t79_65, t81_66, t82_67, t83_68, t84_69, t85_70, t85_70, t87_71, t88_72, t89_73, t90_74, t90_74, t92_75, t93_76, t94_77, t95_78, t96_79, t97_80, t99_81, t99_81, x100, x101, x102, x103, x104, x105, x106, x107, x108, x109, t111_91, t111_91, x112, x113, x114, x115, x116, x117, x118, t119_99, t120_100, t121_101, t121_101, t123_103, t124_104, t125_105, t126_106, t126_106, t128_107, t129_108, t130_109, t131_110], h102⟩))) := by kernel_rfl
theorem call72 (x0 : Value) (h : Heap) : evC Try.prog 72 #[x0] h = codeK Try.prog (evC Try.prog) loopL c72_0 ⟨#[x0, undef, undef, undef, undef, undef, undef, undef, undef, undef, undef, undef, undef, undef, undef, undef, undef, undef, undef, undef, undef, undef, undef, undef, undef, undef, undef, undef, undef, undef, undef, undef, undef, undef, undef, undef, undef, undef, undef, undef, undef, undef, undef, undef, undef, undef, undef, undef, undef, undef, undef, undef, undef, undef, undef, undef, undef, undef, undef, undef, undef, undef, undef, undef, undef, undef, undef, undef, undef, undef, undef, undef, undef, undef, undef, undef, undef, undef, undef, undef, undef, undef, undef, undef, undef, undef, undef, undef, undef, undef, undef, undef, undef, undef, undef, undef, undef, undef, undef, undef, undef, undef, undef, undef, undef, undef, undef, undef, undef, undef, undef, undef, undef, undef, undef, undef, undef, undef, undef, undef, undef, undef, undef, undef, undef, undef, undef, undef, undef, undef, undef, undef], nm h⟩ (retK Try.f72 Try.prog h) :=
  (evC_call 72 Try.f72 c72_0 Try.func72 (by kernel_rfl) #[x0] h).trans (by kernel_rfl)
theorem ret72 (x0 x1 x2 x3 x4 x5 x6 x7 x8 x9 x10 x11 x12 x13 x14 x15 x16 x17 x18 x19 x20 x21 x22 x23 x24 x25 x26 x27 x28 x29 x30 x31 x32 x33 x34 x35 x36 x37 x38 x39 x40 x41 x42 x43 x44 x45 x46 x47 x48 x49 x50 x51 x52 x53 x54 x55 x56 x57 x58 x59 x60 x61 x62 x63 x64 x65 x66 x67 x68 x69 x70 x71 x72 x73 x74 x75 x76 x77 x78 x79 x80 x81 x82 x83 x84 x85 x86 x87 x88 x89 x90 x91 x92 x93 x94 x95 x96 x97 x98 x99 x100 x101 x102 x103 x104 x105 x106 x107 x108 x109 x110 x111 x112 x113 x114 x115 x116 x117 x118 x119 x120 x121 x122 x123 x124 x125 x126 x127 x128 x129 x130 x131 : Value) (h0 h : Heap) : retK Try.f72 Try.prog h0 .ret ⟨#[x0, x1, x2, x3, x4, x5, x6, x7, x8, x9, x10, x11, x12, x13, x14, x15, x16, x17, x18, x19, x20, x21, x22, x23, x24, x25, x26, x27, x28, x29, x30, x31, x32, x33, x34, x35, x36, x37, x38, x39, x40, x41, x42, x43, x44, x45, x46, x47, x48, x49, x50, x51, x52, x53, x54, x55, x56, x57, x58, x59, x60, x61, x62, x63, x64, x65, x66, x67, x68, x69, x70, x71, x72, x73, x74, x75, x76, x77, x78, x79, x80, x81, x82, x83, x84, x85, x86, x87, x88, x89, x90, x91, x92, x93, x94, x95, x96, x97, x98, x99, x100, x101, x102, x103, x104, x105, x106, x107, x108, x109, x110, x111, x112, x113, x114, x115, x116, x117, x118, x119, x120, x121, x122, x123, x124, x125, x126, x127, x128, x129, x130, x131], h⟩ = fin h0 (some x2) h := by kernel_rfl
theorem retn72 (x0 x1 x2 x3 x4 x5 x6 x7 x8 x9 x10 x11 x12 x13 x14 x15 x16 x17 x18 x19 x20 x21 x22 x23 x24 x25 x26 x27 x28 x29 x30 x31 x32 x33 x34 x35 x36 x37 x38 x39 x40 x41 x42 x43 x44 x45 x46 x47 x48 x49 x50 x51 x52 x53 x54 x55 x56 x57 x58 x59 x60 x61 x62 x63 x64 x65 x66 x67 x68 x69 x70 x71 x72 x73 x74 x75 x76 x77 x78 x79 x80 x81 x82 x83 x84 x85 x86 x87 x88 x89 x90 x91 x92 x93 x94 x95 x96 x97 x98 x99 x100 x101 x102 x103 x104 x105 x106 x107 x108 x109 x110 x111 x112 x113 x114 x115 x116 x117 x118 x119 x120 x121 x122 x123 x124 x125 x126 x127 x128 x129 x130 x131 : Value) (h0 h : Heap) : retK Try.f72 Try.prog h0 .normal ⟨#[x0, x1, x2, x3, x4, x5, x6, x7, x8, x9, x10, x11, x12, x13, x14, x15, x16, x17, x18, x19, x20, x21, x22, x23, x24, x25, x26, x27, x28, x29, x30, x31, x32, x33, x34, x35, x36, x37, x38, x39, x40, x41, x42, x43, x44, x45, x46, x47, x48, x49, x50, x51, x52, x53, x54, x55, x56, x57, x58, x59, x60, x61, x62, x63, x64, x65, x66, x67, x68, x69, x70, x71, x72, x73, x74, x75, x76, x77, x78, x79, x80, x81, x82, x83, x84, x85, x86, x87, x88, x89, x90, x91, x92, x93, x94, x95, x96, x97, x98, x99, x100, x101, x102, x103, x104, x105, x106, x107, x108, x109, x110, x111, x112, x113, x114, x115, x116, x117, x118, x119, x120, x121, x122, x123, x124, x125, x126, x127, x128, x129, x130, x131], h⟩ = fin h0 (some x2) h := by kernel_rfl
end Go.Am
