/- What the texts of functions come to in the machine (printed by a program of this seat; Lean checks it). -/
import Derived.Test.YtkiigdhlnfpebaaKB
import Derived.Test.YtkiigdhlnfpebaaChecked
import Derived.KernelRfl
set_option linter.all false
namespace Go.Am
open Go.Proofs
set_option maxRecDepth 100000
noncomputable def c19_0 : Code := bodyC Try.f19 []
noncomputable def c19_1 : Code := bodyC Try.f19 [true, true, false, false, false]
noncomputable def c19_2 : Code := bodyC Try.f19 [true, true, true]
theorem c19_0_eq {β : Type} (x0 x1 x2 x3 x4 x5 x6 x7 x8 x9 x10 : Value) (h : Heap) (k : Ex → St → Option β) : codeK Try.prog (evC Try.prog) loopL c19_0 ⟨#[x0, x1, x2, x3, x4, x5, x6, x7, x8, x9, x10], h⟩ k =
loopK Try.prog (evC Try.prog) c19_1 ⟨#[x0, x1, (Go.Value.int Go.IntKind.i64 0), (Go.Value.int Go.IntKind.i64 1), x4, x5, x6, x7, x8, x9, x10], h⟩ (blockK 0 (seqK Try.prog (evC Try.prog) c19_2 k)) := by kernel_rfl
theorem c19_1_eq {β : Type} (x0 x1 x2 x3 x4 x5 x6 x7 x8 x9 x10 : Value) (h : Heap) (k : Ex → St → Option β) : codeK Try.prog (evC Try.prog) loopL c19_1 ⟨#[x0, x1, x2, x3, x4, x5, x6, x7, x8, x9, x10], h⟩ k =
(binV Try.prog .geq 22 (.tmp 4) (.const (Go.Value.int Go.IntKind.u64 128)) x0 (Go.Value.int Go.IntKind.u64 128)).bind fun t5_0 =>
cnd t5_0 (
(binV Try.prog .shr 22 (.tmp 6) (.const (Go.Value.int Go.IntKind.u64 7)) x0 (Go.Value.int Go.IntKind.u64 7)).bind fun t7_1 =>
(binV Try.prog .add 3 (.tmp 8) (.const (Go.Value.int Go.IntKind.i64 1)) x3 (Go.Value.int Go.IntKind.i64 1)).bind fun t9_2 =>
k .normal ⟨#[t7_1, x1, x2, t9_2, x0, t5_0, x0, t7_1, x3, t9_2, x10], h⟩) (
k (.exit 0) ⟨#[x0, x1, x2, x3, x0, t5_0, x6, x7, x8, x9, x10], h⟩) := by kernel_rfl
theorem c19_2_eq {β : Type} (x0 x1 x2 x3 x4 x5 x6 x7 x8 x9 x10 : Value) (h : Heap) (k : Ex → St → Option β) : codeK Try.prog (evC Try.prog) loopL c19_2 ⟨#[x0, x1, x2, x3, x4, x5, x6, x7, x8, x9, x10], h⟩ k =
k .ret ⟨#[x0, x1, x3, x3, x4, x5, x6, x7, x8, x9, x3], h⟩ := by kernel_rfl
theorem call19 (x0 : Value) (h : Heap) : evC Try.prog 19 #[x0] h = codeK Try.prog (evC Try.prog) loopL c19_0 ⟨#[x0, undef, undef, undef, undef, undef, undef, undef, undef, undef, undef], nm h⟩ (retK Try.f19 Try.prog h) :=
  (evC_call 19 Try.f19 c19_0 Try.func19 (by kernel_rfl) #[x0] h).trans (by kernel_rfl)
theorem ret19 (x0 x1 x2 x3 x4 x5 x6 x7 x8 x9 x10 : Value) (h0 h : Heap) : retK Try.f19 Try.prog h0 .ret ⟨#[x0, x1, x2, x3, x4, x5, x6, x7, x8, x9, x10], h⟩ = fin h0 (some x2) h := by kernel_rfl
theorem retn19 (x0 x1 x2 x3 x4 x5 x6 x7 x8 x9 x10 : Value) (h0 h : Heap) : retK Try.f19 Try.prog h0 .normal ⟨#[x0, x1, x2, x3, x4, x5, x6, x7, x8, x9, x10], h⟩ = fin h0 (some x2) h := by kernel_rfl
end Go.Am
namespace Go.Am
open Go.Proofs
set_option maxRecDepth 100000
noncomputable def c20_0 : Code := bodyC Try.f20 []
noncomputable def c20_1 : Code := bodyC Try.f20 [true, true, false, false, false]
noncomputable def c20_2 : Code := bodyC Try.f20 [true, true, true]
theorem c20_0_eq {β : Type} (x0 x1 x2 x3 x4 x5 x6 x7 x8 x9 x10 x11 x12 x13 x14 x15 x16 x17 x18 x19 x20 x21 x22 : Value) (h : Heap) (k : Ex → St → Option β) : codeK Try.prog (evC Try.prog) loopL c20_0 ⟨#[x0, x1, x2, x3, x4, x5, x6, x7, x8, x9, x10, x11, x12, x13, x14, x15, x16, x17, x18, x19, x20, x21, x22], h⟩ k =
obH (appendV Try.prog 31 (some 31) (Go.Value.slice Option.none 0 0) x0 h) fun t7_0 h1 =>
loopK Try.prog (evC Try.prog) c20_1 ⟨#[x0, x1, x2, x3, (Go.Value.slice Option.none 0 0), t7_0, x0, t7_0, x8, x9, x10, x11, x12, x13, x14, x15, x16, x17, x18, x19, x20, x21, x22], h1⟩ (blockK 0 (seqK Try.prog (evC Try.prog) c20_2 k)) := by kernel_rfl
theorem c20_1_eq {β : Type} (x0 x1 x2 x3 x4 x5 x6 x7 x8 x9 x10 x11 x12 x13 x14 x15 x16 x17 x18 x19 x20 x21 x22 : Value) (h : Heap) (k : Ex → St → Option β) : codeK Try.prog (evC Try.prog) loopL c20_1 ⟨#[x0, x1, x2, x3, x4, x5, x6, x7, x8, x9, x10, x11, x12, x13, x14, x15, x16, x17, x18, x19, x20, x21, x22], h⟩ k =
(binV Try.prog .geq 22 (.tmp 8) (.const (Go.Value.int Go.IntKind.u64 128)) x1 (Go.Value.int Go.IntKind.u64 128)).bind fun t9_2 =>
cnd t9_2 (
obH (convV Try.prog 22 5 x1 h) fun t12_3 h4 =>
(binV Try.prog .or 5 (.tmp 12) (.const (Go.Value.int Go.IntKind.u8 128)) t12_3 (Go.Value.int Go.IntKind.u8 128)).bind fun t13_5 =>
obH (buildSliceV Try.prog 31 1 #[(0, t13_5)] h4) fun t14_6 h7 =>
obH (appendV Try.prog 31 (some 31) x5 t14_6 h7) fun t15_8 h9 =>
(binV Try.prog .shr 22 (.tmp 16) (.const (Go.Value.int Go.IntKind.u64 7)) x1 (Go.Value.int Go.IntKind.u64 7)).bind fun t17_10 =>
k .normal ⟨#[x0, t17_10, x2, x3, x4, t15_8, x6, x7, x1, t9_2, x5, x1, t12_3, t13_5, t14_6, t15_8, x1, t17_10, x18, x19, x20, x21, x22], h9⟩) (
k (.exit 0) ⟨#[x0, x1, x2, x3, x4, x5, x6, x7, x1, t9_2, x10, x11, x12, x13, x14, x15, x16, x17, x18, x19, x20, x21, x22], h⟩) := by kernel_rfl
theorem c20_2_eq {β : Type} (x0 x1 x2 x3 x4 x5 x6 x7 x8 x9 x10 x11 x12 x13 x14 x15 x16 x17 x18 x19 x20 x21 x22 : Value) (h : Heap) (k : Ex → St → Option β) : codeK Try.prog (evC Try.prog) loopL c20_2 ⟨#[x0, x1, x2, x3, x4, x5, x6, x7, x8, x9, x10, x11, x12, x13, x14, x15, x16, x17, x18, x19, x20, x21, x22], h⟩ k =
obH (convV Try.prog 22 5 x1 h) fun t20_11 h12 =>
obH (buildSliceV Try.prog 31 1 #[(0, t20_11)] h12) fun t21_13 h14 =>
obH (appendV Try.prog 31 (some 31) x5 t21_13 h14) fun t22_15 h16 =>
k .ret ⟨#[x0, x1, x2, x3, t22_15, x5, x6, x7, x8, x9, x10, x11, x12, x13, x14, x15, x16, x17, x5, x1, t20_11, t21_13, t22_15], h16⟩ := by kernel_rfl
theorem call20 (x0 x1 : Value) (h : Heap) : evC Try.prog 20 #[x0, x1] h = codeK Try.prog (evC Try.prog) loopL c20_0 ⟨#[x0, x1, undef, undef, undef, undef, undef, undef, undef, undef, undef, undef, undef, undef, undef, undef, undef, undef, undef, undef, undef, undef, undef], nm h⟩ (retK Try.f20 Try.prog h) :=
  (evC_call 20 Try.f20 c20_0 Try.func20 (by kernel_rfl) #[x0, x1] h).trans (by kernel_rfl)
theorem ret20 (x0 x1 x2 x3 x4 x5 x6 x7 x8 x9 x10 x11 x12 x13 x14 x15 x16 x17 x18 x19 x20 x21 x22 : Value) (h0 h : Heap) : retK Try.f20 Try.prog h0 .ret ⟨#[x0, x1, x2, x3, x4, x5, x6, x7, x8, x9, x10, x11, x12, x13, x14, x15, x16, x17, x18, x19, x20, x21, x22], h⟩ = fin h0 (some x4) h := by kernel_rfl
theorem retn20 (x0 x1 x2 x3 x4 x5 x6 x7 x8 x9 x10 x11 x12 x13 x14 x15 x16 x17 x18 x19 x20 x21 x22 : Value) (h0 h : Heap) : retK Try.f20 Try.prog h0 .normal ⟨#[x0, x1, x2, x3, x4, x5, x6, x7, x8, x9, x10, x11, x12, x13, x14, x15, x16, x17, x18, x19, x20, x21, x22], h⟩ = fin h0 (some x4) h := by kernel_rfl
end Go.Am
namespace Go.Am
open Go.Proofs
set_option maxRecDepth 100000
noncomputable def c21_0 : Code := bodyC Try.f21 []
noncomputable def c21_1 : Code := bodyC Try.f21 [true, false, true, false, false]
noncomputable def c21_2 : Code := bodyC Try.f21 [true, true]
theorem c21_0_eq {β : Type} (x0 x1 x2 x3 x4 x5 x6 x7 x8 x9 x10 x11 x12 x13 x14 x15 x16 x17 x18 x19 x20 x21 x22 x23 x24 x25 x26 x27 x28 x29 x30 x31 x32 x33 x34 x35 x36 x37 x38 x39 x40 x41 : Value) (h : Heap) (k : Ex → St → Option β) : codeK Try.prog (evC Try.prog) loopL c21_0 ⟨#[x0, x1, x2, x3, x4, x5, x6, x7, x8, x9, x10, x11, x12, x13, x14, x15, x16, x17, x18, x19, x20, x21, x22, x23, x24, x25, x26, x27, x28, x29, x30, x31, x32, x33, x34, x35, x36, x37, x38, x39, x40, x41], h⟩ k =
(lenV Try.prog 31 x0 h).bind fun t7_0 =>
loopK Try.prog (evC Try.prog) c21_1 ⟨#[x0, x1, (Go.Value.int Go.IntKind.u64 0), (Go.Value.int Go.IntKind.i64 0), x4, x5, x0, t7_0, (Go.Value.int Go.IntKind.i64 0), x9, x10, x11, x12, x13, x14, x15, x16, x17, x18, x19, x20, x21, x22, x23, x24, x25, x26, x27, x28, x29, x30, x31, x32, x33, x34, x35, x36, x37, x38, x39, x40, x41], h⟩ (blockK 0 (seqK Try.prog (evC Try.prog) c21_2 k)) := by kernel_rfl
theorem c21_1_eq {β : Type} (x0 x1 x2 x3 x4 x5 x6 x7 x8 x9 x10 x11 x12 x13 x14 x15 x16 x17 x18 x19 x20 x21 x22 x23 x24 x25 x26 x27 x28 x29 x30 x31 x32 x33 x34 x35 x36 x37 x38 x39 x40 x41 : Value) (h : Heap) (k : Ex → St → Option β) : codeK Try.prog (evC Try.prog) loopL c21_1 ⟨#[x0, x1, x2, x3, x4, x5, x6, x7, x8, x9, x10, x11, x12, x13, x14, x15, x16, x17, x18, x19, x20, x21, x22, x23, x24, x25, x26, x27, x28, x29, x30, x31, x32, x33, x34, x35, x36, x37, x38, x39, x40, x41], h⟩ k =
(binV Try.prog .lss 3 (.tmp 8) (.tmp 7) x8 x7).bind fun t9_1 =>
cnd t9_1 (
(indexAddrV Try.prog 31 x6 x8).bind fun t11_2 =>
(loadV Try.prog 5 t11_2 h).bind fun t12_3 =>
(binV Try.prog .eql 3 (.tmp 13) (.const (Go.Value.int Go.IntKind.i64 10)) x8 (Go.Value.int Go.IntKind.i64 10)).bind fun t14_4 =>
cnd t14_4 (
k (.exit 0) ⟨#[x0, x1, x2, x3, x8, t12_3, x6, x7, x8, t9_1, x8, t11_2, t12_3, x8, t14_4, x15, x16, x17, x18, x19, x20, x21, x22, x23, x24, x25, x26, x27, x28, x29, x30, x31, x32, x33, x34, x35, x36, x37, x38, x39, x40, x41], h⟩) (
(binV Try.prog .and 5 (.tmp 16) (.const (Go.Value.int Go.IntKind.u8 127)) t12_3 (Go.Value.int Go.IntKind.u8 127)).bind fun t17_5 =>
obH (convV Try.prog 5 22 t17_5 h) fun t18_6 h7 =>
(binV Try.prog .mul 3 (.const (Go.Value.int Go.IntKind.i64 7)) (.tmp 19) (Go.Value.int Go.IntKind.i64 7) x8).bind fun t20_8 =>
(binV Try.prog .shl 22 (.tmp 18) (.tmp 20) t18_6 t20_8).bind fun t21_9 =>
(binV Try.prog .or 22 (.tmp 15) (.tmp 21) x2 t21_9).bind fun t22_10 =>
(binV Try.prog .lss 5 (.tmp 23) (.const (Go.Value.int Go.IntKind.u8 128)) t12_3 (Go.Value.int Go.IntKind.u8 128)).bind fun t24_11 =>
cnd t24_11 (
obH (evC Try.prog 19 #[t22_10] h7) fun t26_12 h13 =>
(binV Try.prog .add 3 (.tmp 27) (.const (Go.Value.int Go.IntKind.i64 1)) x8 (Go.Value.int Go.IntKind.i64 1)).bind fun t28_14 =>
(binV Try.prog .neq 3 (.tmp 26) (.tmp 28) t26_12 t28_14).bind fun t29_15 =>
(gd (wt t29_15 false) (binV Try.prog .eql 3 (.tmp 31) (.const (Go.Value.int Go.IntKind.i64 9)) (gdV (wt t29_15 false) x8) (Go.Value.int Go.IntKind.i64 9))).bind fun t32_16 =>
(gd (wt (gdV (wt t29_15 false) t32_16) true) (binV Try.prog .gtr 5 (.tmp 34) (.const (Go.Value.int Go.IntKind.u8 1)) (gdV (wt (gdV (wt t29_15 false) t32_16) true) t12_3) (Go.Value.int Go.IntKind.u8 1))).bind fun t35_17 =>
(gd (wt t29_15 false) (pickV (gdV (wt t29_15 false) t32_16) t35_17 (Go.Value.bool Bool.false))).bind fun t36_18 =>
(pickV t29_15 (Go.Value.bool Bool.true) t36_18).bind fun t37_19 =>
cnd t37_19 (
k (.exit 0) ⟨#[x0, x1, t22_10, x3, x8, t12_3, x6, x7, x8, t9_1, x8, t11_2, t12_3, x8, t14_4, x2, t12_3, t17_5, t18_6, x8, t20_8, t21_9, t22_10, t12_3, t24_11, t22_10, t26_12, x8, t28_14, t29_15, t29_15, (gdV (wt t29_15 false) x8), t32_16, (gdV (wt t29_15 false) t32_16), (gdV (wt (gdV (wt t29_15 false) t32_16) true) t12_3), t35_17, t36_18, t37_19, x38, x39, x40, x41], h13⟩) (
(binV Try.prog .add 3 (.tmp 39) (.const (Go.Value.int Go.IntKind.i64 1)) x8 (Go.Value.int Go.IntKind.i64 1)).bind fun t40_20 =>
k .ret ⟨#[x0, x1, t22_10, t40_20, x8, t12_3, x6, x7, x8, t9_1, x8, t11_2, t12_3, x8, t14_4, x2, t12_3, t17_5, t18_6, x8, t20_8, t21_9, t22_10, t12_3, t24_11, t22_10, t26_12, x8, t28_14, t29_15, t29_15, (gdV (wt t29_15 false) x8), t32_16, (gdV (wt t29_15 false) t32_16), (gdV (wt (gdV (wt t29_15 false) t32_16) true) t12_3), t35_17, t36_18, t37_19, t22_10, x8, t40_20, x41], h13⟩)) (
(binV Try.prog .add 3 (.tmp 8) (.const (Go.Value.int Go.IntKind.i64 1)) x8 (Go.Value.int Go.IntKind.i64 1)).bind fun t41_21 =>
k .normal ⟨#[x0, x1, t22_10, x3, x8, t12_3, x6, x7, t41_21, t9_1, x8, t11_2, t12_3, x8, t14_4, x2, t12_3, t17_5, t18_6, x8, t20_8, t21_9, t22_10, t12_3, t24_11, x25, x26, x27, x28, x29, x30, x31, x32, x33, x34, x35, x36, x37, x38, x39, x40, t41_21], h7⟩))) (
k (.exit 0) ⟨#[x0, x1, x2, x3, x4, x5, x6, x7, x8, t9_1, x10, x11, x12, x13, x14, x15, x16, x17, x18, x19, x20, x21, x22, x23, x24, x25, x26, x27, x28, x29, x30, x31, x32, x33, x34, x35, x36, x37, x38, x39, x40, x41], h⟩) := by kernel_rfl
theorem c21_2_eq {β : Type} (x0 x1 x2 x3 x4 x5 x6 x7 x8 x9 x10 x11 x12 x13 x14 x15 x16 x17 x18 x19 x20 x21 x22 x23 x24 x25 x26 x27 x28 x29 x30 x31 x32 x33 x34 x35 x36 x37 x38 x39 x40 x41 : Value) (h : Heap) (k : Ex → St → Option β) : codeK Try.prog (evC Try.prog) loopL c21_2 ⟨#[x0, x1, x2, x3, x4, x5, x6, x7, x8, x9, x10, x11, x12, x13, x14, x15, x16, x17, x18, x19, x20, x21, x22, x23, x24, x25, x26, x27, x28, x29, x30, x31, x32, x33, x34, x35, x36, x37, x38, x39, x40, x41], h⟩ k =
k .ret ⟨#[x0, x1, (Go.Value.int Go.IntKind.u64 0), (Go.Value.int Go.IntKind.i64 0), x4, x5, x6, x7, x8, x9, x10, x11, x12, x13, x14, x15, x16, x17, x18, x19, x20, x21, x22, x23, x24, x25, x26, x27, x28, x29, x30, x31, x32, x33, x34, x35, x36, x37, x38, x39, x40, x41], h⟩ := by kernel_rfl
theorem call21 (x0 : Value) (h : Heap) : evC Try.prog 21 #[x0] h = codeK Try.prog (evC Try.prog) loopL c21_0 ⟨#[x0, undef, undef, undef, undef, undef, undef, undef, undef, undef, undef, undef, undef, undef, undef, undef, undef, undef, undef, undef, undef, undef, undef, undef, undef, undef, undef, undef, undef, undef, undef, undef, undef, undef, undef, undef, undef, undef, undef, undef, undef, undef], nm h⟩ (retK Try.f21 Try.prog h) :=
  (evC_call 21 Try.f21 c21_0 Try.func21 (by kernel_rfl) #[x0] h).trans (by kernel_rfl)
theorem ret21 (x0 x1 x2 x3 x4 x5 x6 x7 x8 x9 x10 x11 x12 x13 x14 x15 x16 x17 x18 x19 x20 x21 x22 x23 x24 x25 x26 x27 x28 x29 x30 x31 x32 x33 x34 x35 x36 x37 x38 x39 x40 x41 : Value) (h0 h : Heap) : retK Try.f21 Try.prog h0 .ret ⟨#[x0, x1, x2, x3, x4, x5, x6, x7, x8, x9, x10, x11, x12, x13, x14, x15, x16, x17, x18, x19, x20, x21, x22, x23, x24, x25, x26, x27, x28, x29, x30, x31, x32, x33, x34, x35, x36, x37, x38, x39, x40, x41], h⟩ = fin h0 (some (.tuple #[x2, x3])) h := by kernel_rfl
theorem retn21 (x0 x1 x2 x3 x4 x5 x6 x7 x8 x9 x10 x11 x12 x13 x14 x15 x16 x17 x18 x19 x20 x21 x22 x23 x24 x25 x26 x27 x28 x29 x30 x31 x32 x33 x34 x35 x36 x37 x38 x39 x40 x41 : Value) (h0 h : Heap) : retK Try.f21 Try.prog h0 .normal ⟨#[x0, x1, x2, x3, x4, x5, x6, x7, x8, x9, x10, x11, x12, x13, x14, x15, x16, x17, x18, x19, x20, x21, x22, x23, x24, x25, x26, x27, x28, x29, x30, x31, x32, x33, x34, x35, x36, x37, x38, x39, x40, x41], h⟩ = fin h0 (some (.tuple #[x2, x3])) h := by kernel_rfl
end Go.Am
namespace Go.Am
open Go.Proofs
set_option maxRecDepth 100000
noncomputable def c22_0 : Code := bodyC Try.f22 []
noncomputable def c22_1 : Code := bodyC Try.f22 [true, true, false, false, false]
noncomputable def c22_2 : Code := bodyC Try.f22 [true, true, true]
theorem c22_0_eq {β : Type} (x0 x1 x2 x3 x4 x5 x6 x7 x8 x9 x10 x11 x12 x13 x14 x15 x16 x17 x18 x19 x20 x21 x22 x23 x24 : Value) (h : Heap) (k : Ex → St → Option β) : codeK Try.prog (evC Try.prog) loopL c22_0 ⟨#[x0, x1, x2, x3, x4, x5, x6, x7, x8, x9, x10, x11, x12, x13, x14, x15, x16, x17, x18, x19, x20, x21, x22, x23, x24], h⟩ k =
loopK Try.prog (evC Try.prog) c22_1 ⟨#[x0, x1, (Go.Value.slice Option.none 0 0), (Go.Value.bool Bool.false), (Go.Value.slice Option.none 0 0), x5, x6, x7, x8, x9, x10, x11, x12, x13, x14, x15, x16, x17, x18, x19, x20, x21, x22, x23, x24], h⟩ (blockK 0 (seqK Try.prog (evC Try.prog) c22_2 k)) := by kernel_rfl
theorem c22_1_eq {β : Type} (x0 x1 x2 x3 x4 x5 x6 x7 x8 x9 x10 x11 x12 x13 x14 x15 x16 x17 x18 x19 x20 x21 x22 x23 x24 : Value) (h : Heap) (k : Ex → St → Option β) : codeK Try.prog (evC Try.prog) loopL c22_1 ⟨#[x0, x1, x2, x3, x4, x5, x6, x7, x8, x9, x10, x11, x12, x13, x14, x15, x16, x17, x18, x19, x20, x21, x22, x23, x24], h⟩ k =
(lenV Try.prog 31 x0 h).bind fun t8_0 =>
(binV Try.prog .gtr 3 (.tmp 8) (.const (Go.Value.int Go.IntKind.i64 0)) t8_0 (Go.Value.int Go.IntKind.i64 0)).bind fun t9_1 =>
cnd t9_1 (
obH (evC Try.prog 21 #[x0] h) fun t12_2 h3 =>
(extractV t12_2 0).bind fun t13_4 =>
(extractV t12_2 1).bind fun t14_5 =>
(binV Try.prog .eql 3 (.tmp 15) (.const (Go.Value.int Go.IntKind.i64 0)) t14_5 (Go.Value.int Go.IntKind.i64 0)).bind fun t16_6 =>
cnd t16_6 (
k .ret ⟨#[x0, x1, (Go.Value.slice Option.none 0 0), (Go.Value.bool Bool.false), x4, t13_4, t14_5, x0, t8_0, t9_1, t12_2, x0, t12_2, t13_4, t14_5, t14_5, t16_6, x17, x18, x19, x20, x21, x22, x23, x24], h3⟩) (
obH (buildSliceV Try.prog 41 1 #[(0, t13_4)] h3) fun t19_7 h8 =>
obH (appendV Try.prog 41 (some 41) x4 t19_7 h8) fun t20_9 h10 =>
(sliceV Try.prog 31 x0 (some t14_5) none none h10).bind fun t23_11 =>
k .normal ⟨#[t23_11, x1, x2, x3, t20_9, t13_4, t14_5, x0, t8_0, t9_1, t12_2, x0, t12_2, t13_4, t14_5, t14_5, t16_6, x4, t13_4, t19_7, t20_9, x0, t14_5, t23_11, x24], h10⟩)) (
k (.exit 0) ⟨#[x0, x1, x2, x3, x4, x5, x6, x0, t8_0, t9_1, x10, x11, x12, x13, x14, x15, x16, x17, x18, x19, x20, x21, x22, x23, x24], h⟩) := by kernel_rfl
theorem c22_2_eq {β : Type} (x0 x1 x2 x3 x4 x5 x6 x7 x8 x9 x10 x11 x12 x13 x14 x15 x16 x17 x18 x19 x20 x21 x22 x23 x24 : Value) (h : Heap) (k : Ex → St → Option β) : codeK Try.prog (evC Try.prog) loopL c22_2 ⟨#[x0, x1, x2, x3, x4, x5, x6, x7, x8, x9, x10, x11, x12, x13, x14, x15, x16, x17, x18, x19, x20, x21, x22, x23, x24], h⟩ k =
k .ret ⟨#[x0, x1, x4, (Go.Value.bool Bool.true), x4, x5, x6, x7, x8, x9, x10, x11, x12, x13, x14, x15, x16, x17, x18, x19, x20, x21, x22, x23, x4], h⟩ := by kernel_rfl
theorem call22 (x0 : Value) (h : Heap) : evC Try.prog 22 #[x0] h = codeK Try.prog (evC Try.prog) loopL c22_0 ⟨#[x0, undef, undef, undef, undef, undef, undef, undef, undef, undef, undef, undef, undef, undef, undef, undef, undef, undef, undef, undef, undef, undef, undef, undef, undef], nm h⟩ (retK Try.f22 Try.prog h) :=
  (evC_call 22 Try.f22 c22_0 Try.func22 (by kernel_rfl) #[x0] h).trans (by kernel_rfl)
theorem ret22 (x0 x1 x2 x3 x4 x5 x6 x7 x8 x9 x10 x11 x12 x13 x14 x15 x16 x17 x18 x19 x20 x21 x22 x23 x24 : Value) (h0 h : Heap) : retK Try.f22 Try.prog h0 .ret ⟨#[x0, x1, x2, x3, x4, x5, x6, x7, x8, x9, x10, x11, x12, x13, x14, x15, x16, x17, x18, x19, x20, x21, x22, x23, x24], h⟩ = fin h0 (some (.tuple #[x2, x3])) h := by kernel_rfl
theorem retn22 (x0 x1 x2 x3 x4 x5 x6 x7 x8 x9 x10 x11 x12 x13 x14 x15 x16 x17 x18 x19 x20 x21 x22 x23 x24 : Value) (h0 h : Heap) : retK Try.f22 Try.prog h0 .normal ⟨#[x0, x1, x2, x3, x4, x5, x6, x7, x8, x9, x10, x11, x12, x13, x14, x15, x16, x17, x18, x19, x20, x21, x22, x23, x24], h⟩ = fin h0 (some (.tuple #[x2, x3])) h := by kernel_rfl
end Go.Am
namespace Go.Am
open Go.Proofs
set_option maxRecDepth 100000
noncomputable def c18_0 : Code := bodyC Try.f18 []
theorem c18_0_eq {β : Type} (x0 x1 x2 x3 x4 x5 x6 x7 x8 x9 x10 x11 x12 x13 x14 x15 x16 x17 x18 x19 x20 x21 x22 x23 x24 x25 x26 x27 x28 x29 x30 x31 x32 x33 x34 x35 x36 : Value) (h : Heap) (k : Ex → St → Option β) : codeK Try.prog (evC Try.prog) loopL c18_0 ⟨#[x0, x1, x2, x3, x4, x5, x6, x7, x8, x9, x10, x11, x12, x13, x14, x15, x16, x17, x18, x19, x20, x21, x22, x23, x24, x25, x26, x27, x28, x29, x30, x31, x32, x33, x34, x35, x36], h⟩ k =
obH (evC Try.prog 20 #[(Go.Value.slice Option.none 0 0), (Go.Value.int Go.IntKind.u64 300)] h) fun t4_0 h1 =>
obH (evC Try.prog 21 #[t4_0] h1) fun t7_2 h3 =>
(extractV t7_2 0).bind fun t8_4 =>
(extractV t7_2 1).bind fun t9_5 =>
(lenV Try.prog 31 t4_0 h3).bind fun t11_6 =>
(binV Try.prog .eql 3 (.tmp 11) (.const (Go.Value.int Go.IntKind.i64 2)) t11_6 (Go.Value.int Go.IntKind.i64 2)).bind fun t12_7 =>
(gd (wt t12_7 true) (indexAddrV Try.prog 31 (gdV (wt t12_7 true) t4_0) (Go.Value.int Go.IntKind.i64 0))).bind fun t15_8 =>
(gd (wt t12_7 true) (loadV Try.prog 5 t15_8 h3)).bind fun t16_9 =>
(gd (wt t12_7 true) (binV Try.prog .eql 5 (.tmp 16) (.const (Go.Value.int Go.IntKind.u8 172)) t16_9 (Go.Value.int Go.IntKind.u8 172))).bind fun t17_10 =>
(pickV t12_7 t17_10 (Go.Value.bool Bool.false)).bind fun t18_11 =>
(gd (wt t18_11 true) (indexAddrV Try.prog 31 (gdV (wt t18_11 true) t4_0) (Go.Value.int Go.IntKind.i64 1))).bind fun t21_12 =>
(gd (wt t18_11 true) (loadV Try.prog 5 t21_12 h3)).bind fun t22_13 =>
(gd (wt t18_11 true) (binV Try.prog .eql 5 (.tmp 22) (.const (Go.Value.int Go.IntKind.u8 2)) t22_13 (Go.Value.int Go.IntKind.u8 2))).bind fun t23_14 =>
(pickV t18_11 t23_14 (Go.Value.bool Bool.false)).bind fun t24_15 =>
(gd (wt t24_15 true) (binV Try.prog .eql 22 (.tmp 26) (.const (Go.Value.int Go.IntKind.u64 300)) (gdV (wt t24_15 true) t8_4) (Go.Value.int Go.IntKind.u64 300))).bind fun t27_16 =>
(pickV t24_15 t27_16 (Go.Value.bool Bool.false)).bind fun t28_17 =>
(gd (wt t28_17 true) (binV Try.prog .eql 3 (.tmp 30) (.const (Go.Value.int Go.IntKind.i64 2)) (gdV (wt t28_17 true) t9_5) (Go.Value.int Go.IntKind.i64 2))).bind fun t31_18 =>
(pickV t28_17 t31_18 (Go.Value.bool Bool.false)).bind fun t32_19 =>
obH (gdH (wt t32_19 true) h3 (evC Try.prog 19 #[(Go.Value.int Go.IntKind.u64 300)] h3)) fun t34_20 h21 =>
(gd (wt t32_19 true) (binV Try.prog .eql 3 (.tmp 34) (.const (Go.Value.int Go.IntKind.i64 2)) t34_20 (Go.Value.int Go.IntKind.i64 2))).bind fun t35_22 =>
(pickV t32_19 t35_22 (Go.Value.bool Bool.false)).bind fun t36_23 =>
k .ret ⟨#[t36_23, t4_0, t8_4, t9_5, t4_0, t7_2, t4_0, t7_2, t8_4, t9_5, t4_0, t11_6, t12_7, t12_7, (gdV (wt t12_7 true) t4_0), t15_8, t16_9, t17_10, t18_11, t18_11, (gdV (wt t18_11 true) t4_0), t21_12, t22_13, t23_14, t24_15, t24_15, (gdV (wt t24_15 true) t8_4), t27_16, t28_17, t28_17, (gdV (wt t28_17 true) t9_5), t31_18, t32_19, t32_19, t34_20, t35_22, t36_23], h21⟩ := by kernel_rfl
theorem call18 (h : Heap) : evC Try.prog 18 #[] h = codeK Try.prog (evC Try.prog) loopL c18_0 ⟨#[undef, undef, undef, undef, undef, undef, undef, undef, undef, undef, undef, undef, undef, undef, undef, undef, undef, undef, undef, undef, undef, undef, undef, undef, undef, undef, undef, undef, undef, undef, undef, undef, undef, undef, undef, undef, undef], nm h⟩ (retK Try.f18 Try.prog h) :=
  (evC_call 18 Try.f18 c18_0 Try.func18 (by kernel_rfl) #[] h).trans (by kernel_rfl)
theorem ret18 (x0 x1 x2 x3 x4 x5 x6 x7 x8 x9 x10 x11 x12 x13 x14 x15 x16 x17 x18 x19 x20 x21 x22 x23 x24 x25 x26 x27 x28 x29 x30 x31 x32 x33 x34 x35 x36 : Value) (h0 h : Heap) : retK Try.f18 Try.prog h0 .ret ⟨#[x0, x1, x2, x3, x4, x5, x6, x7, x8, x9, x10, x11, x12, x13, x14, x15, x16, x17, x18, x19, x20, x21, x22, x23, x24, x25, x26, x27, x28, x29, x30, x31, x32, x33, x34, x35, x36], h⟩ = fin h0 (some x0) h := by kernel_rfl
theorem retn18 (x0 x1 x2 x3 x4 x5 x6 x7 x8 x9 x10 x11 x12 x13 x14 x15 x16 x17 x18 x19 x20 x21 x22 x23 x24 x25 x26 x27 x28 x29 x30 x31 x32 x33 x34 x35 x36 : Value) (h0 h : Heap) : retK Try.f18 Try.prog h0 .normal ⟨#[x0, x1, x2, x3, x4, x5, x6, x7, x8, x9, x10, x11, x12, x13, x14, x15, x16, x17, x18, x19, x20, x21, x22, x23, x24, x25, x26, x27, x28, x29, x30, x31, x32, x33, x34, x35, x36], h⟩ = fin h0 (some x0) h := by kernel_rfl
end Go.Am
namespace Go.Am
open Go.Proofs
set_option maxRecDepth 100000
noncomputable def c39_0 : Code := bodyC Try.f39 []
theorem c39_0_eq {β : Type} (x0 x1 x2 x3 x4 x5 x6 x7 : Value) (h : Heap) (k : Ex → St → Option β) : codeK Try.prog (evC Try.prog) loopL c39_0 ⟨#[x0, x1, x2, x3, x4, x5, x6, x7], h⟩ k =
(binV Try.prog .eql 31 (.tmp 3) (.const (Go.Value.slice Option.none 0 0)) x0 (Go.Value.slice Option.none 0 0)).bind fun t4_0 =>
cnd t4_0 (
k .ret ⟨#[x0, x1, (Go.Value.slice Option.none 0 0), x0, t4_0, x5, x6, x7], h⟩) (
obH (buildSliceV Try.prog 31 0 #[] h) fun t5_1 h2 =>
obH (appendV Try.prog 31 (some 31) t5_1 x0 h2) fun t7_3 h4 =>
k .ret ⟨#[x0, x1, t7_3, x0, t4_0, t5_1, x0, t7_3], h4⟩) := by kernel_rfl
theorem call39 (x0 : Value) (h : Heap) : evC Try.prog 39 #[x0] h = codeK Try.prog (evC Try.prog) loopL c39_0 ⟨#[x0, undef, undef, undef, undef, undef, undef, undef], nm h⟩ (retK Try.f39 Try.prog h) :=
  (evC_call 39 Try.f39 c39_0 Try.func39 (by kernel_rfl) #[x0] h).trans (by kernel_rfl)
theorem ret39 (x0 x1 x2 x3 x4 x5 x6 x7 : Value) (h0 h : Heap) : retK Try.f39 Try.prog h0 .ret ⟨#[x0, x1, x2, x3, x4, x5, x6, x7], h⟩ = fin h0 (some x2) h := by kernel_rfl
theorem retn39 (x0 x1 x2 x3 x4 x5 x6 x7 : Value) (h0 h : Heap) : retK Try.f39 Try.prog h0 .normal ⟨#[x0, x1, x2, x3, x4, x5, x6, x7], h⟩ = fin h0 (some x2) h := by kernel_rfl
end Go.Am
namespace Go.Am
open Go.Proofs
set_option maxRecDepth 100000
noncomputable def c27_0 : Code := bodyC Try.f27 []
theorem c27_0_eq {β : Type} (x0 x1 x2 : Value) (h : Heap) (k : Ex → St → Option β) : codeK Try.prog (evC Try.prog) loopL c27_0 ⟨#[x0, x1, x2], h⟩ k =
(buildV Try.prog 78 #[]).bind fun t1_0 =>
obH (boxV Try.prog 78 t1_0 h) fun t2_1 h2 =>
k .ret ⟨#[t2_1, t1_0, t2_1], h2⟩ := by kernel_rfl
theorem call27 (h : Heap) : evC Try.prog 27 #[] h = codeK Try.prog (evC Try.prog) loopL c27_0 ⟨#[undef, undef, undef], nm h⟩ (retK Try.f27 Try.prog h) :=
  (evC_call 27 Try.f27 c27_0 Try.func27 (by kernel_rfl) #[] h).trans (by kernel_rfl)
theorem ret27 (x0 x1 x2 : Value) (h0 h : Heap) : retK Try.f27 Try.prog h0 .ret ⟨#[x0, x1, x2], h⟩ = fin h0 (some x0) h := by kernel_rfl
theorem retn27 (x0 x1 x2 : Value) (h0 h : Heap) : retK Try.f27 Try.prog h0 .normal ⟨#[x0, x1, x2], h⟩ = fin h0 (some x0) h := by kernel_rfl
end Go.Am
namespace Go.Am
open Go.Proofs
set_option maxRecDepth 100000
noncomputable def c28_0 : Code := bodyC Try.f28 []
theorem c28_0_eq {β : Type} (x0 x1 x2 x3 x4 x5 x6 x7 x8 x9 x10 x11 x12 : Value) (h : Heap) (k : Ex → St → Option β) : codeK Try.prog (evC Try.prog) loopL c28_0 ⟨#[x0, x1, x2, x3, x4, x5, x6, x7, x8, x9, x10, x11, x12], h⟩ k =
(nilCheckV x0).bind fun t6_0 =>
(fieldAddrV Try.prog 78 t6_0 0).bind fun t7_1 =>
(loadV Try.prog 31 t7_1 h).bind fun t8_2 =>
obH (evC Try.prog 20 #[t8_2, x1] h) fun t10_3 h4 =>
(nilCheckV x0).bind fun t11_5 =>
(fieldAddrV Try.prog 78 t11_5 0).bind fun t12_6 =>
(storeV Try.prog 31 t12_6 t10_3 h4).bind fun h7 =>
k .normal ⟨#[x0, x1, x2, x3, x0, x0, t6_0, t7_1, t8_2, x1, t10_3, t11_5, t12_6], h7⟩ := by kernel_rfl
theorem call28 (x0 x1 : Value) (h : Heap) : evC Try.prog 28 #[x0, x1] h = codeK Try.prog (evC Try.prog) loopL c28_0 ⟨#[x0, x1, undef, undef, undef, undef, undef, undef, undef, undef, undef, undef, undef], nm h⟩ (retK Try.f28 Try.prog h) :=
  (evC_call 28 Try.f28 c28_0 Try.func28 (by kernel_rfl) #[x0, x1] h).trans (by kernel_rfl)
theorem ret28 (x0 x1 x2 x3 x4 x5 x6 x7 x8 x9 x10 x11 x12 : Value) (h0 h : Heap) : retK Try.f28 Try.prog h0 .ret ⟨#[x0, x1, x2, x3, x4, x5, x6, x7, x8, x9, x10, x11, x12], h⟩ = fin h0 (some (.tuple #[])) h := by kernel_rfl
theorem retn28 (x0 x1 x2 x3 x4 x5 x6 x7 x8 x9 x10 x11 x12 : Value) (h0 h : Heap) : retK Try.f28 Try.prog h0 .normal ⟨#[x0, x1, x2, x3, x4, x5, x6, x7, x8, x9, x10, x11, x12], h⟩ = fin h0 (some (.tuple #[])) h := by kernel_rfl
end Go.Am
namespace Go.Am
open Go.Proofs
set_option maxRecDepth 100000
noncomputable def c40_0 : Code := bodyC Try.f40 []
theorem c40_0_eq {β : Type} (x0 x1 x2 x3 x4 x5 x6 x7 x8 x9 x10 x11 x12 x13 x14 x15 x16 x17 : Value) (h : Heap) (k : Ex → St → Option β) : codeK Try.prog (evC Try.prog) loopL c40_0 ⟨#[x0, x1, x2, x3, x4, x5, x6, x7, x8, x9, x10, x11, x12, x13, x14, x15, x16, x17], h⟩ k =
(lenV Try.prog 31 x1 h).bind fun t6_0 =>
obH (convV Try.prog 3 22 t6_0 h) fun t7_1 h2 =>
obH (evC Try.prog 28 #[x0, t7_1] h2) fun t8_3 h4 =>
(nilCheckV x0).bind fun t11_5 =>
(fieldAddrV Try.prog 78 t11_5 0).bind fun t12_6 =>
(loadV Try.prog 31 t12_6 h4).bind fun t13_7 =>
obH (appendV Try.prog 31 (some 31) t13_7 x1 h4) fun t15_8 h9 =>
(nilCheckV x0).bind fun t16_10 =>
(fieldAddrV Try.prog 78 t16_10 0).bind fun t17_11 =>
(storeV Try.prog 31 t17_11 t15_8 h9).bind fun h12 =>
k .normal ⟨#[x0, x1, x2, x3, x0, x1, t6_0, t7_1, t8_3, x0, x0, t11_5, t12_6, t13_7, x1, t15_8, t16_10, t17_11], h12⟩ := by kernel_rfl
theorem call40 (x0 x1 : Value) (h : Heap) : evC Try.prog 40 #[x0, x1] h = codeK Try.prog (evC Try.prog) loopL c40_0 ⟨#[x0, x1, undef, undef, undef, undef, undef, undef, undef, undef, undef, undef, undef, undef, undef, undef, undef, undef], nm h⟩ (retK Try.f40 Try.prog h) :=
  (evC_call 40 Try.f40 c40_0 Try.func40 (by kernel_rfl) #[x0, x1] h).trans (by kernel_rfl)
theorem ret40 (x0 x1 x2 x3 x4 x5 x6 x7 x8 x9 x10 x11 x12 x13 x14 x15 x16 x17 : Value) (h0 h : Heap) : retK Try.f40 Try.prog h0 .ret ⟨#[x0, x1, x2, x3, x4, x5, x6, x7, x8, x9, x10, x11, x12, x13, x14, x15, x16, x17], h⟩ = fin h0 (some (.tuple #[])) h := by kernel_rfl
theorem retn40 (x0 x1 x2 x3 x4 x5 x6 x7 x8 x9 x10 x11 x12 x13 x14 x15 x16 x17 : Value) (h0 h : Heap) : retK Try.f40 Try.prog h0 .normal ⟨#[x0, x1, x2, x3, x4, x5, x6, x7, x8, x9, x10, x11, x12, x13, x14, x15, x16, x17], h⟩ = fin h0 (some (.tuple #[])) h := by kernel_rfl
end Go.Am
namespace Go.Am
open Go.Proofs
set_option maxRecDepth 100000
noncomputable def c29_0 : Code := bodyC Try.f29 []
theorem c29_0_eq {β : Type} (x0 x1 x2 x3 x4 x5 x6 x7 : Value) (h : Heap) (k : Ex → St → Option β) : codeK Try.prog (evC Try.prog) loopL c29_0 ⟨#[x0, x1, x2, x3, x4, x5, x6, x7], h⟩ k =
(nilCheckV x0).bind fun t4_0 =>
(fieldAddrV Try.prog 78 t4_0 0).bind fun t5_1 =>
(loadV Try.prog 31 t5_1 h).bind fun t6_2 =>
obH (evC Try.prog 39 #[t6_2] h) fun t7_3 h4 =>
k .ret ⟨#[x0, x1, t7_3, x0, t4_0, t5_1, t6_2, t7_3], h4⟩ := by kernel_rfl
theorem call29 (x0 : Value) (h : Heap) : evC Try.prog 29 #[x0] h = codeK Try.prog (evC Try.prog) loopL c29_0 ⟨#[x0, undef, undef, undef, undef, undef, undef, undef], nm h⟩ (retK Try.f29 Try.prog h) :=
  (evC_call 29 Try.f29 c29_0 Try.func29 (by kernel_rfl) #[x0] h).trans (by kernel_rfl)
theorem ret29 (x0 x1 x2 x3 x4 x5 x6 x7 : Value) (h0 h : Heap) : retK Try.f29 Try.prog h0 .ret ⟨#[x0, x1, x2, x3, x4, x5, x6, x7], h⟩ = fin h0 (some x2) h := by kernel_rfl
theorem retn29 (x0 x1 x2 x3 x4 x5 x6 x7 : Value) (h0 h : Heap) : retK Try.f29 Try.prog h0 .normal ⟨#[x0, x1, x2, x3, x4, x5, x6, x7], h⟩ = fin h0 (some x2) h := by kernel_rfl
end Go.Am
namespace Go.Am
open Go.Proofs
set_option maxRecDepth 100000
noncomputable def c30_0 : Code := bodyC Try.f30 []
theorem c30_0_eq {β : Type} (x0 x1 x2 x3 x4 x5 x6 : Value) (h : Heap) (k : Ex → St → Option β) : codeK Try.prog (evC Try.prog) loopL c30_0 ⟨#[x0, x1, x2, x3, x4, x5, x6], h⟩ k =
obH (evC Try.prog 39 #[x0] h) fun t4_0 h1 =>
(buildV Try.prog 80 #[(0, t4_0)]).bind fun t5_2 =>
obH (boxV Try.prog 80 t5_2 h1) fun t6_3 h4 =>
k .ret ⟨#[x0, x1, t6_3, x0, t4_0, t5_2, t6_3], h4⟩ := by kernel_rfl
theorem call30 (x0 : Value) (h : Heap) : evC Try.prog 30 #[x0] h = codeK Try.prog (evC Try.prog) loopL c30_0 ⟨#[x0, undef, undef, undef, undef, undef, undef], nm h⟩ (retK Try.f30 Try.prog h) :=
  (evC_call 30 Try.f30 c30_0 Try.func30 (by kernel_rfl) #[x0] h).trans (by kernel_rfl)
theorem ret30 (x0 x1 x2 x3 x4 x5 x6 : Value) (h0 h : Heap) : retK Try.f30 Try.prog h0 .ret ⟨#[x0, x1, x2, x3, x4, x5, x6], h⟩ = fin h0 (some x2) h := by kernel_rfl
theorem retn30 (x0 x1 x2 x3 x4 x5 x6 : Value) (h0 h : Heap) : retK Try.f30 Try.prog h0 .normal ⟨#[x0, x1, x2, x3, x4, x5, x6], h⟩ = fin h0 (some x2) h := by kernel_rfl
end Go.Am
namespace Go.Am
open Go.Proofs
set_option maxRecDepth 100000
noncomputable def c31_0 : Code := bodyC Try.f31 []
theorem c31_0_eq {β : Type} (x0 x1 x2 x3 x4 x5 x6 x7 x8 x9 x10 x11 x12 x13 x14 x15 x16 x17 x18 x19 x20 x21 x22 x23 x24 x25 x26 x27 x28 x29 x30 x31 x32 x33 : Value) (h : Heap) (k : Ex → St → Option β) : codeK Try.prog (evC Try.prog) loopL c31_0 ⟨#[x0, x1, x2, x3, x4, x5, x6, x7, x8, x9, x10, x11, x12, x13, x14, x15, x16, x17, x18, x19, x20, x21, x22, x23, x24, x25, x26, x27, x28, x29, x30, x31, x32, x33], h⟩ k =
(nilCheckV x0).bind fun t9_0 =>
(fieldAddrV Try.prog 80 t9_0 0).bind fun t10_1 =>
(loadV Try.prog 31 t10_1 h).bind fun t11_2 =>
obH (evC Try.prog 21 #[t11_2] h) fun t12_3 h4 =>
(extractV t12_3 0).bind fun t13_5 =>
(extractV t12_3 1).bind fun t14_6 =>
(binV Try.prog .eql 3 (.tmp 16) (.const (Go.Value.int Go.IntKind.i64 0)) t14_6 (Go.Value.int Go.IntKind.i64 0)).bind fun t17_7 =>
(gd (wt t17_7 false) (binV Try.prog .gtr 22 (.tmp 19) (.tmp 20) (gdV (wt t17_7 false) t13_5) (gdV (wt t17_7 false) x1))).bind fun t21_8 =>
(pickV t17_7 (Go.Value.bool Bool.true) t21_8).bind fun t22_9 =>
obH (evC Try.prog 42 #[x0, t22_9] h4) fun t23_10 h11 =>
cnd t23_10 (
k .ret ⟨#[x0, x1, x2, x3, (Go.Value.int Go.IntKind.u64 0), t13_5, t14_6, t12_3, x0, t9_0, t10_1, t11_2, t12_3, t13_5, t14_6, x0, t14_6, t17_7, t17_7, (gdV (wt t17_7 false) t13_5), (gdV (wt t17_7 false) x1), t21_8, t22_9, t23_10, x24, x25, x26, x27, x28, x29, x30, x31, x32, x33], h11⟩) (
(nilCheckV x0).bind fun t26_12 =>
(fieldAddrV Try.prog 80 t26_12 0).bind fun t27_13 =>
(loadV Try.prog 31 t27_13 h11).bind fun t28_14 =>
(sliceV Try.prog 31 t28_14 (some t14_6) none none h11).bind fun t30_15 =>
(nilCheckV x0).bind fun t31_16 =>
(fieldAddrV Try.prog 80 t31_16 0).bind fun t32_17 =>
(storeV Try.prog 31 t32_17 t30_15 h11).bind fun h18 =>
k .ret ⟨#[x0, x1, x2, x3, t13_5, t13_5, t14_6, t12_3, x0, t9_0, t10_1, t11_2, t12_3, t13_5, t14_6, x0, t14_6, t17_7, t17_7, (gdV (wt t17_7 false) t13_5), (gdV (wt t17_7 false) x1), t21_8, t22_9, t23_10, x0, x0, t26_12, t27_13, t28_14, t14_6, t30_15, t31_16, t32_17, t13_5], h18⟩) := by kernel_rfl
theorem call31 (x0 x1 : Value) (h : Heap) : evC Try.prog 31 #[x0, x1] h = codeK Try.prog (evC Try.prog) loopL c31_0 ⟨#[x0, x1, undef, undef, undef, undef, undef, undef, undef, undef, undef, undef, undef, undef, undef, undef, undef, undef, undef, undef, undef, undef, undef, undef, undef, undef, undef, undef, undef, undef, undef, undef, undef, undef], nm h⟩ (retK Try.f31 Try.prog h) :=
  (evC_call 31 Try.f31 c31_0 Try.func31 (by kernel_rfl) #[x0, x1] h).trans (by kernel_rfl)
theorem ret31 (x0 x1 x2 x3 x4 x5 x6 x7 x8 x9 x10 x11 x12 x13 x14 x15 x16 x17 x18 x19 x20 x21 x22 x23 x24 x25 x26 x27 x28 x29 x30 x31 x32 x33 : Value) (h0 h : Heap) : retK Try.f31 Try.prog h0 .ret ⟨#[x0, x1, x2, x3, x4, x5, x6, x7, x8, x9, x10, x11, x12, x13, x14, x15, x16, x17, x18, x19, x20, x21, x22, x23, x24, x25, x26, x27, x28, x29, x30, x31, x32, x33], h⟩ = fin h0 (some x4) h := by kernel_rfl
theorem retn31 (x0 x1 x2 x3 x4 x5 x6 x7 x8 x9 x10 x11 x12 x13 x14 x15 x16 x17 x18 x19 x20 x21 x22 x23 x24 x25 x26 x27 x28 x29 x30 x31 x32 x33 : Value) (h0 h : Heap) : retK Try.f31 Try.prog h0 .normal ⟨#[x0, x1, x2, x3, x4, x5, x6, x7, x8, x9, x10, x11, x12, x13, x14, x15, x16, x17, x18, x19, x20, x21, x22, x23, x24, x25, x26, x27, x28, x29, x30, x31, x32, x33], h⟩ = fin h0 (some x4) h := by kernel_rfl
end Go.Am
namespace Go.Am
open Go.Proofs
set_option maxRecDepth 100000
noncomputable def c41_0 : Code := bodyC Try.f41 []
theorem c41_0_eq {β : Type} (x0 x1 x2 x3 x4 x5 x6 x7 x8 x9 x10 x11 x12 x13 x14 : Value) (h : Heap) (k : Ex → St → Option β) : codeK Try.prog (evC Try.prog) loopL c41_0 ⟨#[x0, x1, x2, x3, x4, x5, x6, x7, x8, x9, x10, x11, x12, x13, x14], h⟩ k =
obH (builtinV Try.prog .max #[3, 3] #[x1, (Go.Value.int Go.IntKind.i64 0)] h) fun t8_0 h1 =>
obH (convV Try.prog 3 22 t8_0 h1) fun t9_2 h3 =>
obH (evC Try.prog 31 #[x0, t9_2] h3) fun t10_4 h5 =>
obH (evC Try.prog 49 #[x0, t10_4] h5) fun t13_6 h7 =>
obH (evC Try.prog 39 #[t13_6] h7) fun t14_8 h9 =>
k .ret ⟨#[x0, x1, x2, x3, t14_8, t10_4, x0, x1, t8_0, t9_2, t10_4, x0, t10_4, t13_6, t14_8], h9⟩ := by kernel_rfl
theorem call41 (x0 x1 : Value) (h : Heap) : evC Try.prog 41 #[x0, x1] h = codeK Try.prog (evC Try.prog) loopL c41_0 ⟨#[x0, x1, undef, undef, undef, undef, undef, undef, undef, undef, undef, undef, undef, undef, undef], nm h⟩ (retK Try.f41 Try.prog h) :=
  (evC_call 41 Try.f41 c41_0 Try.func41 (by kernel_rfl) #[x0, x1] h).trans (by kernel_rfl)
theorem ret41 (x0 x1 x2 x3 x4 x5 x6 x7 x8 x9 x10 x11 x12 x13 x14 : Value) (h0 h : Heap) : retK Try.f41 Try.prog h0 .ret ⟨#[x0, x1, x2, x3, x4, x5, x6, x7, x8, x9, x10, x11, x12, x13, x14], h⟩ = fin h0 (some x4) h := by kernel_rfl
theorem retn41 (x0 x1 x2 x3 x4 x5 x6 x7 x8 x9 x10 x11 x12 x13 x14 : Value) (h0 h : Heap) : retK Try.f41 Try.prog h0 .normal ⟨#[x0, x1, x2, x3, x4, x5, x6, x7, x8, x9, x10, x11, x12, x13, x14], h⟩ = fin h0 (some x4) h := by kernel_rfl
end Go.Am
namespace Go.Am
open Go.Proofs
set_option maxRecDepth 100000
noncomputable def c32_0 : Code := bodyC Try.f32 []
theorem c32_0_eq {β : Type} (x0 x1 x2 x3 x4 x5 x6 x7 x8 x9 x10 x11 x12 x13 x14 x15 : Value) (h : Heap) (k : Ex → St → Option β) : codeK Try.prog (evC Try.prog) loopL c32_0 ⟨#[x0, x1, x2, x3, x4, x5, x6, x7, x8, x9, x10, x11, x12, x13, x14, x15], h⟩ k =
(nilCheckV x0).bind fun t4_0 =>
(fieldAddrV Try.prog 80 t4_0 1).bind fun t5_1 =>
(loadV Try.prog 4 t5_1 h).bind fun t6_2 =>
(unV Try.prog .not t6_2).bind fun t7_3 =>
(gd (wt t7_3 true) (nilCheckV (gdV (wt t7_3 true) x0))).bind fun t10_4 =>
(gd (wt t7_3 true) (fieldAddrV Try.prog 80 t10_4 0)).bind fun t11_5 =>
(gd (wt t7_3 true) (loadV Try.prog 31 t11_5 h)).bind fun t12_6 =>
(gd (wt t7_3 true) (lenV Try.prog 31 t12_6 h)).bind fun t13_7 =>
(gd (wt t7_3 true) (binV Try.prog .eql 3 (.tmp 13) (.const (Go.Value.int Go.IntKind.i64 0)) t13_7 (Go.Value.int Go.IntKind.i64 0))).bind fun t14_8 =>
(pickV t7_3 t14_8 (Go.Value.bool Bool.false)).bind fun t15_9 =>
k .ret ⟨#[x0, x1, t15_9, x0, t4_0, t5_1, t6_2, t7_3, t7_3, (gdV (wt t7_3 true) x0), t10_4, t11_5, t12_6, t13_7, t14_8, t15_9], h⟩ := by kernel_rfl
theorem call32 (x0 : Value) (h : Heap) : evC Try.prog 32 #[x0] h = codeK Try.prog (evC Try.prog) loopL c32_0 ⟨#[x0, undef, undef, undef, undef, undef, undef, undef, undef, undef, undef, undef, undef, undef, undef, undef], nm h⟩ (retK Try.f32 Try.prog h) :=
  (evC_call 32 Try.f32 c32_0 Try.func32 (by kernel_rfl) #[x0] h).trans (by kernel_rfl)
theorem ret32 (x0 x1 x2 x3 x4 x5 x6 x7 x8 x9 x10 x11 x12 x13 x14 x15 : Value) (h0 h : Heap) : retK Try.f32 Try.prog h0 .ret ⟨#[x0, x1, x2, x3, x4, x5, x6, x7, x8, x9, x10, x11, x12, x13, x14, x15], h⟩ = fin h0 (some x2) h := by kernel_rfl
theorem retn32 (x0 x1 x2 x3 x4 x5 x6 x7 x8 x9 x10 x11 x12 x13 x14 x15 : Value) (h0 h : Heap) : retK Try.f32 Try.prog h0 .normal ⟨#[x0, x1, x2, x3, x4, x5, x6, x7, x8, x9, x10, x11, x12, x13, x14, x15], h⟩ = fin h0 (some x2) h := by kernel_rfl
end Go.Am
namespace Go.Am
open Go.Proofs
set_option maxRecDepth 100000
noncomputable def c42_0 : Code := bodyC Try.f42 []
noncomputable def c42_1 : Code := bodyC Try.f42 [true, true]
theorem c42_0_eq {β : Type} (x0 x1 x2 x3 x4 x5 x6 x7 x8 x9 x10 x11 x12 x13 x14 x15 : Value) (h : Heap) (k : Ex → St → Option β) : codeK Try.prog (evC Try.prog) loopL c42_0 ⟨#[x0, x1, x2, x3, x4, x5, x6, x7, x8, x9, x10, x11, x12, x13, x14, x15], h⟩ k =
cnd x1 (
(nilCheckV x0).bind fun t8_0 =>
(fieldAddrV Try.prog 80 t8_0 0).bind fun t9_1 =>
(storeV Try.prog 31 t9_1 (Go.Value.slice Option.none 0 0) h).bind fun h2 =>
(nilCheckV x0).bind fun t10_3 =>
(fieldAddrV Try.prog 80 t10_3 1).bind fun t11_4 =>
(storeV Try.prog 4 t11_4 (Go.Value.bool Bool.true) h2).bind fun h5 =>
codeK Try.prog (evC Try.prog) loopL c42_1 ⟨#[x0, x1, x2, x3, (Go.Value.bool Bool.false), x1, x0, x0, t8_0, t9_1, t10_3, t11_4, x12, x13, x14, x15], h5⟩ k) (
codeK Try.prog (evC Try.prog) loopL c42_1 ⟨#[x0, x1, x2, x3, (Go.Value.bool Bool.false), x1, x6, x7, x8, x9, x10, x11, x12, x13, x14, x15], h⟩ k) := by kernel_rfl
theorem c42_1_eq {β : Type} (x0 x1 x2 x3 x4 x5 x6 x7 x8 x9 x10 x11 x12 x13 x14 x15 : Value) (h : Heap) (k : Ex → St → Option β) : codeK Try.prog (evC Try.prog) loopL c42_1 ⟨#[x0, x1, x2, x3, x4, x5, x6, x7, x8, x9, x10, x11, x12, x13, x14, x15], h⟩ k =
(nilCheckV x0).bind fun t13_6 =>
(fieldAddrV Try.prog 80 t13_6 1).bind fun t14_7 =>
(loadV Try.prog 4 t14_7 h).bind fun t15_8 =>
k .ret ⟨#[x0, x1, x2, x3, t15_8, x5, x6, x7, x8, x9, x10, x11, x0, t13_6, t14_7, t15_8], h⟩ := by kernel_rfl
theorem call42 (x0 x1 : Value) (h : Heap) : evC Try.prog 42 #[x0, x1] h = codeK Try.prog (evC Try.prog) loopL c42_0 ⟨#[x0, x1, undef, undef, undef, undef, undef, undef, undef, undef, undef, undef, undef, undef, undef, undef], nm h⟩ (retK Try.f42 Try.prog h) :=
  (evC_call 42 Try.f42 c42_0 Try.func42 (by kernel_rfl) #[x0, x1] h).trans (by kernel_rfl)
theorem ret42 (x0 x1 x2 x3 x4 x5 x6 x7 x8 x9 x10 x11 x12 x13 x14 x15 : Value) (h0 h : Heap) : retK Try.f42 Try.prog h0 .ret ⟨#[x0, x1, x2, x3, x4, x5, x6, x7, x8, x9, x10, x11, x12, x13, x14, x15], h⟩ = fin h0 (some x4) h := by kernel_rfl
theorem retn42 (x0 x1 x2 x3 x4 x5 x6 x7 x8 x9 x10 x11 x12 x13 x14 x15 : Value) (h0 h : Heap) : retK Try.f42 Try.prog h0 .normal ⟨#[x0, x1, x2, x3, x4, x5, x6, x7, x8, x9, x10, x11, x12, x13, x14, x15], h⟩ = fin h0 (some x4) h := by kernel_rfl
end Go.Am
namespace Go.Am
open Go.Proofs
set_option maxRecDepth 100000
noncomputable def c49_0 : Code := bodyC Try.f49 []
theorem c49_0_eq {β : Type} (x0 x1 x2 x3 x4 x5 x6 x7 x8 x9 x10 x11 x12 x13 x14 x15 x16 x17 x18 x19 x20 x21 x22 x23 x24 x25 x26 x27 x28 x29 x30 x31 : Value) (h : Heap) (k : Ex → St → Option β) : codeK Try.prog (evC Try.prog) loopL c49_0 ⟨#[x0, x1, x2, x3, x4, x5, x6, x7, x8, x9, x10, x11, x12, x13, x14, x15, x16, x17, x18, x19, x20, x21, x22, x23, x24, x25, x26, x27, x28, x29, x30, x31], h⟩ k =
(nilCheckV x0).bind fun t9_0 =>
(fieldAddrV Try.prog 80 t9_0 0).bind fun t10_1 =>
(loadV Try.prog 31 t10_1 h).bind fun t11_2 =>
(lenV Try.prog 31 t11_2 h).bind fun t12_3 =>
obH (convV Try.prog 3 22 t12_3 h) fun t13_4 h5 =>
(binV Try.prog .gtr 22 (.tmp 7) (.tmp 13) x1 t13_4).bind fun t14_6 =>
obH (evC Try.prog 42 #[x0, t14_6] h5) fun t15_7 h8 =>
cnd t15_7 (
k .ret ⟨#[x0, x1, x2, x3, (Go.Value.slice Option.none 0 0), x5, x0, x1, x0, t9_0, t10_1, t11_2, t12_3, t13_4, t14_6, t15_7, x16, x17, x18, x19, x20, x21, x22, x23, x24, x25, x26, x27, x28, x29, x30, x31], h8⟩) (
(nilCheckV x0).bind fun t17_9 =>
(fieldAddrV Try.prog 80 t17_9 0).bind fun t18_10 =>
(loadV Try.prog 31 t18_10 h8).bind fun t19_11 =>
(sliceV Try.prog 31 t19_11 none (some x1) none h8).bind fun t21_12 =>
(nilCheckV x0).bind fun t24_13 =>
(fieldAddrV Try.prog 80 t24_13 0).bind fun t25_14 =>
(loadV Try.prog 31 t25_14 h8).bind fun t26_15 =>
(sliceV Try.prog 31 t26_15 (some x1) none none h8).bind fun t28_16 =>
(nilCheckV x0).bind fun t29_17 =>
(fieldAddrV Try.prog 80 t29_17 0).bind fun t30_18 =>
(storeV Try.prog 31 t30_18 t28_16 h8).bind fun h19 =>
k .ret ⟨#[x0, x1, x2, x3, t21_12, t21_12, x0, x1, x0, t9_0, t10_1, t11_2, t12_3, t13_4, t14_6, t15_7, x0, t17_9, t18_10, t19_11, x1, t21_12, x0, x0, t24_13, t25_14, t26_15, x1, t28_16, t29_17, t30_18, t21_12], h19⟩) := by kernel_rfl
theorem call49 (x0 x1 : Value) (h : Heap) : evC Try.prog 49 #[x0, x1] h = codeK Try.prog (evC Try.prog) loopL c49_0 ⟨#[x0, x1, undef, undef, undef, undef, undef, undef, undef, undef, undef, undef, undef, undef, undef, undef, undef, undef, undef, undef, undef, undef, undef, undef, undef, undef, undef, undef, undef, undef, undef, undef], nm h⟩ (retK Try.f49 Try.prog h) :=
  (evC_call 49 Try.f49 c49_0 Try.func49 (by kernel_rfl) #[x0, x1] h).trans (by kernel_rfl)
theorem ret49 (x0 x1 x2 x3 x4 x5 x6 x7 x8 x9 x10 x11 x12 x13 x14 x15 x16 x17 x18 x19 x20 x21 x22 x23 x24 x25 x26 x27 x28 x29 x30 x31 : Value) (h0 h : Heap) : retK Try.f49 Try.prog h0 .ret ⟨#[x0, x1, x2, x3, x4, x5, x6, x7, x8, x9, x10, x11, x12, x13, x14, x15, x16, x17, x18, x19, x20, x21, x22, x23, x24, x25, x26, x27, x28, x29, x30, x31], h⟩ = fin h0 (some x4) h := by kernel_rfl
theorem retn49 (x0 x1 x2 x3 x4 x5 x6 x7 x8 x9 x10 x11 x12 x13 x14 x15 x16 x17 x18 x19 x20 x21 x22 x23 x24 x25 x26 x27 x28 x29 x30 x31 : Value) (h0 h : Heap) : retK Try.f49 Try.prog h0 .normal ⟨#[x0, x1, x2, x3, x4, x5, x6, x7, x8, x9, x10, x11, x12, x13, x14, x15, x16, x17, x18, x19, x20, x21, x22, x23, x24, x25, x26, x27, x28, x29, x30, x31], h⟩ = fin h0 (some x4) h := by kernel_rfl
end Go.Am
namespace Go.Am
open Go.Proofs
set_option maxRecDepth 100000
noncomputable def c4_0 : Code := bodyC Try.f4 []
theorem c4_0_eq {β : Type} (x0 x1 x2 x3 x4 x5 x6 x7 x8 x9 x10 x11 x12 x13 x14 x15 x16 x17 x18 x19 x20 x21 x22 x23 x24 x25 x26 x27 x28 x29 x30 x31 x32 x33 x34 x35 : Value) (h : Heap) (k : Ex → St → Option β) : codeK Try.prog (evC Try.prog) loopL c4_0 ⟨#[x0, x1, x2, x3, x4, x5, x6, x7, x8, x9, x10, x11, x12, x13, x14, x15, x16, x17, x18, x19, x20, x21, x22, x23, x24, x25, x26, x27, x28, x29, x30, x31, x32, x33, x34, x35], h⟩ k =
obH (evC Try.prog 18 #[] h) fun t4_0 h1 =>
(unV Try.prog .not t4_0).bind fun t5_2 =>
cnd t5_2 (
k .ret ⟨#[x0, x1, (Go.Value.bool Bool.false), x3, t4_0, t5_2, x6, x7, x8, x9, x10, x11, x12, x13, x14, x15, x16, x17, x18, x19, x20, x21, x22, x23, x24, x25, x26, x27, x28, x29, x30, x31, x32, x33, x34, x35], h1⟩) (
obH (evC Try.prog 19 #[x0] h1) fun t7_3 h4 =>
(binV Try.prog .lss 3 (.tmp 8) (.const (Go.Value.int Go.IntKind.i64 1)) t7_3 (Go.Value.int Go.IntKind.i64 1)).bind fun t9_5 =>
(gd (wt t9_5 false) (binV Try.prog .gtr 3 (.tmp 11) (.const (Go.Value.int Go.IntKind.i64 10)) (gdV (wt t9_5 false) t7_3) (Go.Value.int Go.IntKind.i64 10))).bind fun t12_6 =>
(pickV t9_5 (Go.Value.bool Bool.true) t12_6).bind fun t13_7 =>
obH (gdH (wt t13_7 false) h4 (evC Try.prog 20 #[(Go.Value.slice Option.none 0 0), (gdV (wt t13_7 false) x0)] h4)) fun t16_8 h9 =>
(gd (wt t13_7 false) (lenV Try.prog 31 t16_8 h9)).bind fun t17_10 =>
(gd (wt t13_7 false) (binV Try.prog .neq 3 (.tmp 17) (.tmp 18) t17_10 (gdV (wt t13_7 false) t7_3))).bind fun t19_11 =>
(pickV t13_7 (Go.Value.bool Bool.true) t19_11).bind fun t20_12 =>
cnd t20_12 (
k .ret ⟨#[x0, x1, (Go.Value.bool Bool.false), t7_3, t4_0, t5_2, x0, t7_3, t7_3, t9_5, t9_5, (gdV (wt t9_5 false) t7_3), t12_6, t13_7, t13_7, (gdV (wt t13_7 false) x0), t16_8, t17_10, (gdV (wt t13_7 false) t7_3), t19_11, t20_12, x21, x22, x23, x24, x25, x26, x27, x28, x29, x30, x31, x32, x33, x34, x35], h9⟩) (
(binV Try.prog .geq 22 (.tmp 21) (.const (Go.Value.int Go.IntKind.u64 144115188075855872)) x0 (Go.Value.int Go.IntKind.u64 144115188075855872)).bind fun t22_13 =>
cnd t22_13 (
(binV Try.prog .geq 3 (.tmp 23) (.const (Go.Value.int Go.IntKind.i64 9)) t7_3 (Go.Value.int Go.IntKind.i64 9)).bind fun t24_14 =>
k .ret ⟨#[x0, x1, t24_14, t7_3, t4_0, t5_2, x0, t7_3, t7_3, t9_5, t9_5, (gdV (wt t9_5 false) t7_3), t12_6, t13_7, t13_7, (gdV (wt t13_7 false) x0), t16_8, t17_10, (gdV (wt t13_7 false) t7_3), t19_11, t20_12, x0, t22_13, t7_3, t24_14, x25, x26, x27, x28, x29, x30, x31, x32, x33, x34, x35], h9⟩) (
(binV Try.prog .shl 22 (.tmp 25) (.const (Go.Value.int Go.IntKind.u64 7)) x0 (Go.Value.int Go.IntKind.u64 7)).bind fun t26_15 =>
(binV Try.prog .or 22 (.tmp 26) (.const (Go.Value.int Go.IntKind.u64 5)) t26_15 (Go.Value.int Go.IntKind.u64 5)).bind fun t27_16 =>
obH (evC Try.prog 19 #[t27_16] h9) fun t28_17 h18 =>
(binV Try.prog .add 3 (.tmp 29) (.const (Go.Value.int Go.IntKind.i64 1)) t7_3 (Go.Value.int Go.IntKind.i64 1)).bind fun t30_19 =>
(binV Try.prog .eql 3 (.tmp 28) (.tmp 30) t28_17 t30_19).bind fun t31_20 =>
(gd (wt t31_20 false) (binV Try.prog .eql 22 (.tmp 33) (.const (Go.Value.int Go.IntKind.u64 0)) (gdV (wt t31_20 false) x0) (Go.Value.int Go.IntKind.u64 0))).bind fun t34_21 =>
(pickV t31_20 (Go.Value.bool Bool.true) t34_21).bind fun t35_22 =>
k .ret ⟨#[x0, x1, t35_22, t7_3, t4_0, t5_2, x0, t7_3, t7_3, t9_5, t9_5, (gdV (wt t9_5 false) t7_3), t12_6, t13_7, t13_7, (gdV (wt t13_7 false) x0), t16_8, t17_10, (gdV (wt t13_7 false) t7_3), t19_11, t20_12, x0, t22_13, x23, x24, x0, t26_15, t27_16, t28_17, t7_3, t30_19, t31_20, t31_20, (gdV (wt t31_20 false) x0), t34_21, t35_22], h18⟩))) := by kernel_rfl
theorem call4 (x0 : Value) (h : Heap) : evC Try.prog 4 #[x0] h = codeK Try.prog (evC Try.prog) loopL c4_0 ⟨#[x0, undef, undef, undef, undef, undef, undef, undef, undef, undef, undef, undef, undef, undef, undef, undef, undef, undef, undef, undef, undef, undef, undef, undef, undef, undef, undef, undef, undef, undef, undef, undef, undef, undef, undef, undef], nm h⟩ (retK Try.f4 Try.prog h) :=
  (evC_call 4 Try.f4 c4_0 Try.func4 (by kernel_rfl) #[x0] h).trans (by kernel_rfl)
theorem ret4 (x0 x1 x2 x3 x4 x5 x6 x7 x8 x9 x10 x11 x12 x13 x14 x15 x16 x17 x18 x19 x20 x21 x22 x23 x24 x25 x26 x27 x28 x29 x30 x31 x32 x33 x34 x35 : Value) (h0 h : Heap) : retK Try.f4 Try.prog h0 .ret ⟨#[x0, x1, x2, x3, x4, x5, x6, x7, x8, x9, x10, x11, x12, x13, x14, x15, x16, x17, x18, x19, x20, x21, x22, x23, x24, x25, x26, x27, x28, x29, x30, x31, x32, x33, x34, x35], h⟩ = fin h0 (some x2) h := by kernel_rfl
theorem retn4 (x0 x1 x2 x3 x4 x5 x6 x7 x8 x9 x10 x11 x12 x13 x14 x15 x16 x17 x18 x19 x20 x21 x22 x23 x24 x25 x26 x27 x28 x29 x30 x31 x32 x33 x34 x35 : Value) (h0 h : Heap) : retK Try.f4 Try.prog h0 .normal ⟨#[x0, x1, x2, x3, x4, x5, x6, x7, x8, x9, x10, x11, x12, x13, x14, x15, x16, x17, x18, x19, x20, x21, x22, x23, x24, x25, x26, x27, x28, x29, x30, x31, x32, x33, x34, x35], h⟩ = fin h0 (some x2) h := by kernel_rfl
end Go.Am
namespace Go.Am
open Go.Proofs
set_option maxRecDepth 100000
noncomputable def c23_0 : Code := bodyC Try.f23 []
noncomputable def c23_1 : Code := bodyC Try.f23 [true, true, false, false, false]
noncomputable def c23_2 : Code := bodyC Try.f23 [true, true, true]
theorem c23_0_eq {β : Type} (x0 x1 x2 x3 x4 x5 x6 x7 x8 x9 x10 x11 x12 x13 x14 x15 x16 x17 x18 x19 x20 x21 x22 x23 : Value) (h : Heap) (k : Ex → St → Option β) : codeK Try.prog (evC Try.prog) loopL c23_0 ⟨#[x0, x1, x2, x3, x4, x5, x6, x7, x8, x9, x10, x11, x12, x13, x14, x15, x16, x17, x18, x19, x20, x21, x22, x23], h⟩ k =
obH (buildSliceV Try.prog 31 0 #[] h) fun t5_0 h1 =>
obH (appendV Try.prog 31 (some 31) t5_0 x0 h1) fun t7_2 h3 =>
loopK Try.prog (evC Try.prog) c23_1 ⟨#[t7_2, x1, x2, x3, (Go.Value.slice Option.none 0 0), t5_0, x0, t7_2, x8, x9, x10, x11, x12, x13, x14, x15, x16, x17, x18, x19, x20, x21, x22, x23], h3⟩ (blockK 0 (seqK Try.prog (evC Try.prog) c23_2 k)) := by kernel_rfl
theorem c23_1_eq {β : Type} (x0 x1 x2 x3 x4 x5 x6 x7 x8 x9 x10 x11 x12 x13 x14 x15 x16 x17 x18 x19 x20 x21 x22 x23 : Value) (h : Heap) (k : Ex → St → Option β) : codeK Try.prog (evC Try.prog) loopL c23_1 ⟨#[x0, x1, x2, x3, x4, x5, x6, x7, x8, x9, x10, x11, x12, x13, x14, x15, x16, x17, x18, x19, x20, x21, x22, x23], h⟩ k =
(binV Try.prog .geq 22 (.tmp 8) (.const (Go.Value.int Go.IntKind.u64 128)) x1 (Go.Value.int Go.IntKind.u64 128)).bind fun t9_4 =>
cnd t9_4 (
(binV Try.prog .rem 22 (.tmp 11) (.const (Go.Value.int Go.IntKind.u64 128)) x1 (Go.Value.int Go.IntKind.u64 128)).bind fun t12_5 =>
obH (convV Try.prog 22 5 t12_5 h) fun t13_6 h7 =>
(binV Try.prog .add 5 (.tmp 13) (.const (Go.Value.int Go.IntKind.u8 128)) t13_6 (Go.Value.int Go.IntKind.u8 128)).bind fun t14_8 =>
obH (buildSliceV Try.prog 31 1 #[(0, t14_8)] h7) fun t15_9 h10 =>
obH (appendV Try.prog 31 (some 31) x0 t15_9 h10) fun t16_11 h12 =>
(binV Try.prog .quo 22 (.tmp 17) (.const (Go.Value.int Go.IntKind.u64 128)) x1 (Go.Value.int Go.IntKind.u64 128)).bind fun t18_13 =>
k .normal ⟨#[t16_11, t18_13, x2, x3, x4, x5, x6, x7, x1, t9_4, x0, x1, t12_5, t13_6, t14_8, t15_9, t16_11, x1, t18_13, x19, x20, x21, x22, x23], h12⟩) (
k (.exit 0) ⟨#[x0, x1, x2, x3, x4, x5, x6, x7, x1, t9_4, x10, x11, x12, x13, x14, x15, x16, x17, x18, x19, x20, x21, x22, x23], h⟩) := by kernel_rfl
theorem c23_2_eq {β : Type} (x0 x1 x2 x3 x4 x5 x6 x7 x8 x9 x10 x11 x12 x13 x14 x15 x16 x17 x18 x19 x20 x21 x22 x23 : Value) (h : Heap) (k : Ex → St → Option β) : codeK Try.prog (evC Try.prog) loopL c23_2 ⟨#[x0, x1, x2, x3, x4, x5, x6, x7, x8, x9, x10, x11, x12, x13, x14, x15, x16, x17, x18, x19, x20, x21, x22, x23], h⟩ k =
obH (convV Try.prog 22 5 x1 h) fun t21_14 h15 =>
obH (buildSliceV Try.prog 31 1 #[(0, t21_14)] h15) fun t22_16 h17 =>
obH (appendV Try.prog 31 (some 31) x0 t22_16 h17) fun t23_18 h19 =>
k .ret ⟨#[x0, x1, x2, x3, t23_18, x5, x6, x7, x8, x9, x10, x11, x12, x13, x14, x15, x16, x17, x18, x0, x1, t21_14, t22_16, t23_18], h19⟩ := by kernel_rfl
theorem call23 (x0 x1 : Value) (h : Heap) : evC Try.prog 23 #[x0, x1] h = codeK Try.prog (evC Try.prog) loopL c23_0 ⟨#[x0, x1, undef, undef, undef, undef, undef, undef, undef, undef, undef, undef, undef, undef, undef, undef, undef, undef, undef, undef, undef, undef, undef, undef], nm h⟩ (retK Try.f23 Try.prog h) :=
  (evC_call 23 Try.f23 c23_0 Try.func23 (by kernel_rfl) #[x0, x1] h).trans (by kernel_rfl)
theorem ret23 (x0 x1 x2 x3 x4 x5 x6 x7 x8 x9 x10 x11 x12 x13 x14 x15 x16 x17 x18 x19 x20 x21 x22 x23 : Value) (h0 h : Heap) : retK Try.f23 Try.prog h0 .ret ⟨#[x0, x1, x2, x3, x4, x5, x6, x7, x8, x9, x10, x11, x12, x13, x14, x15, x16, x17, x18, x19, x20, x21, x22, x23], h⟩ = fin h0 (some x4) h := by kernel_rfl
theorem retn23 (x0 x1 x2 x3 x4 x5 x6 x7 x8 x9 x10 x11 x12 x13 x14 x15 x16 x17 x18 x19 x20 x21 x22 x23 : Value) (h0 h : Heap) : retK Try.f23 Try.prog h0 .normal ⟨#[x0, x1, x2, x3, x4, x5, x6, x7, x8, x9, x10, x11, x12, x13, x14, x15, x16, x17, x18, x19, x20, x21, x22, x23], h⟩ = fin h0 (some x4) h := by kernel_rfl
end Go.Am
namespace Go.Am
open Go.Proofs
set_option maxRecDepth 100000
noncomputable def c24_0 : Code := bodyC Try.f24 []
noncomputable def c24_1 : Code := bodyC Try.f24 [true, true, false, true, false, false]
noncomputable def c24_2 : Code := bodyC Try.f24 [true, true, true]
theorem c24_0_eq {β : Type} (x0 x1 x2 x3 x4 x5 x6 x7 x8 x9 x10 x11 x12 x13 x14 x15 x16 x17 x18 x19 x20 x21 x22 x23 x24 x25 x26 x27 x28 x29 x30 x31 x32 x33 x34 x35 x36 x37 x38 x39 x40 x41 x42 x43 x44 x45 x46 : Value) (h : Heap) (k : Ex → St → Option β) : codeK Try.prog (evC Try.prog) loopL c24_0 ⟨#[x0, x1, x2, x3, x4, x5, x6, x7, x8, x9, x10, x11, x12, x13, x14, x15, x16, x17, x18, x19, x20, x21, x22, x23, x24, x25, x26, x27, x28, x29, x30, x31, x32, x33, x34, x35, x36, x37, x38, x39, x40, x41, x42, x43, x44, x45, x46], h⟩ k =
loopK Try.prog (evC Try.prog) c24_1 ⟨#[x0, x1, (Go.Value.int Go.IntKind.u64 0), (Go.Value.int Go.IntKind.i64 0), (Go.Value.int Go.IntKind.u64 0), (Go.Value.int Go.IntKind.i64 0), x6, x7, x8, x9, x10, x11, x12, x13, x14, x15, x16, x17, x18, x19, x20, x21, x22, x23, x24, x25, x26, x27, x28, x29, x30, x31, x32, x33, x34, x35, x36, x37, x38, x39, x40, x41, x42, x43, x44, x45, x46], h⟩ (blockK 0 (seqK Try.prog (evC Try.prog) c24_2 k)) := by kernel_rfl
theorem c24_1_eq {β : Type} (x0 x1 x2 x3 x4 x5 x6 x7 x8 x9 x10 x11 x12 x13 x14 x15 x16 x17 x18 x19 x20 x21 x22 x23 x24 x25 x26 x27 x28 x29 x30 x31 x32 x33 x34 x35 x36 x37 x38 x39 x40 x41 x42 x43 x44 x45 x46 : Value) (h : Heap) (k : Ex → St → Option β) : codeK Try.prog (evC Try.prog) loopL c24_1 ⟨#[x0, x1, x2, x3, x4, x5, x6, x7, x8, x9, x10, x11, x12, x13, x14, x15, x16, x17, x18, x19, x20, x21, x22, x23, x24, x25, x26, x27, x28, x29, x30, x31, x32, x33, x34, x35, x36, x37, x38, x39, x40, x41, x42, x43, x44, x45, x46], h⟩ k =
(lenV Try.prog 31 x0 h).bind fun t9_0 =>
(binV Try.prog .lss 3 (.tmp 7) (.tmp 9) x5 t9_0).bind fun t10_1 =>
(gd (wt t10_1 true) (binV Try.prog .lss 3 (.tmp 12) (.const (Go.Value.int Go.IntKind.i64 10)) (gdV (wt t10_1 true) x5) (Go.Value.int Go.IntKind.i64 10))).bind fun t13_2 =>
(pickV t10_1 t13_2 (Go.Value.bool Bool.false)).bind fun t14_3 =>
cnd t14_3 (
(indexAddrV Try.prog 31 x0 x5).bind fun t19_4 =>
(loadV Try.prog 5 t19_4 h).bind fun t20_5 =>
(binV Try.prog .eql 3 (.tmp 21) (.const (Go.Value.int Go.IntKind.i64 9)) x5 (Go.Value.int Go.IntKind.i64 9)).bind fun t22_6 =>
(gd (wt t22_6 true) (binV Try.prog .gtr 5 (.tmp 24) (.const (Go.Value.int Go.IntKind.u8 1)) (gdV (wt t22_6 true) t20_5) (Go.Value.int Go.IntKind.u8 1))).bind fun t25_7 =>
(pickV t22_6 t25_7 (Go.Value.bool Bool.false)).bind fun t26_8 =>
cnd t26_8 (
k .ret ⟨#[x0, x1, (Go.Value.int Go.IntKind.u64 0), (Go.Value.int Go.IntKind.i64 0), x4, x5, t20_5, x5, x0, t9_0, t10_1, t10_1, (gdV (wt t10_1 true) x5), t13_2, t14_3, x15, x16, x0, x5, t19_4, t20_5, x5, t22_6, t22_6, (gdV (wt t22_6 true) t20_5), t25_7, t26_8, x27, x28, x29, x30, x31, x32, x33, x34, x35, x36, x37, x38, x39, x40, x41, x42, x43, x44, x45, x46], h⟩) (
(binV Try.prog .and 5 (.tmp 28) (.const (Go.Value.int Go.IntKind.u8 127)) t20_5 (Go.Value.int Go.IntKind.u8 127)).bind fun t29_9 =>
obH (convV Try.prog 5 22 t29_9 h) fun t30_10 h11 =>
(binV Try.prog .mul 3 (.const (Go.Value.int Go.IntKind.i64 7)) (.tmp 31) (Go.Value.int Go.IntKind.i64 7) x5).bind fun t32_12 =>
obH (convV Try.prog 3 36 t32_12 h11) fun t33_13 h14 =>
(binV Try.prog .shl 22 (.tmp 30) (.tmp 33) t30_10 t33_13).bind fun t34_15 =>
(binV Try.prog .or 22 (.tmp 27) (.tmp 34) x4 t34_15).bind fun t35_16 =>
(binV Try.prog .lss 5 (.tmp 36) (.const (Go.Value.int Go.IntKind.u8 128)) t20_5 (Go.Value.int Go.IntKind.u8 128)).bind fun t37_17 =>
cnd t37_17 (
(binV Try.prog .eql 5 (.tmp 38) (.const (Go.Value.int Go.IntKind.u8 0)) t20_5 (Go.Value.int Go.IntKind.u8 0)).bind fun t39_18 =>
(gd (wt t39_18 true) (binV Try.prog .gtr 3 (.tmp 41) (.const (Go.Value.int Go.IntKind.i64 0)) (gdV (wt t39_18 true) x5) (Go.Value.int Go.IntKind.i64 0))).bind fun t42_19 =>
(pickV t39_18 t42_19 (Go.Value.bool Bool.false)).bind fun t43_20 =>
cnd t43_20 (
k .ret ⟨#[x0, x1, (Go.Value.int Go.IntKind.u64 0), (Go.Value.int Go.IntKind.i64 0), t35_16, x5, t20_5, x5, x0, t9_0, t10_1, t10_1, (gdV (wt t10_1 true) x5), t13_2, t14_3, x15, x16, x0, x5, t19_4, t20_5, x5, t22_6, t22_6, (gdV (wt t22_6 true) t20_5), t25_7, t26_8, x4, t20_5, t29_9, t30_10, x5, t32_12, t33_13, t34_15, t35_16, t20_5, t37_17, t20_5, t39_18, t39_18, (gdV (wt t39_18 true) x5), t42_19, t43_20, x44, x45, x46], h14⟩) (
(binV Try.prog .add 3 (.tmp 45) (.const (Go.Value.int Go.IntKind.i64 1)) x5 (Go.Value.int Go.IntKind.i64 1)).bind fun t46_21 =>
k .ret ⟨#[x0, x1, t35_16, t46_21, t35_16, x5, t20_5, x5, x0, t9_0, t10_1, t10_1, (gdV (wt t10_1 true) x5), t13_2, t14_3, x15, x16, x0, x5, t19_4, t20_5, x5, t22_6, t22_6, (gdV (wt t22_6 true) t20_5), t25_7, t26_8, x4, t20_5, t29_9, t30_10, x5, t32_12, t33_13, t34_15, t35_16, t20_5, t37_17, t20_5, t39_18, t39_18, (gdV (wt t39_18 true) x5), t42_19, t43_20, t35_16, x5, t46_21], h14⟩)) (
(binV Try.prog .add 3 (.tmp 15) (.const (Go.Value.int Go.IntKind.i64 1)) x5 (Go.Value.int Go.IntKind.i64 1)).bind fun t16_22 =>
k .normal ⟨#[x0, x1, x2, x3, t35_16, t16_22, t20_5, x5, x0, t9_0, t10_1, t10_1, (gdV (wt t10_1 true) x5), t13_2, t14_3, x5, t16_22, x0, x5, t19_4, t20_5, x5, t22_6, t22_6, (gdV (wt t22_6 true) t20_5), t25_7, t26_8, x4, t20_5, t29_9, t30_10, x5, t32_12, t33_13, t34_15, t35_16, t20_5, t37_17, x38, x39, x40, x41, x42, x43, x44, x45, x46], h14⟩))) (
k (.exit 0) ⟨#[x0, x1, x2, x3, x4, x5, x6, x5, x0, t9_0, t10_1, t10_1, (gdV (wt t10_1 true) x5), t13_2, t14_3, x15, x16, x17, x18, x19, x20, x21, x22, x23, x24, x25, x26, x27, x28, x29, x30, x31, x32, x33, x34, x35, x36, x37, x38, x39, x40, x41, x42, x43, x44, x45, x46], h⟩) := by kernel_rfl
theorem c24_2_eq {β : Type} (x0 x1 x2 x3 x4 x5 x6 x7 x8 x9 x10 x11 x12 x13 x14 x15 x16 x17 x18 x19 x20 x21 x22 x23 x24 x25 x26 x27 x28 x29 x30 x31 x32 x33 x34 x35 x36 x37 x38 x39 x40 x41 x42 x43 x44 x45 x46 : Value) (h : Heap) (k : Ex → St → Option β) : codeK Try.prog (evC Try.prog) loopL c24_2 ⟨#[x0, x1, x2, x3, x4, x5, x6, x7, x8, x9, x10, x11, x12, x13, x14, x15, x16, x17, x18, x19, x20, x21, x22, x23, x24, x25, x26, x27, x28, x29, x30, x31, x32, x33, x34, x35, x36, x37, x38, x39, x40, x41, x42, x43, x44, x45, x46], h⟩ k =
k .ret ⟨#[x0, x1, (Go.Value.int Go.IntKind.u64 0), (Go.Value.int Go.IntKind.i64 0), x4, x5, x6, x7, x8, x9, x10, x11, x12, x13, x14, x15, x16, x17, x18, x19, x20, x21, x22, x23, x24, x25, x26, x27, x28, x29, x30, x31, x32, x33, x34, x35, x36, x37, x38, x39, x40, x41, x42, x43, x44, x45, x46], h⟩ := by kernel_rfl
theorem call24 (x0 : Value) (h : Heap) : evC Try.prog 24 #[x0] h = codeK Try.prog (evC Try.prog) loopL c24_0 ⟨#[x0, undef, undef, undef, undef, undef, undef, undef, undef, undef, undef, undef, undef, undef, undef, undef, undef, undef, undef, undef, undef, undef, undef, undef, undef, undef, undef, undef, undef, undef, undef, undef, undef, undef, undef, undef, undef, undef, undef, undef, undef, undef, undef, undef, undef, undef, undef], nm h⟩ (retK Try.f24 Try.prog h) :=
  (evC_call 24 Try.f24 c24_0 Try.func24 (by kernel_rfl) #[x0] h).trans (by kernel_rfl)
theorem ret24 (x0 x1 x2 x3 x4 x5 x6 x7 x8 x9 x10 x11 x12 x13 x14 x15 x16 x17 x18 x19 x20 x21 x22 x23 x24 x25 x26 x27 x28 x29 x30 x31 x32 x33 x34 x35 x36 x37 x38 x39 x40 x41 x42 x43 x44 x45 x46 : Value) (h0 h : Heap) : retK Try.f24 Try.prog h0 .ret ⟨#[x0, x1, x2, x3, x4, x5, x6, x7, x8, x9, x10, x11, x12, x13, x14, x15, x16, x17, x18, x19, x20, x21, x22, x23, x24, x25, x26, x27, x28, x29, x30, x31, x32, x33, x34, x35, x36, x37, x38, x39, x40, x41, x42, x43, x44, x45, x46], h⟩ = fin h0 (some (.tuple #[x2, x3])) h := by kernel_rfl
theorem retn24 (x0 x1 x2 x3 x4 x5 x6 x7 x8 x9 x10 x11 x12 x13 x14 x15 x16 x17 x18 x19 x20 x21 x22 x23 x24 x25 x26 x27 x28 x29 x30 x31 x32 x33 x34 x35 x36 x37 x38 x39 x40 x41 x42 x43 x44 x45 x46 : Value) (h0 h : Heap) : retK Try.f24 Try.prog h0 .normal ⟨#[x0, x1, x2, x3, x4, x5, x6, x7, x8, x9, x10, x11, x12, x13, x14, x15, x16, x17, x18, x19, x20, x21, x22, x23, x24, x25, x26, x27, x28, x29, x30, x31, x32, x33, x34, x35, x36, x37, x38, x39, x40, x41, x42, x43, x44, x45, x46], h⟩ = fin h0 (some (.tuple #[x2, x3])) h := by kernel_rfl
end Go.Am
namespace Go.Am
open Go.Proofs
set_option maxRecDepth 100000
noncomputable def c47_0 : Code := bodyC Try.f47 []
theorem c47_0_eq {β : Type} (x0 x1 x2 x3 x4 x5 x6 x7 x8 x9 x10 x11 x12 : Value) (h : Heap) (k : Ex → St → Option β) : codeK Try.prog (evC Try.prog) loopL c47_0 ⟨#[x0, x1, x2, x3, x4, x5, x6, x7, x8, x9, x10, x11, x12], h⟩ k =
(nilCheckV x0).bind fun t6_0 =>
(fieldAddrV Try.prog 88 t6_0 0).bind fun t7_1 =>
(loadV Try.prog 31 t7_1 h).bind fun t8_2 =>
obH (evC Try.prog 23 #[t8_2, x1] h) fun t10_3 h4 =>
(nilCheckV x0).bind fun t11_5 =>
(fieldAddrV Try.prog 88 t11_5 0).bind fun t12_6 =>
(storeV Try.prog 31 t12_6 t10_3 h4).bind fun h7 =>
k .normal ⟨#[x0, x1, x2, x3, x0, x0, t6_0, t7_1, t8_2, x1, t10_3, t11_5, t12_6], h7⟩ := by kernel_rfl
theorem call47 (x0 x1 : Value) (h : Heap) : evC Try.prog 47 #[x0, x1] h = codeK Try.prog (evC Try.prog) loopL c47_0 ⟨#[x0, x1, undef, undef, undef, undef, undef, undef, undef, undef, undef, undef, undef], nm h⟩ (retK Try.f47 Try.prog h) :=
  (evC_call 47 Try.f47 c47_0 Try.func47 (by kernel_rfl) #[x0, x1] h).trans (by kernel_rfl)
theorem ret47 (x0 x1 x2 x3 x4 x5 x6 x7 x8 x9 x10 x11 x12 : Value) (h0 h : Heap) : retK Try.f47 Try.prog h0 .ret ⟨#[x0, x1, x2, x3, x4, x5, x6, x7, x8, x9, x10, x11, x12], h⟩ = fin h0 (some (.tuple #[])) h := by kernel_rfl
theorem retn47 (x0 x1 x2 x3 x4 x5 x6 x7 x8 x9 x10 x11 x12 : Value) (h0 h : Heap) : retK Try.f47 Try.prog h0 .normal ⟨#[x0, x1, x2, x3, x4, x5, x6, x7, x8, x9, x10, x11, x12], h⟩ = fin h0 (some (.tuple #[])) h := by kernel_rfl
end Go.Am
namespace Go.Am
open Go.Proofs
set_option maxRecDepth 100000
noncomputable def c48_0 : Code := bodyC Try.f48 []
theorem c48_0_eq {β : Type} (x0 x1 x2 x3 x4 x5 x6 x7 x8 x9 x10 x11 x12 x13 x14 x15 x16 x17 : Value) (h : Heap) (k : Ex → St → Option β) : codeK Try.prog (evC Try.prog) loopL c48_0 ⟨#[x0, x1, x2, x3, x4, x5, x6, x7, x8, x9, x10, x11, x12, x13, x14, x15, x16, x17], h⟩ k =
(lenV Try.prog 31 x1 h).bind fun t6_0 =>
obH (convV Try.prog 3 22 t6_0 h) fun t7_1 h2 =>
obH (evC Try.prog 47 #[x0, t7_1] h2) fun t8_3 h4 =>
(nilCheckV x0).bind fun t11_5 =>
(fieldAddrV Try.prog 88 t11_5 0).bind fun t12_6 =>
(loadV Try.prog 31 t12_6 h4).bind fun t13_7 =>
obH (appendV Try.prog 31 (some 31) t13_7 x1 h4) fun t15_8 h9 =>
(nilCheckV x0).bind fun t16_10 =>
(fieldAddrV Try.prog 88 t16_10 0).bind fun t17_11 =>
(storeV Try.prog 31 t17_11 t15_8 h9).bind fun h12 =>
k .normal ⟨#[x0, x1, x2, x3, x0, x1, t6_0, t7_1, t8_3, x0, x0, t11_5, t12_6, t13_7, x1, t15_8, t16_10, t17_11], h12⟩ := by kernel_rfl
theorem call48 (x0 x1 : Value) (h : Heap) : evC Try.prog 48 #[x0, x1] h = codeK Try.prog (evC Try.prog) loopL c48_0 ⟨#[x0, x1, undef, undef, undef, undef, undef, undef, undef, undef, undef, undef, undef, undef, undef, undef, undef, undef], nm h⟩ (retK Try.f48 Try.prog h) :=
  (evC_call 48 Try.f48 c48_0 Try.func48 (by kernel_rfl) #[x0, x1] h).trans (by kernel_rfl)
theorem ret48 (x0 x1 x2 x3 x4 x5 x6 x7 x8 x9 x10 x11 x12 x13 x14 x15 x16 x17 : Value) (h0 h : Heap) : retK Try.f48 Try.prog h0 .ret ⟨#[x0, x1, x2, x3, x4, x5, x6, x7, x8, x9, x10, x11, x12, x13, x14, x15, x16, x17], h⟩ = fin h0 (some (.tuple #[])) h := by kernel_rfl
theorem retn48 (x0 x1 x2 x3 x4 x5 x6 x7 x8 x9 x10 x11 x12 x13 x14 x15 x16 x17 : Value) (h0 h : Heap) : retK Try.f48 Try.prog h0 .normal ⟨#[x0, x1, x2, x3, x4, x5, x6, x7, x8, x9, x10, x11, x12, x13, x14, x15, x16, x17], h⟩ = fin h0 (some (.tuple #[])) h := by kernel_rfl
end Go.Am
namespace Go.Am
open Go.Proofs
set_option maxRecDepth 100000
noncomputable def c44_0 : Code := bodyC Try.f44 []
theorem c44_0_eq {β : Type} (x0 x1 x2 x3 x4 x5 x6 x7 x8 x9 x10 x11 x12 x13 x14 x15 x16 x17 x18 x19 x20 x21 x22 x23 x24 x25 x26 x27 x28 x29 x30 x31 x32 x33 x34 x35 x36 x37 x38 x39 : Value) (h : Heap) (k : Ex → St → Option β) : codeK Try.prog (evC Try.prog) loopL c44_0 ⟨#[x0, x1, x2, x3, x4, x5, x6, x7, x8, x9, x10, x11, x12, x13, x14, x15, x16, x17, x18, x19, x20, x21, x22, x23, x24, x25, x26, x27, x28, x29, x30, x31, x32, x33, x34, x35, x36, x37, x38, x39], h⟩ k =
(nilCheckV x0).bind fun t9_0 =>
(fieldAddrV Try.prog 85 t9_0 0).bind fun t10_1 =>
(loadV Try.prog 31 t10_1 h).bind fun t11_2 =>
obH (evC Try.prog 24 #[t11_2] h) fun t12_3 h4 =>
(extractV t12_3 0).bind fun t13_5 =>
(extractV t12_3 1).bind fun t14_6 =>
(nilCheckV x0).bind fun t16_7 =>
(fieldAddrV Try.prog 85 t16_7 1).bind fun t17_8 =>
(loadV Try.prog 4 t17_8 h4).bind fun t18_9 =>
(gd (wt t18_9 false) (binV Try.prog .eql 3 (.tmp 20) (.const (Go.Value.int Go.IntKind.i64 0)) (gdV (wt t18_9 false) t14_6) (Go.Value.int Go.IntKind.i64 0))).bind fun t21_10 =>
(pickV t18_9 (Go.Value.bool Bool.true) t21_10).bind fun t22_11 =>
(gd (wt t22_11 false) (binV Try.prog .gtr 22 (.tmp 24) (.tmp 25) (gdV (wt t22_11 false) t13_5) (gdV (wt t22_11 false) x1))).bind fun t26_12 =>
(pickV t22_11 (Go.Value.bool Bool.true) t26_12).bind fun t27_13 =>
cnd t27_13 (
obH (evC Try.prog 50 #[x0] h4) fun t29_14 h15 =>
k .ret ⟨#[x0, x1, x2, x3, (Go.Value.int Go.IntKind.u64 0), t13_5, t14_6, t12_3, x0, t9_0, t10_1, t11_2, t12_3, t13_5, t14_6, x0, t16_7, t17_8, t18_9, t18_9, (gdV (wt t18_9 false) t14_6), t21_10, t22_11, t22_11, (gdV (wt t22_11 false) t13_5), (gdV (wt t22_11 false) x1), t26_12, t27_13, x0, t29_14, x30, x31, x32, x33, x34, x35, x36, x37, x38, x39], h15⟩) (
(nilCheckV x0).bind fun t32_16 =>
(fieldAddrV Try.prog 85 t32_16 0).bind fun t33_17 =>
(loadV Try.prog 31 t33_17 h4).bind fun t34_18 =>
(sliceV Try.prog 31 t34_18 (some t14_6) none none h4).bind fun t36_19 =>
(nilCheckV x0).bind fun t37_20 =>
(fieldAddrV Try.prog 85 t37_20 0).bind fun t38_21 =>
(storeV Try.prog 31 t38_21 t36_19 h4).bind fun h22 =>
k .ret ⟨#[x0, x1, x2, x3, t13_5, t13_5, t14_6, t12_3, x0, t9_0, t10_1, t11_2, t12_3, t13_5, t14_6, x0, t16_7, t17_8, t18_9, t18_9, (gdV (wt t18_9 false) t14_6), t21_10, t22_11, t22_11, (gdV (wt t22_11 false) t13_5), (gdV (wt t22_11 false) x1), t26_12, t27_13, x28, x29, x0, x0, t32_16, t33_17, t34_18, t14_6, t36_19, t37_20, t38_21, t13_5], h22⟩) := by kernel_rfl
theorem call44 (x0 x1 : Value) (h : Heap) : evC Try.prog 44 #[x0, x1] h = codeK Try.prog (evC Try.prog) loopL c44_0 ⟨#[x0, x1, undef, undef, undef, undef, undef, undef, undef, undef, undef, undef, undef, undef, undef, undef, undef, undef, undef, undef, undef, undef, undef, undef, undef, undef, undef, undef, undef, undef, undef, undef, undef, undef, undef, undef, undef, undef, undef, undef], nm h⟩ (retK Try.f44 Try.prog h) :=
  (evC_call 44 Try.f44 c44_0 Try.func44 (by kernel_rfl) #[x0, x1] h).trans (by kernel_rfl)
theorem ret44 (x0 x1 x2 x3 x4 x5 x6 x7 x8 x9 x10 x11 x12 x13 x14 x15 x16 x17 x18 x19 x20 x21 x22 x23 x24 x25 x26 x27 x28 x29 x30 x31 x32 x33 x34 x35 x36 x37 x38 x39 : Value) (h0 h : Heap) : retK Try.f44 Try.prog h0 .ret ⟨#[x0, x1, x2, x3, x4, x5, x6, x7, x8, x9, x10, x11, x12, x13, x14, x15, x16, x17, x18, x19, x20, x21, x22, x23, x24, x25, x26, x27, x28, x29, x30, x31, x32, x33, x34, x35, x36, x37, x38, x39], h⟩ = fin h0 (some x4) h := by kernel_rfl
theorem retn44 (x0 x1 x2 x3 x4 x5 x6 x7 x8 x9 x10 x11 x12 x13 x14 x15 x16 x17 x18 x19 x20 x21 x22 x23 x24 x25 x26 x27 x28 x29 x30 x31 x32 x33 x34 x35 x36 x37 x38 x39 : Value) (h0 h : Heap) : retK Try.f44 Try.prog h0 .normal ⟨#[x0, x1, x2, x3, x4, x5, x6, x7, x8, x9, x10, x11, x12, x13, x14, x15, x16, x17, x18, x19, x20, x21, x22, x23, x24, x25, x26, x27, x28, x29, x30, x31, x32, x33, x34, x35, x36, x37, x38, x39], h⟩ = fin h0 (some x4) h := by kernel_rfl
end Go.Am
namespace Go.Am
open Go.Proofs
set_option maxRecDepth 100000
noncomputable def c45_0 : Code := bodyC Try.f45 []
theorem c45_0_eq {β : Type} (x0 x1 x2 x3 x4 x5 x6 x7 x8 x9 x10 x11 x12 x13 x14 x15 x16 x17 x18 x19 x20 x21 x22 x23 x24 x25 x26 x27 x28 x29 x30 x31 x32 x33 x34 x35 x36 x37 x38 x39 x40 x41 x42 x43 x44 x45 x46 x47 x48 x49 x50 x51 x52 x53 x54 x55 x56 x57 x58 x59 x60 x61 x62 x63 x64 x65 x66 x67 x68 x69 x70 x71 x72 x73 x74 x75 x76 x77 x78 x79 x80 x81 x82 x83 x84 x85 x86 x87 x88 x89 x90 x91 x92 x93 x94 : Value) (h : Heap) (k : Ex → St → Option β) : codeK Try.prog (evC Try.prog) loopL c45_0 ⟨#[x0, x1, x2, x3, x4, x5, x6, x7, x8, x9, x10, x11, x12, x13, x14, x15, x16, x17, x18, x19, x20, x21, x22, x23, x24, x25, x26, x27, x28, x29, x30, x31, x32, x33, x34, x35, x36, x37, x38, x39, x40, x41, x42, x43, x44, x45, x46, x47, x48, x49, x50, x51, x52, x53, x54, x55, x56, x57, x58, x59, x60, x61, x62, x63, x64, x65, x66, x67, x68, x69, x70, x71, x72, x73, x74, x75, x76, x77, x78, x79, x80, x81, x82, x83, x84, x85, x86, x87, x88, x89, x90, x91, x92, x93, x94], h⟩ k =
(nilCheckV x0).bind fun t10_0 =>
(fieldAddrV Try.prog 85 t10_0 0).bind fun t11_1 =>
(loadV Try.prog 31 t11_1 h).bind fun t12_2 =>
obH (evC Try.prog 24 #[t12_2] h) fun t13_3 h4 =>
(extractV t13_3 0).bind fun t14_5 =>
(extractV t13_3 1).bind fun t15_6 =>
(nilCheckV x0).bind fun t17_7 =>
(fieldAddrV Try.prog 85 t17_7 1).bind fun t18_8 =>
(loadV Try.prog 4 t18_8 h4).bind fun t19_9 =>
(gd (wt t19_9 false) (binV Try.prog .eql 3 (.tmp 21) (.const (Go.Value.int Go.IntKind.i64 0)) (gdV (wt t19_9 false) t15_6) (Go.Value.int Go.IntKind.i64 0))).bind fun t22_10 =>
(pickV t19_9 (Go.Value.bool Bool.true) t22_10).bind fun t23_11 =>
(gd (wt t23_11 false) (binV Try.prog .lss 3 (.tmp 25) (.const (Go.Value.int Go.IntKind.i64 0)) (gdV (wt t23_11 false) x1) (Go.Value.int Go.IntKind.i64 0))).bind fun t26_12 =>
(pickV t23_11 (Go.Value.bool Bool.true) t26_12).bind fun t27_13 =>
obH (gdH (wt t27_13 false) h4 (convV Try.prog 3 22 (gdV (wt t27_13 false) x1) h4)) fun t31_14 h15 =>
(gd (wt t27_13 false) (binV Try.prog .gtr 22 (.tmp 29) (.tmp 31) (gdV (wt t27_13 false) t14_5) t31_14)).bind fun t32_16 =>
(pickV t27_13 (Go.Value.bool Bool.true) t32_16).bind fun t33_17 =>
(gd (wt t33_17 false) (nilCheckV (gdV (wt t33_17 false) x0))).bind fun t37_18 =>
(gd (wt t33_17 false) (fieldAddrV Try.prog 85 t37_18 0)).bind fun t38_19 =>
(gd (wt t33_17 false) (loadV Try.prog 31 t38_19 h15)).bind fun t39_20 =>
(gd (wt t33_17 false) (lenV Try.prog 31 t39_20 h15)).bind fun t40_21 =>
(gd (wt t33_17 false) (binV Try.prog .sub 3 (.tmp 40) (.tmp 41) t40_21 (gdV (wt t33_17 false) t15_6))).bind fun t42_22 =>
obH (gdH (wt t33_17 false) h15 (convV Try.prog 3 22 t42_22 h15)) fun t43_23 h24 =>
(gd (wt t33_17 false) (binV Try.prog .gtr 22 (.tmp 35) (.tmp 43) (gdV (wt t33_17 false) t14_5) t43_23)).bind fun t44_25 =>
(pickV t33_17 (Go.Value.bool Bool.true) t44_25).bind fun t45_26 =>
cnd t45_26 (
(nilCheckV x0).bind fun t47_27 =>
(fieldAddrV Try.prog 85 t47_27 1).bind fun t48_28 =>
(loadV Try.prog 4 t48_28 h24).bind fun t49_29 =>
(unV Try.prog .not t49_29).bind fun t50_30 =>
(gd (wt t50_30 true) (binV Try.prog .gtr 3 (.tmp 52) (.const (Go.Value.int Go.IntKind.i64 0)) (gdV (wt t50_30 true) t15_6) (Go.Value.int Go.IntKind.i64 0))).bind fun t53_31 =>
(pickV t50_30 t53_31 (Go.Value.bool Bool.false)).bind fun t54_32 =>
(gd (wt t54_32 true) (binV Try.prog .eql 22 (.tmp 56) (.const (Go.Value.int Go.IntKind.u64 0)) (gdV (wt t54_32 true) t14_5) (Go.Value.int Go.IntKind.u64 0))).bind fun t57_33 =>
(pickV t54_32 t57_33 (Go.Value.bool Bool.false)).bind fun t58_34 =>
cnd t58_34 (
(nilCheckV x0).bind fun t61_35 =>
(fieldAddrV Try.prog 85 t61_35 0).bind fun t62_36 =>
(loadV Try.prog 31 t62_36 h24).bind fun t63_37 =>
(sliceV Try.prog 31 t63_37 (some t15_6) none none h24).bind fun t65_38 =>
(nilCheckV x0).bind fun t66_39 =>
(fieldAddrV Try.prog 85 t66_39 0).bind fun t67_40 =>
(storeV Try.prog 31 t67_40 t65_38 h24).bind fun h41 =>
k .ret ⟨#[x0, x1, x2, x3, (Go.Value.slice Option.none 0 0), t14_5, t15_6, x7, t13_3, x0, t10_0, t11_1, t12_2, t13_3, t14_5, t15_6, x0, t17_7, t18_8, t19_9, t19_9, (gdV (wt t19_9 false) t15_6), t22_10, t23_11, t23_11, (gdV (wt t23_11 false) x1), t26_12, t27_13, t27_13, (gdV (wt t27_13 false) t14_5), (gdV (wt t27_13 false) x1), t31_14, t32_16, t33_17, t33_17, (gdV (wt t33_17 false) t14_5), (gdV (wt t33_17 false) x0), t37_18, t38_19, t39_20, t40_21, (gdV (wt t33_17 false) t15_6), t42_22, t43_23, t44_25, t45_26, x0, t47_27, t48_28, t49_29, t50_30, t50_30, (gdV (wt t50_30 true) t15_6), t53_31, t54_32, t54_32, (gdV (wt t54_32 true) t14_5), t57_33, t58_34, x0, x0, t61_35, t62_36, t63_37, t15_6, t65_38, t66_39, t67_40, x68, x69, x70, x71, x72, x73, x74, x75, x76, x77, x78, x79, x80, x81, x82, x83, x84, x85, x86, x87, x88, x89, x90, x91, x92, x93, x94], h41⟩) (
obH (evC Try.prog 50 #[x0] h24) fun t69_42 h43 =>
k .ret ⟨#[x0, x1, x2, x3, (Go.Value.slice Option.none 0 0), t14_5, t15_6, x7, t13_3, x0, t10_0, t11_1, t12_2, t13_3, t14_5, t15_6, x0, t17_7, t18_8, t19_9, t19_9, (gdV (wt t19_9 false) t15_6), t22_10, t23_11, t23_11, (gdV (wt t23_11 false) x1), t26_12, t27_13, t27_13, (gdV (wt t27_13 false) t14_5), (gdV (wt t27_13 false) x1), t31_14, t32_16, t33_17, t33_17, (gdV (wt t33_17 false) t14_5), (gdV (wt t33_17 false) x0), t37_18, t38_19, t39_20, t40_21, (gdV (wt t33_17 false) t15_6), t42_22, t43_23, t44_25, t45_26, x0, t47_27, t48_28, t49_29, t50_30, t50_30, (gdV (wt t50_30 true) t15_6), t53_31, t54_32, t54_32, (gdV (wt t54_32 true) t14_5), t57_33, t58_34, x59, x60, x61, x62, x63, x64, x65, x66, x67, x0, t69_42, x70, x71, x72, x73, x74, x75, x76, x77, x78, x79, x80, x81, x82, x83, x84, x85, x86, x87, x88, x89, x90, x91, x92, x93, x94], h43⟩)) (
obH (buildSliceV Try.prog 31 0 #[] h24) fun t70_44 h45 =>
(nilCheckV x0).bind fun t72_46 =>
(fieldAddrV Try.prog 85 t72_46 0).bind fun t73_47 =>
(loadV Try.prog 31 t73_47 h45).bind fun t74_48 =>
obH (convV Try.prog 22 3 t14_5 h45) fun t78_49 h50 =>
(binV Try.prog .add 3 (.tmp 76) (.tmp 78) t15_6 t78_49).bind fun t79_51 =>
(sliceV Try.prog 31 t74_48 (some t15_6) (some t79_51) none h50).bind fun t80_52 =>
obH (appendV Try.prog 31 (some 31) t70_44 t80_52 h50) fun t81_53 h54 =>
(nilCheckV x0).bind fun t84_55 =>
(fieldAddrV Try.prog 85 t84_55 0).bind fun t85_56 =>
(loadV Try.prog 31 t85_56 h54).bind fun t86_57 =>
obH (convV Try.prog 22 3 t14_5 h54) fun t89_58 h59 =>
(binV Try.prog .add 3 (.tmp 87) (.tmp 89) t15_6 t89_58).bind fun t90_60 =>
(sliceV Try.prog 31 t86_57 (some t90_60) none none h59).bind fun t91_61 =>
(nilCheckV x0).bind fun t92_62 =>
(fieldAddrV Try.prog 85 t92_62 0).bind fun t93_63 =>
(storeV Try.prog 31 t93_63 t91_61 h59).bind fun h64 =>
k .ret ⟨#[x0, x1, x2, x3, t81_53, t14_5, t15_6, t81_53, t13_3, x0, t10_0, t11_1, t12_2, t13_3, t14_5, t15_6, x0, t17_7, t18_8, t19_9, t19_9, (gdV (wt t19_9 false) t15_6), t22_10, t23_11, t23_11, (gdV (wt t23_11 false) x1), t26_12, t27_13, t27_13, (gdV (wt t27_13 false) t14_5), (gdV (wt t27_13 false) x1), t31_14, t32_16, t33_17, t33_17, (gdV (wt t33_17 false) t14_5), (gdV (wt t33_17 false) x0), t37_18, t38_19, t39_20, t40_21, (gdV (wt t33_17 false) t15_6), t42_22, t43_23, t44_25, t45_26, x46, x47, x48, x49, x50, x51, x52, x53, x54, x55, x56, x57, x58, x59, x60, x61, x62, x63, x64, x65, x66, x67, x68, x69, t70_44, x0, t72_46, t73_47, t74_48, t15_6, t15_6, t14_5, t78_49, t79_51, t80_52, t81_53, x0, x0, t84_55, t85_56, t86_57, t15_6, t14_5, t89_58, t90_60, t91_61, t92_62, t93_63, t81_53], h64⟩) := by kernel_rfl
theorem call45 (x0 x1 : Value) (h : Heap) : evC Try.prog 45 #[x0, x1] h = codeK Try.prog (evC Try.prog) loopL c45_0 ⟨#[x0, x1, undef, undef, undef, undef, undef, undef, undef, undef, undef, undef, undef, undef, undef, undef, undef, undef, undef, undef, undef, undef, undef, undef, undef, undef, undef, undef, undef, undef, undef, undef, undef, undef, undef, undef, undef, undef, undef, undef, undef, undef, undef, undef, undef, undef, undef, undef, undef, undef, undef, undef, undef, undef, undef, undef, undef, undef, undef, undef, undef, undef, undef, undef, undef, undef, undef, undef, undef, undef, undef, undef, undef, undef, undef, undef, undef, undef, undef, undef, undef, undef, undef, undef, undef, undef, undef, undef, undef, undef, undef, undef, undef, undef, undef], nm h⟩ (retK Try.f45 Try.prog h) :=
  (evC_call 45 Try.f45 c45_0 Try.func45 (by kernel_rfl) #[x0, x1] h).trans (by kernel_rfl)
theorem ret45 (x0 x1 x2 x3 x4 x5 x6 x7 x8 x9 x10 x11 x12 x13 x14 x15 x16 x17 x18 x19 x20 x21 x22 x23 x24 x25 x26 x27 x28 x29 x30 x31 x32 x33 x34 x35 x36 x37 x38 x39 x40 x41 x42 x43 x44 x45 x46 x47 x48 x49 x50 x51 x52 x53 x54 x55 x56 x57 x58 x59 x60 x61 x62 x63 x64 x65 x66 x67 x68 x69 x70 x71 x72 x73 x74 x75 x76 x77 x78 x79 x80 x81 x82 x83 x84 x85 x86 x87 x88 x89 x90 x91 x92 x93 x94 : Value) (h0 h : Heap) : retK Try.f45 Try.prog h0 .ret ⟨#[x0, x1, x2, x3, x4, x5, x6, x7, x8, x9, x10, x11, x12, x13, x14, x15, x16, x17, x18, x19, x20, x21, x22, x23, x24, x25, x26, x27, x28, x29, x30, x31, x32, x33, x34, x35, x36, x37, x38, x39, x40, x41, x42, x43, x44, x45, x46, x47, x48, x49, x50, x51, x52, x53, x54, x55, x56, x57, x58, x59, x60, x61, x62, x63, x64, x65, x66, x67, x68, x69, x70, x71, x72, x73, x74, x75, x76, x77, x78, x79, x80, x81, x82, x83, x84, x85, x86, x87, x88, x89, x90, x91, x92, x93, x94], h⟩ = fin h0 (some x4) h := by kernel_rfl
theorem retn45 (x0 x1 x2 x3 x4 x5 x6 x7 x8 x9 x10 x11 x12 x13 x14 x15 x16 x17 x18 x19 x20 x21 x22 x23 x24 x25 x26 x27 x28 x29 x30 x31 x32 x33 x34 x35 x36 x37 x38 x39 x40 x41 x42 x43 x44 x45 x46 x47 x48 x49 x50 x51 x52 x53 x54 x55 x56 x57 x58 x59 x60 x61 x62 x63 x64 x65 x66 x67 x68 x69 x70 x71 x72 x73 x74 x75 x76 x77 x78 x79 x80 x81 x82 x83 x84 x85 x86 x87 x88 x89 x90 x91 x92 x93 x94 : Value) (h0 h : Heap) : retK Try.f45 Try.prog h0 .normal ⟨#[x0, x1, x2, x3, x4, x5, x6, x7, x8, x9, x10, x11, x12, x13, x14, x15, x16, x17, x18, x19, x20, x21, x22, x23, x24, x25, x26, x27, x28, x29, x30, x31, x32, x33, x34, x35, x36, x37, x38, x39, x40, x41, x42, x43, x44, x45, x46, x47, x48, x49, x50, x51, x52, x53, x54, x55, x56, x57, x58, x59, x60, x61, x62, x63, x64, x65, x66, x67, x68, x69, x70, x71, x72, x73, x74, x75, x76, x77, x78, x79, x80, x81, x82, x83, x84, x85, x86, x87, x88, x89, x90, x91, x92, x93, x94], h⟩ = fin h0 (some x4) h := by kernel_rfl
end Go.Am
namespace Go.Am
open Go.Proofs
set_option maxRecDepth 100000
noncomputable def c46_0 : Code := bodyC Try.f46 []
theorem c46_0_eq {β : Type} (x0 x1 x2 x3 x4 x5 x6 x7 x8 x9 x10 x11 x12 x13 x14 x15 : Value) (h : Heap) (k : Ex → St → Option β) : codeK Try.prog (evC Try.prog) loopL c46_0 ⟨#[x0, x1, x2, x3, x4, x5, x6, x7, x8, x9, x10, x11, x12, x13, x14, x15], h⟩ k =
(nilCheckV x0).bind fun t4_0 =>
(fieldAddrV Try.prog 85 t4_0 1).bind fun t5_1 =>
(loadV Try.prog 4 t5_1 h).bind fun t6_2 =>
(unV Try.prog .not t6_2).bind fun t7_3 =>
(gd (wt t7_3 true) (nilCheckV (gdV (wt t7_3 true) x0))).bind fun t10_4 =>
(gd (wt t7_3 true) (fieldAddrV Try.prog 85 t10_4 0)).bind fun t11_5 =>
(gd (wt t7_3 true) (loadV Try.prog 31 t11_5 h)).bind fun t12_6 =>
(gd (wt t7_3 true) (lenV Try.prog 31 t12_6 h)).bind fun t13_7 =>
(gd (wt t7_3 true) (binV Try.prog .eql 3 (.tmp 13) (.const (Go.Value.int Go.IntKind.i64 0)) t13_7 (Go.Value.int Go.IntKind.i64 0))).bind fun t14_8 =>
(pickV t7_3 t14_8 (Go.Value.bool Bool.false)).bind fun t15_9 =>
k .ret ⟨#[x0, x1, t15_9, x0, t4_0, t5_1, t6_2, t7_3, t7_3, (gdV (wt t7_3 true) x0), t10_4, t11_5, t12_6, t13_7, t14_8, t15_9], h⟩ := by kernel_rfl
theorem call46 (x0 : Value) (h : Heap) : evC Try.prog 46 #[x0] h = codeK Try.prog (evC Try.prog) loopL c46_0 ⟨#[x0, undef, undef, undef, undef, undef, undef, undef, undef, undef, undef, undef, undef, undef, undef, undef], nm h⟩ (retK Try.f46 Try.prog h) :=
  (evC_call 46 Try.f46 c46_0 Try.func46 (by kernel_rfl) #[x0] h).trans (by kernel_rfl)
theorem ret46 (x0 x1 x2 x3 x4 x5 x6 x7 x8 x9 x10 x11 x12 x13 x14 x15 : Value) (h0 h : Heap) : retK Try.f46 Try.prog h0 .ret ⟨#[x0, x1, x2, x3, x4, x5, x6, x7, x8, x9, x10, x11, x12, x13, x14, x15], h⟩ = fin h0 (some x2) h := by kernel_rfl
theorem retn46 (x0 x1 x2 x3 x4 x5 x6 x7 x8 x9 x10 x11 x12 x13 x14 x15 : Value) (h0 h : Heap) : retK Try.f46 Try.prog h0 .normal ⟨#[x0, x1, x2, x3, x4, x5, x6, x7, x8, x9, x10, x11, x12, x13, x14, x15], h⟩ = fin h0 (some x2) h := by kernel_rfl
end Go.Am
namespace Go.Am
open Go.Proofs
set_option maxRecDepth 100000
noncomputable def c50_0 : Code := bodyC Try.f50 []
theorem c50_0_eq {β : Type} (x0 x1 x2 x3 x4 x5 x6 x7 : Value) (h : Heap) (k : Ex → St → Option β) : codeK Try.prog (evC Try.prog) loopL c50_0 ⟨#[x0, x1, x2, x3, x4, x5, x6, x7], h⟩ k =
(nilCheckV x0).bind fun t4_0 =>
(fieldAddrV Try.prog 85 t4_0 1).bind fun t5_1 =>
(storeV Try.prog 4 t5_1 (Go.Value.bool Bool.true) h).bind fun h2 =>
(nilCheckV x0).bind fun t6_3 =>
(fieldAddrV Try.prog 85 t6_3 0).bind fun t7_4 =>
(storeV Try.prog 31 t7_4 (Go.Value.slice Option.none 0 0) h2).bind fun h5 =>
k .normal ⟨#[x0, x1, x0, x0, t4_0, t5_1, t6_3, t7_4], h5⟩ := by kernel_rfl
theorem call50 (x0 : Value) (h : Heap) : evC Try.prog 50 #[x0] h = codeK Try.prog (evC Try.prog) loopL c50_0 ⟨#[x0, undef, undef, undef, undef, undef, undef, undef], nm h⟩ (retK Try.f50 Try.prog h) :=
  (evC_call 50 Try.f50 c50_0 Try.func50 (by kernel_rfl) #[x0] h).trans (by kernel_rfl)
theorem ret50 (x0 x1 x2 x3 x4 x5 x6 x7 : Value) (h0 h : Heap) : retK Try.f50 Try.prog h0 .ret ⟨#[x0, x1, x2, x3, x4, x5, x6, x7], h⟩ = fin h0 (some (.tuple #[])) h := by kernel_rfl
theorem retn50 (x0 x1 x2 x3 x4 x5 x6 x7 : Value) (h0 h : Heap) : retK Try.f50 Try.prog h0 .normal ⟨#[x0, x1, x2, x3, x4, x5, x6, x7], h⟩ = fin h0 (some (.tuple #[])) h := by kernel_rfl
end Go.Am
namespace Go.Am
open Go.Proofs
set_option maxRecDepth 100000
noncomputable def c43_0 : Code := bodyC Try.f43 []
theorem c43_0_eq {β : Type} (x0 x1 x2 x3 x4 x5 x6 x7 x8 x9 x10 x11 x12 x13 x14 x15 x16 x17 : Value) (h : Heap) (k : Ex → St → Option β) : codeK Try.prog (evC Try.prog) loopL c43_0 ⟨#[x0, x1, x2, x3, x4, x5, x6, x7, x8, x9, x10, x11, x12, x13, x14, x15, x16, x17], h⟩ k =
obH (boxV Try.prog 57 x0 h) fun t1_0 h1 =>
(fieldAddrV Try.prog 57 t1_0 0).bind fun t3_2 =>
(loadV Try.prog 4 t3_2 h1).bind fun t4_3 =>
cnd t4_3 (
(fieldAddrV Try.prog 57 t1_0 2).bind fun t5_4 =>
(loadV Try.prog 31 t5_4 h1).bind fun t6_5 =>
(lenV Try.prog 31 t6_5 h1).bind fun t7_6 =>
(binV Try.prog .eql 3 (.tmp 7) (.const (Go.Value.int Go.IntKind.i64 0)) t7_6 (Go.Value.int Go.IntKind.i64 0)).bind fun t8_7 =>
k .ret ⟨#[x0, t1_0, t8_7, t3_2, t4_3, t5_4, t6_5, t7_6, t8_7, x9, x10, x11, x12, x13, x14, x15, x16, x17], h1⟩) (
(fieldAddrV Try.prog 57 t1_0 1).bind fun t9_8 =>
(loadV Try.prog 22 t9_8 h1).bind fun t10_9 =>
(binV Try.prog .gtr 22 (.tmp 10) (.const (Go.Value.int Go.IntKind.u64 0)) t10_9 (Go.Value.int Go.IntKind.u64 0)).bind fun t11_10 =>
(gd (wt t11_10 true) (fieldAddrV Try.prog 57 t1_0 2)).bind fun t13_11 =>
(gd (wt t11_10 true) (loadV Try.prog 31 t13_11 h1)).bind fun t14_12 =>
(gd (wt t11_10 true) (lenV Try.prog 31 t14_12 h1)).bind fun t15_13 =>
(gd (wt t11_10 true) (binV Try.prog .leq 3 (.tmp 15) (.const (Go.Value.int Go.IntKind.i64 30000)) t15_13 (Go.Value.int Go.IntKind.i64 30000))).bind fun t16_14 =>
(pickV t11_10 t16_14 (Go.Value.bool Bool.false)).bind fun t17_15 =>
k .ret ⟨#[x0, t1_0, t17_15, t3_2, t4_3, x5, x6, x7, x8, t9_8, t10_9, t11_10, t11_10, t13_11, t14_12, t15_13, t16_14, t17_15], h1⟩) := by kernel_rfl
theorem call43 (x0 : Value) (h : Heap) : evC Try.prog 43 #[x0] h = codeK Try.prog (evC Try.prog) loopL c43_0 ⟨#[x0, undef, undef, undef, undef, undef, undef, undef, undef, undef, undef, undef, undef, undef, undef, undef, undef, undef], nm h⟩ (retK Try.f43 Try.prog h) :=
  (evC_call 43 Try.f43 c43_0 Try.func43 (by kernel_rfl) #[x0] h).trans (by kernel_rfl)
theorem ret43 (x0 x1 x2 x3 x4 x5 x6 x7 x8 x9 x10 x11 x12 x13 x14 x15 x16 x17 : Value) (h0 h : Heap) : retK Try.f43 Try.prog h0 .ret ⟨#[x0, x1, x2, x3, x4, x5, x6, x7, x8, x9, x10, x11, x12, x13, x14, x15, x16, x17], h⟩ = fin h0 (some x2) h := by kernel_rfl
theorem retn43 (x0 x1 x2 x3 x4 x5 x6 x7 x8 x9 x10 x11 x12 x13 x14 x15 x16 x17 : Value) (h0 h : Heap) : retK Try.f43 Try.prog h0 .normal ⟨#[x0, x1, x2, x3, x4, x5, x6, x7, x8, x9, x10, x11, x12, x13, x14, x15, x16, x17], h⟩ = fin h0 (some x2) h := by kernel_rfl
end Go.Am
namespace Go.Am
open Go.Proofs
set_option maxRecDepth 100000
noncomputable def c35_0 : Code := bodyC Try.f35 []
theorem c35_0_eq {β : Type} (x0 x1 x2 x3 x4 x5 x6 x7 x8 x9 x10 x11 x12 x13 x14 x15 x16 x17 x18 x19 x20 x21 x22 x23 x24 x25 x26 x27 x28 x29 : Value) (h : Heap) (k : Ex → St → Option β) : codeK Try.prog (evC Try.prog) loopL c35_0 ⟨#[x0, x1, x2, x3, x4, x5, x6, x7, x8, x9, x10, x11, x12, x13, x14, x15, x16, x17, x18, x19, x20, x21, x22, x23, x24, x25, x26, x27, x28, x29], h⟩ k =
obH (boxV Try.prog 57 x0 h) fun t1_0 h1 =>
(loadV Try.prog 57 t1_0 h1).bind fun t4_2 =>
obH (evC Try.prog 43 #[t4_2] h1) fun t5_3 h4 =>
(unV Try.prog .not t5_3).bind fun t6_5 =>
cnd t6_5 (
k .ret ⟨#[x0, t1_0, (Go.Value.slice Option.none 0 0), x3, t4_2, t5_3, t6_5, x7, x8, x9, x10, x11, x12, x13, x14, x15, x16, x17, x18, x19, x20, x21, x22, x23, x24, x25, x26, x27, x28, x29], h4⟩) (
obH (evC Try.prog 27 #[] h4) fun t7_6 h7 =>
(fieldAddrV Try.prog 57 t1_0 0).bind fun t8_8 =>
(loadV Try.prog 4 t8_8 h7).bind fun t9_9 =>
cnd t9_9 (
obH (evC Try.prog 28 #[t7_6, (Go.Value.int Go.IntKind.u64 1)] h7) fun t11_10 h11 =>
(fieldAddrV Try.prog 57 t1_0 1).bind fun t13_12 =>
(loadV Try.prog 22 t13_12 h11).bind fun t14_13 =>
obH (evC Try.prog 28 #[t7_6, t14_13] h11) fun t15_14 h15 =>
obH (evC Try.prog 29 #[t7_6] h15) fun t17_16 h17 =>
k .ret ⟨#[x0, t1_0, t17_16, t7_6, t4_2, t5_3, t6_5, t7_6, t8_8, t9_9, t7_6, t11_10, t7_6, t13_12, t14_13, t15_14, t7_6, t17_16, x18, x19, x20, x21, x22, x23, x24, x25, x26, x27, x28, x29], h17⟩) (
obH (evC Try.prog 28 #[t7_6, (Go.Value.int Go.IntKind.u64 0)] h7) fun t19_18 h19 =>
(fieldAddrV Try.prog 57 t1_0 1).bind fun t21_20 =>
(loadV Try.prog 22 t21_20 h19).bind fun t22_21 =>
obH (evC Try.prog 28 #[t7_6, t22_21] h19) fun t23_22 h23 =>
(fieldAddrV Try.prog 57 t1_0 2).bind fun t25_24 =>
(loadV Try.prog 31 t25_24 h23).bind fun t26_25 =>
obH (evC Try.prog 40 #[t7_6, t26_25] h23) fun t27_26 h27 =>
obH (evC Try.prog 29 #[t7_6] h27) fun t29_28 h29 =>
k .ret ⟨#[x0, t1_0, t29_28, t7_6, t4_2, t5_3, t6_5, t7_6, t8_8, t9_9, x10, x11, x12, x13, x14, x15, x16, x17, t7_6, t19_18, t7_6, t21_20, t22_21, t23_22, t7_6, t25_24, t26_25, t27_26, t7_6, t29_28], h29⟩)) := by kernel_rfl
theorem call35 (x0 : Value) (h : Heap) : evC Try.prog 35 #[x0] h = codeK Try.prog (evC Try.prog) loopL c35_0 ⟨#[x0, undef, undef, undef, undef, undef, undef, undef, undef, undef, undef, undef, undef, undef, undef, undef, undef, undef, undef, undef, undef, undef, undef, undef, undef, undef, undef, undef, undef, undef], nm h⟩ (retK Try.f35 Try.prog h) :=
  (evC_call 35 Try.f35 c35_0 Try.func35 (by kernel_rfl) #[x0] h).trans (by kernel_rfl)
theorem ret35 (x0 x1 x2 x3 x4 x5 x6 x7 x8 x9 x10 x11 x12 x13 x14 x15 x16 x17 x18 x19 x20 x21 x22 x23 x24 x25 x26 x27 x28 x29 : Value) (h0 h : Heap) : retK Try.f35 Try.prog h0 .ret ⟨#[x0, x1, x2, x3, x4, x5, x6, x7, x8, x9, x10, x11, x12, x13, x14, x15, x16, x17, x18, x19, x20, x21, x22, x23, x24, x25, x26, x27, x28, x29], h⟩ = fin h0 (some x2) h := by kernel_rfl
theorem retn35 (x0 x1 x2 x3 x4 x5 x6 x7 x8 x9 x10 x11 x12 x13 x14 x15 x16 x17 x18 x19 x20 x21 x22 x23 x24 x25 x26 x27 x28 x29 : Value) (h0 h : Heap) : retK Try.f35 Try.prog h0 .normal ⟨#[x0, x1, x2, x3, x4, x5, x6, x7, x8, x9, x10, x11, x12, x13, x14, x15, x16, x17, x18, x19, x20, x21, x22, x23, x24, x25, x26, x27, x28, x29], h⟩ = fin h0 (some x2) h := by kernel_rfl
end Go.Am
namespace Go.Am
open Go.Proofs
set_option maxRecDepth 100000
noncomputable def c34_0 : Code := bodyC Try.f34 []
noncomputable def c34_1 : Code := bodyC Try.f34 [true, true, true, true]
theorem c34_0_eq {β : Type} (x0 x1 x2 x3 x4 x5 x6 x7 x8 x9 x10 x11 x12 x13 x14 x15 x16 x17 x18 x19 x20 x21 x22 x23 x24 x25 x26 x27 x28 x29 : Value) (h : Heap) (k : Ex → St → Option β) : codeK Try.prog (evC Try.prog) loopL c34_0 ⟨#[x0, x1, x2, x3, x4, x5, x6, x7, x8, x9, x10, x11, x12, x13, x14, x15, x16, x17, x18, x19, x20, x21, x22, x23, x24, x25, x26, x27, x28, x29], h⟩ k =
obH (allocV Try.prog 57 h) fun t2_0 h1 =>
obH (evC Try.prog 30 #[x0] h1) fun t7_2 h3 =>
obH (evC Try.prog 31 #[t7_2, (Go.Value.int Go.IntKind.u64 1)] h3) fun t9_4 h5 =>
(binV Try.prog .eql 22 (.tmp 9) (.const (Go.Value.int Go.IntKind.u64 1)) t9_4 (Go.Value.int Go.IntKind.u64 1)).bind fun t10_6 =>
obH (evC Try.prog 31 #[t7_2, (Go.Value.int Go.IntKind.u64 18446744073709551615)] h5) fun t12_7 h8 =>
(buildV Try.prog 57 #[(0, t10_6), (1, t12_7)]).bind fun t13_9 =>
obH (allocV Try.prog 57 h8) fun t5_10 h11 =>
(storeV Try.prog 57 t5_10 t13_9 h11).bind fun h12 =>
(fieldAddrV Try.prog 57 t5_10 0).bind fun t14_13 =>
(loadV Try.prog 4 t14_13 h12).bind fun t15_14 =>
(unV Try.prog .not t15_14).bind fun t16_15 =>
cnd t16_15 (
obH (evC Try.prog 41 #[t7_2, (Go.Value.int Go.IntKind.i64 30000)] h12) fun t18_16 h17 =>
(fieldAddrV Try.prog 57 t5_10 2).bind fun t19_18 =>
(storeV Try.prog 31 t19_18 t18_16 h17).bind fun h19 =>
codeK Try.prog (evC Try.prog) loopL c34_1 ⟨#[x0, x1, t2_0, (Go.Value.int Go.IntKind.i64 0), t7_2, t5_10, x0, t7_2, t7_2, t9_4, t10_6, t7_2, t12_7, t13_9, t14_13, t15_14, t16_15, t7_2, t18_16, t19_18, x20, x21, x22, x23, x24, x25, x26, x27, x28, x29], h19⟩ k) (
codeK Try.prog (evC Try.prog) loopL c34_1 ⟨#[x0, x1, t2_0, (Go.Value.int Go.IntKind.i64 0), t7_2, t5_10, x0, t7_2, t7_2, t9_4, t10_6, t7_2, t12_7, t13_9, t14_13, t15_14, t16_15, x17, x18, x19, x20, x21, x22, x23, x24, x25, x26, x27, x28, x29], h12⟩ k) := by kernel_rfl
theorem c34_1_eq {β : Type} (x0 x1 x2 x3 x4 x5 x6 x7 x8 x9 x10 x11 x12 x13 x14 x15 x16 x17 x18 x19 x20 x21 x22 x23 x24 x25 x26 x27 x28 x29 : Value) (h : Heap) (k : Ex → St → Option β) : codeK Try.prog (evC Try.prog) loopL c34_1 ⟨#[x0, x1, x2, x3, x4, x5, x6, x7, x8, x9, x10, x11, x12, x13, x14, x15, x16, x17, x18, x19, x20, x21, x22, x23, x24, x25, x26, x27, x28, x29], h⟩ k =
obH (evC Try.prog 32 #[x4] h) fun t21_20 h21 =>
(unV Try.prog .not t21_20).bind fun t22_22 =>
(gd (wt t22_22 false) (loadV Try.prog 57 x5 h21)).bind fun t24_23 =>
obH (gdH (wt t22_22 false) h21 (evC Try.prog 43 #[t24_23] h21)) fun t25_24 h25 =>
(gd (wt t22_22 false) (unV Try.prog .not t25_24)).bind fun t26_26 =>
(pickV t22_22 (Go.Value.bool Bool.true) t26_26).bind fun t27_27 =>
cnd t27_27 (
(buildV Try.prog 57 #[]).bind fun t28_28 =>
(storeV Try.prog 57 x2 t28_28 h25).bind fun h29 =>
k .ret ⟨#[x0, x1, x2, (Go.Value.int Go.IntKind.i64 2), x4, x5, x6, x7, x8, x9, x10, x11, x12, x13, x14, x15, x16, x17, x18, x19, x4, t21_20, t22_22, t22_22, t24_23, t25_24, t26_26, t27_27, t28_28, x29], h29⟩) (
(loadV Try.prog 57 x5 h25).bind fun t29_30 =>
(storeV Try.prog 57 x2 t29_30 h25).bind fun h31 =>
k .ret ⟨#[x0, x1, x2, (Go.Value.int Go.IntKind.i64 0), x4, x5, x6, x7, x8, x9, x10, x11, x12, x13, x14, x15, x16, x17, x18, x19, x4, t21_20, t22_22, t22_22, t24_23, t25_24, t26_26, t27_27, x28, t29_30], h31⟩) := by kernel_rfl
theorem call34 (x0 : Value) (h : Heap) : evC Try.prog 34 #[x0] h = codeK Try.prog (evC Try.prog) loopL c34_0 ⟨#[x0, undef, undef, undef, undef, undef, undef, undef, undef, undef, undef, undef, undef, undef, undef, undef, undef, undef, undef, undef, undef, undef, undef, undef, undef, undef, undef, undef, undef, undef], nm h⟩ (retK Try.f34 Try.prog h) :=
  (evC_call 34 Try.f34 c34_0 Try.func34 (by kernel_rfl) #[x0] h).trans (by kernel_rfl)
theorem ret34 (x0 x1 x2 x3 x4 x5 x6 x7 x8 x9 x10 x11 x12 x13 x14 x15 x16 x17 x18 x19 x20 x21 x22 x23 x24 x25 x26 x27 x28 x29 : Value) (h0 h : Heap) : retK Try.f34 Try.prog h0 .ret ⟨#[x0, x1, x2, x3, x4, x5, x6, x7, x8, x9, x10, x11, x12, x13, x14, x15, x16, x17, x18, x19, x20, x21, x22, x23, x24, x25, x26, x27, x28, x29], h⟩ = fin h0 (rvals ((loadV Try.prog 57 x2 h).bind fun r0 => some [r0, x3])) h := by kernel_rfl
theorem retn34 (x0 x1 x2 x3 x4 x5 x6 x7 x8 x9 x10 x11 x12 x13 x14 x15 x16 x17 x18 x19 x20 x21 x22 x23 x24 x25 x26 x27 x28 x29 : Value) (h0 h : Heap) : retK Try.f34 Try.prog h0 .normal ⟨#[x0, x1, x2, x3, x4, x5, x6, x7, x8, x9, x10, x11, x12, x13, x14, x15, x16, x17, x18, x19, x20, x21, x22, x23, x24, x25, x26, x27, x28, x29], h⟩ = fin h0 (rvals ((loadV Try.prog 57 x2 h).bind fun r0 => some [r0, x3])) h := by kernel_rfl
end Go.Am
namespace Go.Am
open Go.Proofs
set_option maxRecDepth 100000
noncomputable def c37_0 : Code := bodyC Try.f37 []
theorem c37_0_eq {β : Type} (x0 x1 x2 x3 x4 x5 x6 x7 x8 x9 x10 x11 x12 x13 x14 x15 x16 x17 x18 x19 x20 x21 x22 x23 x24 x25 x26 x27 x28 x29 x30 x31 x32 x33 x34 x35 x36 x37 x38 x39 x40 x41 x42 x43 x44 x45 x46 x47 x48 x49 x50 x51 x52 x53 x54 x55 : Value) (h : Heap) (k : Ex → St → Option β) : codeK Try.prog (evC Try.prog) loopL c37_0 ⟨#[x0, x1, x2, x3, x4, x5, x6, x7, x8, x9, x10, x11, x12, x13, x14, x15, x16, x17, x18, x19, x20, x21, x22, x23, x24, x25, x26, x27, x28, x29, x30, x31, x32, x33, x34, x35, x36, x37, x38, x39, x40, x41, x42, x43, x44, x45, x46, x47, x48, x49, x50, x51, x52, x53, x54, x55], h⟩ k =
obH (boxV Try.prog 61 x0 h) fun t1_0 h1 =>
(fieldAddrV Try.prog 61 t1_0 0).bind fun t4_2 =>
(loadV Try.prog 4 t4_2 h1).bind fun t5_3 =>
(gd (wt t5_3 true) (fieldAddrV Try.prog 61 t1_0 2)).bind fun t7_4 =>
(gd (wt t5_3 true) (loadV Try.prog 31 t7_4 h1)).bind fun t8_5 =>
(gd (wt t5_3 true) (lenV Try.prog 31 t8_5 h1)).bind fun t9_6 =>
(gd (wt t5_3 true) (binV Try.prog .gtr 3 (.tmp 9) (.const (Go.Value.int Go.IntKind.i64 0)) t9_6 (Go.Value.int Go.IntKind.i64 0))).bind fun t10_7 =>
(pickV t5_3 t10_7 (Go.Value.bool Bool.false)).bind fun t11_8 =>
(gd (wt t11_8 false) (fieldAddrV Try.prog 61 t1_0 0)).bind fun t13_9 =>
(gd (wt t11_8 false) (loadV Try.prog 4 t13_9 h1)).bind fun t14_10 =>
(gd (wt t11_8 false) (unV Try.prog .not t14_10)).bind fun t15_11 =>
(gd (wt (gdV (wt t11_8 false) t15_11) true) (fieldAddrV Try.prog 61 t1_0 1)).bind fun t17_12 =>
(gd (wt (gdV (wt t11_8 false) t15_11) true) (loadV Try.prog 22 t17_12 h1)).bind fun t18_13 =>
(gd (wt (gdV (wt t11_8 false) t15_11) true) (binV Try.prog .eql 22 (.tmp 18) (.const (Go.Value.int Go.IntKind.u64 0)) t18_13 (Go.Value.int Go.IntKind.u64 0))).bind fun t19_14 =>
(gd (wt (gdV (wt (gdV (wt t11_8 false) t15_11) true) t19_14) false) (fieldAddrV Try.prog 61 t1_0 2)).bind fun t21_15 =>
(gd (wt (gdV (wt (gdV (wt t11_8 false) t15_11) true) t19_14) false) (loadV Try.prog 31 t21_15 h1)).bind fun t22_16 =>
(gd (wt (gdV (wt (gdV (wt t11_8 false) t15_11) true) t19_14) false) (lenV Try.prog 31 t22_16 h1)).bind fun t23_17 =>
(gd (wt (gdV (wt (gdV (wt t11_8 false) t15_11) true) t19_14) false) (binV Try.prog .gtr 3 (.tmp 23) (.const (Go.Value.int Go.IntKind.i64 30000)) t23_17 (Go.Value.int Go.IntKind.i64 30000))).bind fun t24_18 =>
(gd (wt (gdV (wt t11_8 false) t15_11) true) (pickV (gdV (wt (gdV (wt t11_8 false) t15_11) true) t19_14) (Go.Value.bool Bool.true) t24_18)).bind fun t25_19 =>
(gd (wt t11_8 false) (pickV (gdV (wt t11_8 false) t15_11) t25_19 (Go.Value.bool Bool.false))).bind fun t26_20 =>
(pickV t11_8 (Go.Value.bool Bool.true) t26_20).bind fun t27_21 =>
cnd t27_21 (
k .ret ⟨#[x0, t1_0, (Go.Value.slice Option.none 0 0), x3, t4_2, t5_3, t5_3, t7_4, t8_5, t9_6, t10_7, t11_8, t11_8, t13_9, t14_10, t15_11, (gdV (wt t11_8 false) t15_11), t17_12, t18_13, t19_14, (gdV (wt (gdV (wt t11_8 false) t15_11) true) t19_14), t21_15, t22_16, t23_17, t24_18, t25_19, t26_20, t27_21, x28, x29, x30, x31, x32, x33, x34, x35, x36, x37, x38, x39, x40, x41, x42, x43, x44, x45, x46, x47, x48, x49, x50, x51, x52, x53, x54, x55], h1⟩) (
(buildV Try.prog 88 #[]).bind fun t28_22 =>
obH (boxV Try.prog 88 t28_22 h1) fun t29_23 h24 =>
(fieldAddrV Try.prog 61 t1_0 0).bind fun t30_25 =>
(loadV Try.prog 4 t30_25 h24).bind fun t31_26 =>
cnd t31_26 (
obH (evC Try.prog 47 #[t29_23, (Go.Value.int Go.IntKind.u64 1)] h24) fun t33_27 h28 =>
(fieldAddrV Try.prog 61 t1_0 1).bind fun t35_29 =>
(loadV Try.prog 22 t35_29 h28).bind fun t36_30 =>
obH (evC Try.prog 47 #[t29_23, t36_30] h28) fun t37_31 h32 =>
(nilCheckV t29_23).bind fun t39_33 =>
(fieldAddrV Try.prog 88 t39_33 0).bind fun t40_34 =>
(loadV Try.prog 31 t40_34 h32).bind fun t41_35 =>
k .ret ⟨#[x0, t1_0, t41_35, t29_23, t4_2, t5_3, t5_3, t7_4, t8_5, t9_6, t10_7, t11_8, t11_8, t13_9, t14_10, t15_11, (gdV (wt t11_8 false) t15_11), t17_12, t18_13, t19_14, (gdV (wt (gdV (wt t11_8 false) t15_11) true) t19_14), t21_15, t22_16, t23_17, t24_18, t25_19, t26_20, t27_21, t28_22, t29_23, t30_25, t31_26, t29_23, t33_27, t29_23, t35_29, t36_30, t37_31, t29_23, t39_33, t40_34, t41_35, x42, x43, x44, x45, x46, x47, x48, x49, x50, x51, x52, x53, x54, x55], h32⟩) (
obH (evC Try.prog 47 #[t29_23, (Go.Value.int Go.IntKind.u64 0)] h24) fun t43_36 h37 =>
(fieldAddrV Try.prog 61 t1_0 1).bind fun t45_38 =>
(loadV Try.prog 22 t45_38 h37).bind fun t46_39 =>
obH (evC Try.prog 47 #[t29_23, t46_39] h37) fun t47_40 h41 =>
(fieldAddrV Try.prog 61 t1_0 2).bind fun t49_42 =>
(loadV Try.prog 31 t49_42 h41).bind fun t50_43 =>
obH (evC Try.prog 48 #[t29_23, t50_43] h41) fun t51_44 h45 =>
(nilCheckV t29_23).bind fun t53_46 =>
(fieldAddrV Try.prog 88 t53_46 0).bind fun t54_47 =>
(loadV Try.prog 31 t54_47 h45).bind fun t55_48 =>
k .ret ⟨#[x0, t1_0, t55_48, t29_23, t4_2, t5_3, t5_3, t7_4, t8_5, t9_6, t10_7, t11_8, t11_8, t13_9, t14_10, t15_11, (gdV (wt t11_8 false) t15_11), t17_12, t18_13, t19_14, (gdV (wt (gdV (wt t11_8 false) t15_11) true) t19_14), t21_15, t22_16, t23_17, t24_18, t25_19, t26_20, t27_21, t28_22, t29_23, t30_25, t31_26, x32, x33, x34, x35, x36, x37, x38, x39, x40, x41, t29_23, t43_36, t29_23, t45_38, t46_39, t47_40, t29_23, t49_42, t50_43, t51_44, t29_23, t53_46, t54_47, t55_48], h45⟩)) := by kernel_rfl
theorem call37 (x0 : Value) (h : Heap) : evC Try.prog 37 #[x0] h = codeK Try.prog (evC Try.prog) loopL c37_0 ⟨#[x0, undef, undef, undef, undef, undef, undef, undef, undef, undef, undef, undef, undef, undef, undef, undef, undef, undef, undef, undef, undef, undef, undef, undef, undef, undef, undef, undef, undef, undef, undef, undef, undef, undef, undef, undef, undef, undef, undef, undef, undef, undef, undef, undef, undef, undef, undef, undef, undef, undef, undef, undef, undef, undef, undef, undef], nm h⟩ (retK Try.f37 Try.prog h) :=
  (evC_call 37 Try.f37 c37_0 Try.func37 (by kernel_rfl) #[x0] h).trans (by kernel_rfl)
theorem ret37 (x0 x1 x2 x3 x4 x5 x6 x7 x8 x9 x10 x11 x12 x13 x14 x15 x16 x17 x18 x19 x20 x21 x22 x23 x24 x25 x26 x27 x28 x29 x30 x31 x32 x33 x34 x35 x36 x37 x38 x39 x40 x41 x42 x43 x44 x45 x46 x47 x48 x49 x50 x51 x52 x53 x54 x55 : Value) (h0 h : Heap) : retK Try.f37 Try.prog h0 .ret ⟨#[x0, x1, x2, x3, x4, x5, x6, x7, x8, x9, x10, x11, x12, x13, x14, x15, x16, x17, x18, x19, x20, x21, x22, x23, x24, x25, x26, x27, x28, x29, x30, x31, x32, x33, x34, x35, x36, x37, x38, x39, x40, x41, x42, x43, x44, x45, x46, x47, x48, x49, x50, x51, x52, x53, x54, x55], h⟩ = fin h0 (some x2) h := by kernel_rfl
theorem retn37 (x0 x1 x2 x3 x4 x5 x6 x7 x8 x9 x10 x11 x12 x13 x14 x15 x16 x17 x18 x19 x20 x21 x22 x23 x24 x25 x26 x27 x28 x29 x30 x31 x32 x33 x34 x35 x36 x37 x38 x39 x40 x41 x42 x43 x44 x45 x46 x47 x48 x49 x50 x51 x52 x53 x54 x55 : Value) (h0 h : Heap) : retK Try.f37 Try.prog h0 .normal ⟨#[x0, x1, x2, x3, x4, x5, x6, x7, x8, x9, x10, x11, x12, x13, x14, x15, x16, x17, x18, x19, x20, x21, x22, x23, x24, x25, x26, x27, x28, x29, x30, x31, x32, x33, x34, x35, x36, x37, x38, x39, x40, x41, x42, x43, x44, x45, x46, x47, x48, x49, x50, x51, x52, x53, x54, x55], h⟩ = fin h0 (some x2) h := by kernel_rfl
end Go.Am
namespace Go.Am
open Go.Proofs
set_option maxRecDepth 100000
noncomputable def c36_0 : Code := bodyC Try.f36 []
noncomputable def c36_1 : Code := bodyC Try.f36 [true, true, true, true, true]
theorem c36_0_eq {β : Type} (x0 x1 x2 x3 x4 x5 x6 x7 x8 x9 x10 x11 x12 x13 x14 x15 x16 x17 x18 x19 x20 x21 x22 x23 x24 x25 x26 x27 x28 x29 x30 x31 x32 x33 x34 x35 x36 : Value) (h : Heap) (k : Ex → St → Option β) : codeK Try.prog (evC Try.prog) loopL c36_0 ⟨#[x0, x1, x2, x3, x4, x5, x6, x7, x8, x9, x10, x11, x12, x13, x14, x15, x16, x17, x18, x19, x20, x21, x22, x23, x24, x25, x26, x27, x28, x29, x30, x31, x32, x33, x34, x35, x36], h⟩ k =
obH (allocV Try.prog 61 h) fun t2_0 h1 =>
(buildV Try.prog 85 #[(0, x0)]).bind fun t7_2 =>
obH (boxV Try.prog 85 t7_2 h1) fun t8_3 h4 =>
obH (evC Try.prog 44 #[t8_3, (Go.Value.int Go.IntKind.u64 1)] h4) fun t10_5 h6 =>
(binV Try.prog .eql 22 (.tmp 10) (.const (Go.Value.int Go.IntKind.u64 1)) t10_5 (Go.Value.int Go.IntKind.u64 1)).bind fun t11_7 =>
(buildV Try.prog 61 #[(0, t11_7)]).bind fun t12_8 =>
obH (allocV Try.prog 61 h6) fun t5_9 h10 =>
(storeV Try.prog 61 t5_9 t12_8 h10).bind fun h11 =>
obH (evC Try.prog 44 #[t8_3, (Go.Value.int Go.IntKind.u64 18446744073709551615)] h11) fun t14_12 h13 =>
(fieldAddrV Try.prog 61 t5_9 1).bind fun t15_14 =>
(storeV Try.prog 22 t15_14 t14_12 h13).bind fun h15 =>
(fieldAddrV Try.prog 61 t5_9 0).bind fun t16_16 =>
(loadV Try.prog 4 t16_16 h15).bind fun t17_17 =>
(unV Try.prog .not t17_17).bind fun t18_18 =>
cnd t18_18 (
obH (evC Try.prog 45 #[t8_3, (Go.Value.int Go.IntKind.i64 30000)] h15) fun t20_19 h20 =>
(fieldAddrV Try.prog 61 t5_9 2).bind fun t21_21 =>
(storeV Try.prog 31 t21_21 t20_19 h20).bind fun h22 =>
codeK Try.prog (evC Try.prog) loopL c36_1 ⟨#[x0, x1, t2_0, (Go.Value.bool Bool.false), t8_3, t5_9, x0, t7_2, t8_3, t8_3, t10_5, t11_7, t12_8, t8_3, t14_12, t15_14, t16_16, t17_17, t18_18, t8_3, t20_19, t21_21, x22, x23, x24, x25, x26, x27, x28, x29, x30, x31, x32, x33, x34, x35, x36], h22⟩ k) (
codeK Try.prog (evC Try.prog) loopL c36_1 ⟨#[x0, x1, t2_0, (Go.Value.bool Bool.false), t8_3, t5_9, x0, t7_2, t8_3, t8_3, t10_5, t11_7, t12_8, t8_3, t14_12, t15_14, t16_16, t17_17, t18_18, x19, x20, x21, x22, x23, x24, x25, x26, x27, x28, x29, x30, x31, x32, x33, x34, x35, x36], h15⟩ k) := by kernel_rfl
theorem c36_1_eq {β : Type} (x0 x1 x2 x3 x4 x5 x6 x7 x8 x9 x10 x11 x12 x13 x14 x15 x16 x17 x18 x19 x20 x21 x22 x23 x24 x25 x26 x27 x28 x29 x30 x31 x32 x33 x34 x35 x36 : Value) (h : Heap) (k : Ex → St → Option β) : codeK Try.prog (evC Try.prog) loopL c36_1 ⟨#[x0, x1, x2, x3, x4, x5, x6, x7, x8, x9, x10, x11, x12, x13, x14, x15, x16, x17, x18, x19, x20, x21, x22, x23, x24, x25, x26, x27, x28, x29, x30, x31, x32, x33, x34, x35, x36], h⟩ k =
obH (evC Try.prog 46 #[x4] h) fun t23_23 h24 =>
(unV Try.prog .not t23_23).bind fun t24_25 =>
(gd (wt t24_25 false) (fieldAddrV Try.prog 61 x5 0)).bind fun t26_26 =>
(gd (wt t24_25 false) (loadV Try.prog 4 t26_26 h24)).bind fun t27_27 =>
(gd (wt t24_25 false) (unV Try.prog .not t27_27)).bind fun t28_28 =>
(gd (wt (gdV (wt t24_25 false) t28_28) true) (fieldAddrV Try.prog 61 x5 1)).bind fun t30_29 =>
(gd (wt (gdV (wt t24_25 false) t28_28) true) (loadV Try.prog 22 t30_29 h24)).bind fun t31_30 =>
(gd (wt (gdV (wt t24_25 false) t28_28) true) (binV Try.prog .eql 22 (.tmp 31) (.const (Go.Value.int Go.IntKind.u64 0)) t31_30 (Go.Value.int Go.IntKind.u64 0))).bind fun t32_31 =>
(gd (wt t24_25 false) (pickV (gdV (wt t24_25 false) t28_28) t32_31 (Go.Value.bool Bool.false))).bind fun t33_32 =>
(pickV t24_25 (Go.Value.bool Bool.true) t33_32).bind fun t34_33 =>
cnd t34_33 (
(buildV Try.prog 61 #[]).bind fun t35_34 =>
(storeV Try.prog 61 x2 t35_34 h24).bind fun h35 =>
k .ret ⟨#[x0, x1, x2, (Go.Value.bool Bool.false), x4, x5, x6, x7, x8, x9, x10, x11, x12, x13, x14, x15, x16, x17, x18, x19, x20, x21, x4, t23_23, t24_25, t24_25, t26_26, t27_27, t28_28, (gdV (wt t24_25 false) t28_28), t30_29, t31_30, t32_31, t33_32, t34_33, t35_34, x36], h35⟩) (
(loadV Try.prog 61 x5 h24).bind fun t36_36 =>
(storeV Try.prog 61 x2 t36_36 h24).bind fun h37 =>
k .ret ⟨#[x0, x1, x2, (Go.Value.bool Bool.true), x4, x5, x6, x7, x8, x9, x10, x11, x12, x13, x14, x15, x16, x17, x18, x19, x20, x21, x4, t23_23, t24_25, t24_25, t26_26, t27_27, t28_28, (gdV (wt t24_25 false) t28_28), t30_29, t31_30, t32_31, t33_32, t34_33, x35, t36_36], h37⟩) := by kernel_rfl
theorem call36 (x0 : Value) (h : Heap) : evC Try.prog 36 #[x0] h = codeK Try.prog (evC Try.prog) loopL c36_0 ⟨#[x0, undef, undef, undef, undef, undef, undef, undef, undef, undef, undef, undef, undef, undef, undef, undef, undef, undef, undef, undef, undef, undef, undef, undef, undef, undef, undef, undef, undef, undef, undef, undef, undef, undef, undef, undef, undef], nm h⟩ (retK Try.f36 Try.prog h) :=
  (evC_call 36 Try.f36 c36_0 Try.func36 (by kernel_rfl) #[x0] h).trans (by kernel_rfl)
theorem ret36 (x0 x1 x2 x3 x4 x5 x6 x7 x8 x9 x10 x11 x12 x13 x14 x15 x16 x17 x18 x19 x20 x21 x22 x23 x24 x25 x26 x27 x28 x29 x30 x31 x32 x33 x34 x35 x36 : Value) (h0 h : Heap) : retK Try.f36 Try.prog h0 .ret ⟨#[x0, x1, x2, x3, x4, x5, x6, x7, x8, x9, x10, x11, x12, x13, x14, x15, x16, x17, x18, x19, x20, x21, x22, x23, x24, x25, x26, x27, x28, x29, x30, x31, x32, x33, x34, x35, x36], h⟩ = fin h0 (rvals ((loadV Try.prog 61 x2 h).bind fun r0 => some [r0, x3])) h := by kernel_rfl
theorem retn36 (x0 x1 x2 x3 x4 x5 x6 x7 x8 x9 x10 x11 x12 x13 x14 x15 x16 x17 x18 x19 x20 x21 x22 x23 x24 x25 x26 x27 x28 x29 x30 x31 x32 x33 x34 x35 x36 : Value) (h0 h : Heap) : retK Try.f36 Try.prog h0 .normal ⟨#[x0, x1, x2, x3, x4, x5, x6, x7, x8, x9, x10, x11, x12, x13, x14, x15, x16, x17, x18, x19, x20, x21, x22, x23, x24, x25, x26, x27, x28, x29, x30, x31, x32, x33, x34, x35, x36], h⟩ = fin h0 (rvals ((loadV Try.prog 61 x2 h).bind fun r0 => some [r0, x3])) h := by kernel_rfl
end Go.Am
namespace Go.Am
open Go.Proofs
set_option maxRecDepth 100000
noncomputable def c5_0 : Code := bodyC Try.f5 []
theorem c5_0_eq {β : Type} (x0 x1 x2 x3 x4 x5 x6 x7 x8 x9 x10 x11 x12 x13 x14 x15 x16 x17 x18 x19 x20 x21 x22 x23 x24 x25 x26 x27 x28 x29 x30 x31 x32 : Value) (h : Heap) (k : Ex → St → Option β) : codeK Try.prog (evC Try.prog) loopL c5_0 ⟨#[x0, x1, x2, x3, x4, x5, x6, x7, x8, x9, x10, x11, x12, x13, x14, x15, x16, x17, x18, x19, x20, x21, x22, x23, x24, x25, x26, x27, x28, x29, x30, x31, x32], h⟩ k =
obH (evC Try.prog 18 #[] h) fun t8_0 h1 =>
(unV Try.prog .not t8_0).bind fun t9_2 =>
cnd t9_2 (
k .ret ⟨#[x0, x1, x2, x3, (Go.Value.bool Bool.false), x5, x6, x7, t8_0, t9_2, x10, x11, x12, x13, x14, x15, x16, x17, x18, x19, x20, x21, x22, x23, x24, x25, x26, x27, x28, x29, x30, x31, x32], h1⟩) (
obH (evC Try.prog 20 #[(Go.Value.slice Option.none 0 0), x0] h1) fun t11_3 h4 =>
(binV Try.prog .lss 3 (.tmp 12) (.const (Go.Value.int Go.IntKind.i64 0)) x1 (Go.Value.int Go.IntKind.i64 0)).bind fun t13_5 =>
(gd (wt t13_5 false) (lenV Try.prog 31 (gdV (wt t13_5 false) t11_3) h4)).bind fun t17_6 =>
(gd (wt t13_5 false) (binV Try.prog .geq 3 (.tmp 15) (.tmp 17) (gdV (wt t13_5 false) x1) t17_6)).bind fun t18_7 =>
(pickV t13_5 (Go.Value.bool Bool.true) t18_7).bind fun t19_8 =>
cnd t19_8 (
k .ret ⟨#[x0, x1, x2, x3, (Go.Value.bool Bool.true), t11_3, x6, x7, t8_0, t9_2, x0, t11_3, x1, t13_5, t13_5, (gdV (wt t13_5 false) x1), (gdV (wt t13_5 false) t11_3), t17_6, t18_7, t19_8, x20, x21, x22, x23, x24, x25, x26, x27, x28, x29, x30, x31, x32], h4⟩) (
(sliceV Try.prog 31 t11_3 none (some x1) none h4).bind fun t23_9 =>
obH (evC Try.prog 21 #[t23_9] h4) fun t24_10 h11 =>
(extractV t24_10 0).bind fun t25_12 =>
(extractV t24_10 1).bind fun t26_13 =>
(binV Try.prog .eql 22 (.tmp 27) (.const (Go.Value.int Go.IntKind.u64 0)) t25_12 (Go.Value.int Go.IntKind.u64 0)).bind fun t28_14 =>
(gd (wt t28_14 true) (binV Try.prog .eql 3 (.tmp 30) (.const (Go.Value.int Go.IntKind.i64 0)) (gdV (wt t28_14 true) t26_13) (Go.Value.int Go.IntKind.i64 0))).bind fun t31_15 =>
(pickV t28_14 t31_15 (Go.Value.bool Bool.false)).bind fun t32_16 =>
k .ret ⟨#[x0, x1, x2, x3, t32_16, t11_3, t25_12, t26_13, t8_0, t9_2, x0, t11_3, x1, t13_5, t13_5, (gdV (wt t13_5 false) x1), (gdV (wt t13_5 false) t11_3), t17_6, t18_7, t19_8, t24_10, t11_3, x1, t23_9, t24_10, t25_12, t26_13, t25_12, t28_14, t28_14, (gdV (wt t28_14 true) t26_13), t31_15, t32_16], h11⟩)) := by kernel_rfl
theorem call5 (x0 x1 : Value) (h : Heap) : evC Try.prog 5 #[x0, x1] h = codeK Try.prog (evC Try.prog) loopL c5_0 ⟨#[x0, x1, undef, undef, undef, undef, undef, undef, undef, undef, undef, undef, undef, undef, undef, undef, undef, undef, undef, undef, undef, undef, undef, undef, undef, undef, undef, undef, undef, undef, undef, undef, undef], nm h⟩ (retK Try.f5 Try.prog h) :=
  (evC_call 5 Try.f5 c5_0 Try.func5 (by kernel_rfl) #[x0, x1] h).trans (by kernel_rfl)
theorem ret5 (x0 x1 x2 x3 x4 x5 x6 x7 x8 x9 x10 x11 x12 x13 x14 x15 x16 x17 x18 x19 x20 x21 x22 x23 x24 x25 x26 x27 x28 x29 x30 x31 x32 : Value) (h0 h : Heap) : retK Try.f5 Try.prog h0 .ret ⟨#[x0, x1, x2, x3, x4, x5, x6, x7, x8, x9, x10, x11, x12, x13, x14, x15, x16, x17, x18, x19, x20, x21, x22, x23, x24, x25, x26, x27, x28, x29, x30, x31, x32], h⟩ = fin h0 (some x4) h := by kernel_rfl
theorem retn5 (x0 x1 x2 x3 x4 x5 x6 x7 x8 x9 x10 x11 x12 x13 x14 x15 x16 x17 x18 x19 x20 x21 x22 x23 x24 x25 x26 x27 x28 x29 x30 x31 x32 : Value) (h0 h : Heap) : retK Try.f5 Try.prog h0 .normal ⟨#[x0, x1, x2, x3, x4, x5, x6, x7, x8, x9, x10, x11, x12, x13, x14, x15, x16, x17, x18, x19, x20, x21, x22, x23, x24, x25, x26, x27, x28, x29, x30, x31, x32], h⟩ = fin h0 (some x4) h := by kernel_rfl
end Go.Am
namespace Go.Am
open Go.Proofs
set_option maxRecDepth 100000
noncomputable def c26_0 : Code := bodyC Try.f26 []
theorem c26_0_eq {β : Type} (x0 x1 x2 x3 x4 x5 x6 x7 x8 x9 x10 x11 x12 x13 x14 x15 x16 x17 x18 x19 x20 x21 x22 x23 x24 x25 x26 x27 x28 x29 x30 x31 x32 x33 x34 x35 : Value) (h : Heap) (k : Ex → St → Option β) : codeK Try.prog (evC Try.prog) loopL c26_0 ⟨#[x0, x1, x2, x3, x4, x5, x6, x7, x8, x9, x10, x11, x12, x13, x14, x15, x16, x17, x18, x19, x20, x21, x22, x23, x24, x25, x26, x27, x28, x29, x30, x31, x32, x33, x34, x35], h⟩ k =
obH (evC Try.prog 27 #[] h) fun t3_0 h1 =>
(binV Try.prog .eql 47 (.tmp 4) (.const (Go.Value.pointer Option.none)) t3_0 (Go.Value.pointer Option.none)).bind fun t5_2 =>
cnd t5_2 (
k .ret ⟨#[(Go.Value.bool Bool.false), t3_0, x2, t3_0, t3_0, t5_2, x6, x7, x8, x9, x10, x11, x12, x13, x14, x15, x16, x17, x18, x19, x20, x21, x22, x23, x24, x25, x26, x27, x28, x29, x30, x31, x32, x33, x34, x35], h1⟩) (
obH (evC Try.prog 28 #[t3_0, (Go.Value.int Go.IntKind.u64 300)] h1) fun t7_3 h4 =>
obH (buildSliceV Try.prog 31 1 #[(0, (Go.Value.int Go.IntKind.u8 97))] h4) fun t9_5 h6 =>
obH (convV Try.prog 31 31 t9_5 h6) fun t10_7 h8 =>
obH (evC Try.prog 40 #[t3_0, t10_7] h8) fun t11_9 h10 =>
obH (evC Try.prog 29 #[t3_0] h10) fun t13_11 h12 =>
obH (evC Try.prog 30 #[t13_11] h12) fun t14_13 h14 =>
(binV Try.prog .eql 52 (.tmp 15) (.const (Go.Value.pointer Option.none)) t14_13 (Go.Value.pointer Option.none)).bind fun t16_15 =>
cnd t16_15 (
k .ret ⟨#[(Go.Value.bool Bool.false), t3_0, t14_13, t3_0, t3_0, t5_2, t3_0, t7_3, t3_0, t9_5, t10_7, t11_9, t3_0, t13_11, t14_13, t14_13, t16_15, x17, x18, x19, x20, x21, x22, x23, x24, x25, x26, x27, x28, x29, x30, x31, x32, x33, x34, x35], h14⟩) (
obH (evC Try.prog 29 #[t3_0] h14) fun t18_16 h17 =>
obH (convV Try.prog 31 9 t18_16 h17) fun t19_18 h19 =>
(binV Try.prog .eql 9 (.tmp 19) (.const (Go.Value.string { data := #[172, 2, 1, 97] })) t19_18 (Go.Value.string { data := #[172, 2, 1, 97] })).bind fun t20_20 =>
obH (gdH (wt t20_20 true) h19 (evC Try.prog 31 #[(gdV (wt t20_20 true) t14_13), (Go.Value.int Go.IntKind.u64 300)] h19)) fun t23_21 h22 =>
(gd (wt t20_20 true) (binV Try.prog .eql 22 (.tmp 23) (.const (Go.Value.int Go.IntKind.u64 300)) t23_21 (Go.Value.int Go.IntKind.u64 300))).bind fun t24_23 =>
(pickV t20_20 t24_23 (Go.Value.bool Bool.false)).bind fun t25_24 =>
obH (gdH (wt t25_24 true) h22 (evC Try.prog 41 #[(gdV (wt t25_24 true) t14_13), (Go.Value.int Go.IntKind.i64 1)] h22)) fun t28_25 h26 =>
obH (gdH (wt t25_24 true) h26 (convV Try.prog 31 9 t28_25 h26)) fun t29_27 h28 =>
(gd (wt t25_24 true) (binV Try.prog .eql 9 (.tmp 29) (.const (Go.Value.string { data := #[97] })) t29_27 (Go.Value.string { data := #[97] }))).bind fun t30_29 =>
(pickV t25_24 t30_29 (Go.Value.bool Bool.false)).bind fun t31_30 =>
obH (gdH (wt t31_30 true) h28 (evC Try.prog 32 #[(gdV (wt t31_30 true) t14_13)] h28)) fun t34_31 h32 =>
(pickV t31_30 t34_31 (Go.Value.bool Bool.false)).bind fun t35_33 =>
k .ret ⟨#[t35_33, t3_0, t14_13, t3_0, t3_0, t5_2, t3_0, t7_3, t3_0, t9_5, t10_7, t11_9, t3_0, t13_11, t14_13, t14_13, t16_15, t3_0, t18_16, t19_18, t20_20, t20_20, (gdV (wt t20_20 true) t14_13), t23_21, t24_23, t25_24, t25_24, (gdV (wt t25_24 true) t14_13), t28_25, t29_27, t30_29, t31_30, t31_30, (gdV (wt t31_30 true) t14_13), t34_31, t35_33], h32⟩)) := by kernel_rfl
theorem call26 (h : Heap) : evC Try.prog 26 #[] h = codeK Try.prog (evC Try.prog) loopL c26_0 ⟨#[undef, undef, undef, undef, undef, undef, undef, undef, undef, undef, undef, undef, undef, undef, undef, undef, undef, undef, undef, undef, undef, undef, undef, undef, undef, undef, undef, undef, undef, undef, undef, undef, undef, undef, undef, undef], nm h⟩ (retK Try.f26 Try.prog h) :=
  (evC_call 26 Try.f26 c26_0 Try.func26 (by kernel_rfl) #[] h).trans (by kernel_rfl)
theorem ret26 (x0 x1 x2 x3 x4 x5 x6 x7 x8 x9 x10 x11 x12 x13 x14 x15 x16 x17 x18 x19 x20 x21 x22 x23 x24 x25 x26 x27 x28 x29 x30 x31 x32 x33 x34 x35 : Value) (h0 h : Heap) : retK Try.f26 Try.prog h0 .ret ⟨#[x0, x1, x2, x3, x4, x5, x6, x7, x8, x9, x10, x11, x12, x13, x14, x15, x16, x17, x18, x19, x20, x21, x22, x23, x24, x25, x26, x27, x28, x29, x30, x31, x32, x33, x34, x35], h⟩ = fin h0 (some x0) h := by kernel_rfl
theorem retn26 (x0 x1 x2 x3 x4 x5 x6 x7 x8 x9 x10 x11 x12 x13 x14 x15 x16 x17 x18 x19 x20 x21 x22 x23 x24 x25 x26 x27 x28 x29 x30 x31 x32 x33 x34 x35 : Value) (h0 h : Heap) : retK Try.f26 Try.prog h0 .normal ⟨#[x0, x1, x2, x3, x4, x5, x6, x7, x8, x9, x10, x11, x12, x13, x14, x15, x16, x17, x18, x19, x20, x21, x22, x23, x24, x25, x26, x27, x28, x29, x30, x31, x32, x33, x34, x35], h⟩ = fin h0 (some x0) h := by kernel_rfl
end Go.Am
namespace Go.Am
open Go.Proofs
set_option maxRecDepth 100000
noncomputable def c15_0 : Code := bodyC Try.f15 []
theorem c15_0_eq {β : Type} (x0 x1 x2 x3 x4 x5 x6 x7 x8 x9 x10 x11 x12 x13 x14 : Value) (h : Heap) (k : Ex → St → Option β) : codeK Try.prog (evC Try.prog) loopL c15_0 ⟨#[x0, x1, x2, x3, x4, x5, x6, x7, x8, x9, x10, x11, x12, x13, x14], h⟩ k =
(binV Try.prog .lss 3 (.tmp 4) (.const (Go.Value.int Go.IntKind.i64 1)) x0 (Go.Value.int Go.IntKind.i64 1)).bind fun t5_0 =>
(gd (wt t5_0 false) (binV Try.prog .gtr 3 (.tmp 7) (.const (Go.Value.int Go.IntKind.i64 16)) (gdV (wt t5_0 false) x0) (Go.Value.int Go.IntKind.i64 16))).bind fun t8_1 =>
(pickV t5_0 (Go.Value.bool Bool.true) t8_1).bind fun t9_2 =>
cnd t9_2 (
k .ret ⟨#[x0, x1, (Go.Value.pointer Option.none), (Go.Value.int Go.IntKind.i64 1), x0, t5_0, t5_0, (gdV (wt t5_0 false) x0), t8_1, t9_2, x10, x11, x12, x13, x14], h⟩) (
obH (convV Try.prog 3 22 x0 h) fun t11_3 h4 =>
obH (some (makeMapV h4)) fun t12_5 h6 =>
(buildV Try.prog 72 #[(0, t11_3), (1, (Go.Value.int Go.IntKind.u64 1)), (2, t12_5)]).bind fun t13_7 =>
obH (boxV Try.prog 72 t13_7 h6) fun t14_8 h9 =>
k .ret ⟨#[x0, x1, t14_8, (Go.Value.int Go.IntKind.i64 0), x0, t5_0, t5_0, (gdV (wt t5_0 false) x0), t8_1, t9_2, x0, t11_3, t12_5, t13_7, t14_8], h9⟩) := by kernel_rfl
theorem call15 (x0 : Value) (h : Heap) : evC Try.prog 15 #[x0] h = codeK Try.prog (evC Try.prog) loopL c15_0 ⟨#[x0, undef, undef, undef, undef, undef, undef, undef, undef, undef, undef, undef, undef, undef, undef], nm h⟩ (retK Try.f15 Try.prog h) :=
  (evC_call 15 Try.f15 c15_0 Try.func15 (by kernel_rfl) #[x0] h).trans (by kernel_rfl)
theorem ret15 (x0 x1 x2 x3 x4 x5 x6 x7 x8 x9 x10 x11 x12 x13 x14 : Value) (h0 h : Heap) : retK Try.f15 Try.prog h0 .ret ⟨#[x0, x1, x2, x3, x4, x5, x6, x7, x8, x9, x10, x11, x12, x13, x14], h⟩ = fin h0 (some (.tuple #[x2, x3])) h := by kernel_rfl
theorem retn15 (x0 x1 x2 x3 x4 x5 x6 x7 x8 x9 x10 x11 x12 x13 x14 : Value) (h0 h : Heap) : retK Try.f15 Try.prog h0 .normal ⟨#[x0, x1, x2, x3, x4, x5, x6, x7, x8, x9, x10, x11, x12, x13, x14], h⟩ = fin h0 (some (.tuple #[x2, x3])) h := by kernel_rfl
end Go.Am
namespace Go.Am
open Go.Proofs
set_option maxRecDepth 100000
noncomputable def c16_0 : Code := bodyC Try.f16 []
noncomputable def c16_1 : Code := bodyC Try.f16 [true, true, true, true, false, false]
theorem c16_0_eq {β : Type} (x0 x1 x2 x3 x4 x5 x6 x7 x8 x9 x10 x11 x12 x13 x14 x15 x16 x17 x18 x19 x20 x21 x22 x23 x24 x25 x26 x27 x28 x29 x30 x31 x32 x33 x34 x35 x36 x37 x38 x39 x40 x41 x42 x43 x44 x45 x46 x47 x48 x49 x50 x51 x52 x53 x54 x55 x56 x57 x58 x59 x60 x61 x62 x63 x64 x65 x66 x67 x68 x69 x70 x71 x72 x73 x74 x75 x76 x77 x78 x79 x80 x81 x82 x83 x84 : Value) (h : Heap) (k : Ex → St → Option β) : codeK Try.prog (evC Try.prog) loopL c16_0 ⟨#[x0, x1, x2, x3, x4, x5, x6, x7, x8, x9, x10, x11, x12, x13, x14, x15, x16, x17, x18, x19, x20, x21, x22, x23, x24, x25, x26, x27, x28, x29, x30, x31, x32, x33, x34, x35, x36, x37, x38, x39, x40, x41, x42, x43, x44, x45, x46, x47, x48, x49, x50, x51, x52, x53, x54, x55, x56, x57, x58, x59, x60, x61, x62, x63, x64, x65, x66, x67, x68, x69, x70, x71, x72, x73, x74, x75, x76, x77, x78, x79, x80, x81, x82, x83, x84], h⟩ k =
(nilCheckV x0).bind fun t15_0 =>
(fieldAddrV Try.prog 72 t15_0 2).bind fun t16_1 =>
(loadV Try.prog 70 t16_1 h).bind fun t17_2 =>
(lookupV Try.prog 70 t17_2 x1 true h).bind fun t19_3 =>
(extractV t19_3 0).bind fun t20_4 =>
(extractV t19_3 1).bind fun t21_5 =>
(gd (wt t21_5 false) (nilCheckV (gdV (wt t21_5 false) x0))).bind fun t26_6 =>
(gd (wt t21_5 false) (fieldAddrV Try.prog 72 t26_6 1)).bind fun t27_7 =>
(gd (wt t21_5 false) (loadV Try.prog 22 t27_7 h)).bind fun t28_8 =>
(gd (wt t21_5 false) (binV Try.prog .lss 22 (.tmp 24) (.tmp 28) (gdV (wt t21_5 false) x1) t28_8)).bind fun t29_9 =>
(pickV t21_5 (Go.Value.bool Bool.true) t29_9).bind fun t30_10 =>
(gd (wt t30_10 false) (nilCheckV (gdV (wt t30_10 false) x0))).bind fun t34_11 =>
(gd (wt t30_10 false) (fieldAddrV Try.prog 72 t34_11 1)).bind fun t35_12 =>
(gd (wt t30_10 false) (loadV Try.prog 22 t35_12 h)).bind fun t36_13 =>
(gd (wt t30_10 false) (binV Try.prog .sub 22 (.tmp 32) (.tmp 36) (gdV (wt t30_10 false) x1) t36_13)).bind fun t37_14 =>
(gd (wt t30_10 false) (nilCheckV (gdV (wt t30_10 false) x0))).bind fun t39_15 =>
(gd (wt t30_10 false) (fieldAddrV Try.prog 72 t39_15 0)).bind fun t40_16 =>
(gd (wt t30_10 false) (loadV Try.prog 22 t40_16 h)).bind fun t41_17 =>
(gd (wt t30_10 false) (binV Try.prog .geq 22 (.tmp 37) (.tmp 41) t37_14 t41_17)).bind fun t42_18 =>
(pickV t30_10 (Go.Value.bool Bool.true) t42_18).bind fun t43_19 =>
cnd t43_19 (
k .ret ⟨#[x0, x1, x2, x3, x4, x5, (Go.Value.slice Option.none 0 0), (Go.Value.bool Bool.false), t20_4, t21_5, x10, x11, x12, t19_3, x0, t15_0, t16_1, t17_2, x1, t19_3, t20_4, t21_5, t21_5, t21_5, (gdV (wt t21_5 false) x1), (gdV (wt t21_5 false) x0), t26_6, t27_7, t28_8, t29_9, t30_10, t30_10, (gdV (wt t30_10 false) x1), (gdV (wt t30_10 false) x0), t34_11, t35_12, t36_13, t37_14, (gdV (wt t30_10 false) x0), t39_15, t40_16, t41_17, t42_18, t43_19, x44, x45, x46, x47, x48, x49, x50, x51, x52, x53, x54, x55, x56, x57, x58, x59, x60, x61, x62, x63, x64, x65, x66, x67, x68, x69, x70, x71, x72, x73, x74, x75, x76, x77, x78, x79, x80, x81, x82, x83, x84], h⟩) (
(nilCheckV x0).bind fun t45_20 =>
(fieldAddrV Try.prog 72 t45_20 2).bind fun t46_21 =>
(loadV Try.prog 70 t46_21 h).bind fun t47_22 =>
obH (evC Try.prog 39 #[x2] (nm h)) fun t50_23 h24 =>
(mapUpdateV Try.prog 70 t47_22 x1 t50_23 (am h24 h)).bind fun h25 =>
chk ((rb t46_21) ++ []) (h24.mods ++ []) (
loopK Try.prog (evC Try.prog) c16_1 ⟨#[x0, x1, x2, x3, x4, x5, (Go.Value.slice Option.none 0 0), (Go.Value.bool Bool.false), t20_4, t21_5, (Go.Value.slice Option.none 0 0), x11, x12, t19_3, x0, t15_0, t16_1, t17_2, x1, t19_3, t20_4, t21_5, t21_5, t21_5, (gdV (wt t21_5 false) x1), (gdV (wt t21_5 false) x0), t26_6, t27_7, t28_8, t29_9, t30_10, t30_10, (gdV (wt t30_10 false) x1), (gdV (wt t30_10 false) x0), t34_11, t35_12, t36_13, t37_14, (gdV (wt t30_10 false) x0), t39_15, t40_16, t41_17, t42_18, t43_19, x0, t45_20, t46_21, t47_22, x1, x2, t50_23, x51, x52, x53, x54, x55, x56, x57, x58, x59, x60, x61, x62, x63, x64, x65, x66, x67, x68, x69, x70, x71, x72, x73, x74, x75, x76, x77, x78, x79, x80, x81, x82, x83, x84], h25⟩ (blockK 0 k))) := by kernel_rfl
theorem c16_1_eq {β : Type} (x0 x1 x2 x3 x4 x5 x6 x7 x8 x9 x10 x11 x12 x13 x14 x15 x16 x17 x18 x19 x20 x21 x22 x23 x24 x25 x26 x27 x28 x29 x30 x31 x32 x33 x34 x35 x36 x37 x38 x39 x40 x41 x42 x43 x44 x45 x46 x47 x48 x49 x50 x51 x52 x53 x54 x55 x56 x57 x58 x59 x60 x61 x62 x63 x64 x65 x66 x67 x68 x69 x70 x71 x72 x73 x74 x75 x76 x77 x78 x79 x80 x81 x82 x83 x84 : Value) (h : Heap) (k : Ex → St → Option β) : codeK Try.prog (evC Try.prog) loopL c16_1 ⟨#[x0, x1, x2, x3, x4, x5, x6, x7, x8, x9, x10, x11, x12, x13, x14, x15, x16, x17, x18, x19, x20, x21, x22, x23, x24, x25, x26, x27, x28, x29, x30, x31, x32, x33, x34, x35, x36, x37, x38, x39, x40, x41, x42, x43, x44, x45, x46, x47, x48, x49, x50, x51, x52, x53, x54, x55, x56, x57, x58, x59, x60, x61, x62, x63, x64, x65, x66, x67, x68, x69, x70, x71, x72, x73, x74, x75, x76, x77, x78, x79, x80, x81, x82, x83, x84], h⟩ k =
(nilCheckV x0).bind fun t53_26 =>
(fieldAddrV Try.prog 72 t53_26 2).bind fun t54_27 =>
(loadV Try.prog 70 t54_27 h).bind fun t55_28 =>
(nilCheckV x0).bind fun t57_29 =>
(fieldAddrV Try.prog 72 t57_29 1).bind fun t58_30 =>
(loadV Try.prog 22 t58_30 h).bind fun t59_31 =>
(lookupV Try.prog 70 t55_28 t59_31 true h).bind fun t60_32 =>
(extractV t60_32 0).bind fun t61_33 =>
(extractV t60_32 1).bind fun t62_34 =>
(unV Try.prog .not t62_34).bind fun t64_35 =>
cnd t64_35 (
k .ret ⟨#[x0, x1, x2, x3, x4, x5, x10, (Go.Value.bool Bool.true), x8, x9, x10, t61_33, t62_34, x13, x14, x15, x16, x17, x18, x19, x20, x21, x22, x23, x24, x25, x26, x27, x28, x29, x30, x31, x32, x33, x34, x35, x36, x37, x38, x39, x40, x41, x42, x43, x44, x45, x46, x47, x48, x49, x50, t60_32, x0, t53_26, t54_27, t55_28, x0, t57_29, t58_30, t59_31, t60_32, t61_33, t62_34, t62_34, t64_35, x10, x66, x67, x68, x69, x70, x71, x72, x73, x74, x75, x76, x77, x78, x79, x80, x81, x82, x83, x84], h⟩) (
obH (buildSliceV Try.prog 28 1 #[(0, t61_33)] h) fun t68_36 h37 =>
obH (appendV Try.prog 28 (some 28) x10 t68_36 h37) fun t69_38 h39 =>
(nilCheckV x0).bind fun t71_40 =>
(fieldAddrV Try.prog 72 t71_40 2).bind fun t72_41 =>
(loadV Try.prog 70 t72_41 h39).bind fun t73_42 =>
(nilCheckV x0).bind fun t75_43 =>
(fieldAddrV Try.prog 72 t75_43 1).bind fun t76_44 =>
(loadV Try.prog 22 t76_44 h39).bind fun t77_45 =>
obH (builtinV Try.prog .delete #[70, 22] #[t73_42, t77_45] h39) fun u46 h47 =>
(nilCheckV x0).bind fun t79_48 =>
(fieldAddrV Try.prog 72 t79_48 1).bind fun t80_49 =>
(loadV Try.prog 22 t80_49 h47).bind fun t81_50 =>
(binV Try.prog .add 22 (.tmp 81) (.const (Go.Value.int Go.IntKind.u64 1)) t81_50 (Go.Value.int Go.IntKind.u64 1)).bind fun t82_51 =>
(nilCheckV x0).bind fun t83_52 =>
(fieldAddrV Try.prog 72 t83_52 1).bind fun t84_53 =>
(storeV Try.prog 22 t84_53 t82_51 h47).bind fun h54 =>
k .normal ⟨#[x0, x1, x2, x3, x4, x5, x6, x7, x8, x9, t69_38, t61_33, t62_34, x13, x14, x15, x16, x17, x18, x19, x20, x21, x22, x23, x24, x25, x26, x27, x28, x29, x30, x31, x32, x33, x34, x35, x36, x37, x38, x39, x40, x41, x42, x43, x44, x45, x46, x47, x48, x49, x50, t60_32, x0, t53_26, t54_27, t55_28, x0, t57_29, t58_30, t59_31, t60_32, t61_33, t62_34, t62_34, t64_35, x65, x10, t61_33, t68_36, t69_38, x0, t71_40, t72_41, t73_42, x0, t75_43, t76_44, t77_45, x0, t79_48, t80_49, t81_50, t82_51, t83_52, t84_53], h54⟩) := by kernel_rfl
theorem call16 (x0 x1 x2 : Value) (h : Heap) : evC Try.prog 16 #[x0, x1, x2] h = codeK Try.prog (evC Try.prog) loopL c16_0 ⟨#[x0, x1, x2, undef, undef, undef, undef, undef, undef, undef, undef, undef, undef, undef, undef, undef, undef, undef, undef, undef, undef, undef, undef, undef, undef, undef, undef, undef, undef, undef, undef, undef, undef, undef, undef, undef, undef, undef, undef, undef, undef, undef, undef, undef, undef, undef, undef, undef, undef, undef, undef, undef, undef, undef, undef, undef, undef, undef, undef, undef, undef, undef, undef, undef, undef, undef, undef, undef, undef, undef, undef, undef, undef, undef, undef, undef, undef, undef, undef, undef, undef, undef, undef, undef, undef], nm h⟩ (retK Try.f16 Try.prog h) :=
  (evC_call 16 Try.f16 c16_0 Try.func16 (by kernel_rfl) #[x0, x1, x2] h).trans (by kernel_rfl)
theorem ret16 (x0 x1 x2 x3 x4 x5 x6 x7 x8 x9 x10 x11 x12 x13 x14 x15 x16 x17 x18 x19 x20 x21 x22 x23 x24 x25 x26 x27 x28 x29 x30 x31 x32 x33 x34 x35 x36 x37 x38 x39 x40 x41 x42 x43 x44 x45 x46 x47 x48 x49 x50 x51 x52 x53 x54 x55 x56 x57 x58 x59 x60 x61 x62 x63 x64 x65 x66 x67 x68 x69 x70 x71 x72 x73 x74 x75 x76 x77 x78 x79 x80 x81 x82 x83 x84 : Value) (h0 h : Heap) : retK Try.f16 Try.prog h0 .ret ⟨#[x0, x1, x2, x3, x4, x5, x6, x7, x8, x9, x10, x11, x12, x13, x14, x15, x16, x17, x18, x19, x20, x21, x22, x23, x24, x25, x26, x27, x28, x29, x30, x31, x32, x33, x34, x35, x36, x37, x38, x39, x40, x41, x42, x43, x44, x45, x46, x47, x48, x49, x50, x51, x52, x53, x54, x55, x56, x57, x58, x59, x60, x61, x62, x63, x64, x65, x66, x67, x68, x69, x70, x71, x72, x73, x74, x75, x76, x77, x78, x79, x80, x81, x82, x83, x84], h⟩ = fin h0 (some (.tuple #[x6, x7])) h := by kernel_rfl
theorem retn16 (x0 x1 x2 x3 x4 x5 x6 x7 x8 x9 x10 x11 x12 x13 x14 x15 x16 x17 x18 x19 x20 x21 x22 x23 x24 x25 x26 x27 x28 x29 x30 x31 x32 x33 x34 x35 x36 x37 x38 x39 x40 x41 x42 x43 x44 x45 x46 x47 x48 x49 x50 x51 x52 x53 x54 x55 x56 x57 x58 x59 x60 x61 x62 x63 x64 x65 x66 x67 x68 x69 x70 x71 x72 x73 x74 x75 x76 x77 x78 x79 x80 x81 x82 x83 x84 : Value) (h0 h : Heap) : retK Try.f16 Try.prog h0 .normal ⟨#[x0, x1, x2, x3, x4, x5, x6, x7, x8, x9, x10, x11, x12, x13, x14, x15, x16, x17, x18, x19, x20, x21, x22, x23, x24, x25, x26, x27, x28, x29, x30, x31, x32, x33, x34, x35, x36, x37, x38, x39, x40, x41, x42, x43, x44, x45, x46, x47, x48, x49, x50, x51, x52, x53, x54, x55, x56, x57, x58, x59, x60, x61, x62, x63, x64, x65, x66, x67, x68, x69, x70, x71, x72, x73, x74, x75, x76, x77, x78, x79, x80, x81, x82, x83, x84], h⟩ = fin h0 (some (.tuple #[x6, x7])) h := by kernel_rfl
end Go.Am
namespace Go.Am
open Go.Proofs
set_option maxRecDepth 100000
noncomputable def c17_0 : Code := bodyC Try.f17 []
theorem c17_0_eq {β : Type} (x0 x1 x2 x3 x4 x5 x6 : Value) (h : Heap) (k : Ex → St → Option β) : codeK Try.prog (evC Try.prog) loopL c17_0 ⟨#[x0, x1, x2, x3, x4, x5, x6], h⟩ k =
(nilCheckV x0).bind fun t4_0 =>
(fieldAddrV Try.prog 72 t4_0 1).bind fun t5_1 =>
(loadV Try.prog 22 t5_1 h).bind fun t6_2 =>
k .ret ⟨#[x0, x1, t6_2, x0, t4_0, t5_1, t6_2], h⟩ := by kernel_rfl
theorem call17 (x0 : Value) (h : Heap) : evC Try.prog 17 #[x0] h = codeK Try.prog (evC Try.prog) loopL c17_0 ⟨#[x0, undef, undef, undef, undef, undef, undef], nm h⟩ (retK Try.f17 Try.prog h) :=
  (evC_call 17 Try.f17 c17_0 Try.func17 (by kernel_rfl) #[x0] h).trans (by kernel_rfl)
theorem ret17 (x0 x1 x2 x3 x4 x5 x6 : Value) (h0 h : Heap) : retK Try.f17 Try.prog h0 .ret ⟨#[x0, x1, x2, x3, x4, x5, x6], h⟩ = fin h0 (some x2) h := by kernel_rfl
theorem retn17 (x0 x1 x2 x3 x4 x5 x6 : Value) (h0 h : Heap) : retK Try.f17 Try.prog h0 .normal ⟨#[x0, x1, x2, x3, x4, x5, x6], h⟩ = fin h0 (some x2) h := by kernel_rfl
end Go.Am
namespace Go.Am
open Go.Proofs
set_option maxRecDepth 100000
noncomputable def c38_0 : Code := bodyC Try.f38 []
noncomputable def c38_1 : Code := bodyC Try.f38 [true, true, false, true, false, false]
noncomputable def c38_2 : Code := bodyC Try.f38 [true, true, true]
theorem c38_0_eq {β : Type} (x0 x1 x2 x3 x4 x5 x6 x7 x8 x9 x10 x11 x12 x13 x14 x15 x16 x17 x18 x19 x20 x21 x22 x23 x24 x25 x26 : Value) (h : Heap) (k : Ex → St → Option β) : codeK Try.prog (evC Try.prog) loopL c38_0 ⟨#[x0, x1, x2, x3, x4, x5, x6, x7, x8, x9, x10, x11, x12, x13, x14, x15, x16, x17, x18, x19, x20, x21, x22, x23, x24, x25, x26], h⟩ k =
(lenV Try.prog 28 x0 h).bind fun t7_0 =>
(lenV Try.prog 69 x1 h).bind fun t9_1 =>
(binV Try.prog .neq 3 (.tmp 7) (.tmp 9) t7_0 t9_1).bind fun t10_2 =>
cnd t10_2 (
k .ret ⟨#[x0, x1, x2, x3, (Go.Value.bool Bool.false), x5, x0, t7_0, x1, t9_1, t10_2, x11, x12, x13, x14, x15, x16, x17, x18, x19, x20, x21, x22, x23, x24, x25, x26], h⟩) (
loopK Try.prog (evC Try.prog) c38_1 ⟨#[x0, x1, x2, x3, (Go.Value.bool Bool.false), (Go.Value.int Go.IntKind.i64 0), x0, t7_0, x1, t9_1, t10_2, x11, x12, x13, x14, x15, x16, x17, x18, x19, x20, x21, x22, x23, x24, x25, x26], h⟩ (blockK 0 (seqK Try.prog (evC Try.prog) c38_2 k))) := by kernel_rfl
theorem c38_1_eq {β : Type} (x0 x1 x2 x3 x4 x5 x6 x7 x8 x9 x10 x11 x12 x13 x14 x15 x16 x17 x18 x19 x20 x21 x22 x23 x24 x25 x26 : Value) (h : Heap) (k : Ex → St → Option β) : codeK Try.prog (evC Try.prog) loopL c38_1 ⟨#[x0, x1, x2, x3, x4, x5, x6, x7, x8, x9, x10, x11, x12, x13, x14, x15, x16, x17, x18, x19, x20, x21, x22, x23, x24, x25, x26], h⟩ k =
(lenV Try.prog 28 x0 h).bind fun t13_3 =>
(binV Try.prog .lss 3 (.tmp 11) (.tmp 13) x5 t13_3).bind fun t14_4 =>
cnd t14_4 (
(indexAddrV Try.prog 28 x0 x5).bind fun t19_5 =>
(loadV Try.prog 31 t19_5 h).bind fun t20_6 =>
obH (convV Try.prog 31 9 t20_6 h) fun t21_7 h8 =>
(indexAddrV Try.prog 69 x1 x5).bind fun t24_9 =>
(loadV Try.prog 9 t24_9 h8).bind fun t25_10 =>
(binV Try.prog .neq 9 (.tmp 21) (.tmp 25) t21_7 t25_10).bind fun t26_11 =>
cnd t26_11 (
k .ret ⟨#[x0, x1, x2, x3, (Go.Value.bool Bool.false), x5, x6, x7, x8, x9, x10, x5, x0, t13_3, t14_4, x15, x16, x0, x5, t19_5, t20_6, t21_7, x1, x5, t24_9, t25_10, t26_11], h8⟩) (
(binV Try.prog .add 3 (.tmp 15) (.const (Go.Value.int Go.IntKind.i64 1)) x5 (Go.Value.int Go.IntKind.i64 1)).bind fun t16_12 =>
k .normal ⟨#[x0, x1, x2, x3, x4, t16_12, x6, x7, x8, x9, x10, x5, x0, t13_3, t14_4, x5, t16_12, x0, x5, t19_5, t20_6, t21_7, x1, x5, t24_9, t25_10, t26_11], h8⟩)) (
k (.exit 0) ⟨#[x0, x1, x2, x3, x4, x5, x6, x7, x8, x9, x10, x5, x0, t13_3, t14_4, x15, x16, x17, x18, x19, x20, x21, x22, x23, x24, x25, x26], h⟩) := by kernel_rfl
theorem c38_2_eq {β : Type} (x0 x1 x2 x3 x4 x5 x6 x7 x8 x9 x10 x11 x12 x13 x14 x15 x16 x17 x18 x19 x20 x21 x22 x23 x24 x25 x26 : Value) (h : Heap) (k : Ex → St → Option β) : codeK Try.prog (evC Try.prog) loopL c38_2 ⟨#[x0, x1, x2, x3, x4, x5, x6, x7, x8, x9, x10, x11, x12, x13, x14, x15, x16, x17, x18, x19, x20, x21, x22, x23, x24, x25, x26], h⟩ k =
k .ret ⟨#[x0, x1, x2, x3, (Go.Value.bool Bool.true), x5, x6, x7, x8, x9, x10, x11, x12, x13, x14, x15, x16, x17, x18, x19, x20, x21, x22, x23, x24, x25, x26], h⟩ := by kernel_rfl
theorem call38 (x0 x1 : Value) (h : Heap) : evC Try.prog 38 #[x0, x1] h = codeK Try.prog (evC Try.prog) loopL c38_0 ⟨#[x0, x1, undef, undef, undef, undef, undef, undef, undef, undef, undef, undef, undef, undef, undef, undef, undef, undef, undef, undef, undef, undef, undef, undef, undef, undef, undef], nm h⟩ (retK Try.f38 Try.prog h) :=
  (evC_call 38 Try.f38 c38_0 Try.func38 (by kernel_rfl) #[x0, x1] h).trans (by kernel_rfl)
theorem ret38 (x0 x1 x2 x3 x4 x5 x6 x7 x8 x9 x10 x11 x12 x13 x14 x15 x16 x17 x18 x19 x20 x21 x22 x23 x24 x25 x26 : Value) (h0 h : Heap) : retK Try.f38 Try.prog h0 .ret ⟨#[x0, x1, x2, x3, x4, x5, x6, x7, x8, x9, x10, x11, x12, x13, x14, x15, x16, x17, x18, x19, x20, x21, x22, x23, x24, x25, x26], h⟩ = fin h0 (some x4) h := by kernel_rfl
theorem retn38 (x0 x1 x2 x3 x4 x5 x6 x7 x8 x9 x10 x11 x12 x13 x14 x15 x16 x17 x18 x19 x20 x21 x22 x23 x24 x25 x26 : Value) (h0 h : Heap) : retK Try.f38 Try.prog h0 .normal ⟨#[x0, x1, x2, x3, x4, x5, x6, x7, x8, x9, x10, x11, x12, x13, x14, x15, x16, x17, x18, x19, x20, x21, x22, x23, x24, x25, x26], h⟩ = fin h0 (some x4) h := by kernel_rfl
end Go.Am
namespace Go.Am
open Go.Proofs
set_option maxRecDepth 100000
noncomputable def c14_0 : Code := bodyC Try.f14 []
theorem c14_0_eq {β : Type} (x0 x1 x2 x3 x4 x5 x6 x7 x8 x9 x10 x11 x12 x13 x14 x15 x16 x17 x18 x19 x20 x21 x22 x23 x24 x25 x26 x27 x28 x29 x30 x31 x32 x33 x34 x35 x36 x37 x38 x39 x40 x41 x42 x43 x44 x45 x46 x47 x48 x49 : Value) (h : Heap) (k : Ex → St → Option β) : codeK Try.prog (evC Try.prog) loopL c14_0 ⟨#[x0, x1, x2, x3, x4, x5, x6, x7, x8, x9, x10, x11, x12, x13, x14, x15, x16, x17, x18, x19, x20, x21, x22, x23, x24, x25, x26, x27, x28, x29, x30, x31, x32, x33, x34, x35, x36, x37, x38, x39, x40, x41, x42, x43, x44, x45, x46, x47, x48, x49], h⟩ k =
obH (evC Try.prog 15 #[(Go.Value.int Go.IntKind.i64 4)] h) fun t8_0 h1 =>
(extractV t8_0 0).bind fun t9_2 =>
(extractV t8_0 1).bind fun t10_3 =>
(binV Try.prog .neq 25 (.tmp 11) (.const (Go.Value.int Go.IntKind.i64 0)) t10_3 (Go.Value.int Go.IntKind.i64 0)).bind fun t12_4 =>
(gd (wt t12_4 false) (binV Try.prog .eql 24 (.tmp 14) (.const (Go.Value.pointer Option.none)) (gdV (wt t12_4 false) t9_2) (Go.Value.pointer Option.none))).bind fun t15_5 =>
(pickV t12_4 (Go.Value.bool Bool.true) t15_5).bind fun t16_6 =>
cnd t16_6 (
k .ret ⟨#[(Go.Value.bool Bool.false), t9_2, t10_3, x3, x4, x5, x6, t8_0, t8_0, t9_2, t10_3, t10_3, t12_4, t12_4, (gdV (wt t12_4 false) t9_2), t15_5, t16_6, x17, x18, x19, x20, x21, x22, x23, x24, x25, x26, x27, x28, x29, x30, x31, x32, x33, x34, x35, x36, x37, x38, x39, x40, x41, x42, x43, x44, x45, x46, x47, x48, x49], h1⟩) (
obH (buildSliceV Try.prog 31 1 #[(0, (Go.Value.int Go.IntKind.u8 98))] h1) fun t19_7 h8 =>
obH (convV Try.prog 31 31 t19_7 h8) fun t20_9 h10 =>
obH (evC Try.prog 16 #[t9_2, (Go.Value.int Go.IntKind.u64 2), t20_9] h10) fun t21_11 h12 =>
(extractV t21_11 0).bind fun t22_13 =>
(extractV t21_11 1).bind fun t23_14 =>
obH (buildSliceV Try.prog 31 1 #[(0, (Go.Value.int Go.IntKind.u8 97))] h12) fun t26_15 h16 =>
obH (convV Try.prog 31 31 t26_15 h16) fun t27_17 h18 =>
obH (evC Try.prog 16 #[t9_2, (Go.Value.int Go.IntKind.u64 1), t27_17] h18) fun t28_19 h20 =>
(extractV t28_19 0).bind fun t29_21 =>
(extractV t28_19 1).bind fun t30_22 =>
(lenV Try.prog 28 t22_13 h20).bind fun t32_23 =>
(binV Try.prog .eql 3 (.tmp 32) (.const (Go.Value.int Go.IntKind.i64 0)) t32_23 (Go.Value.int Go.IntKind.i64 0)).bind fun t33_24 =>
(pickV t33_24 (gdV (wt t33_24 true) t23_14) (Go.Value.bool Bool.false)).bind fun t36_25 =>
obH (gdH (wt t36_25 true) h20 (buildSliceV Try.prog 69 2 #[(0, (Go.Value.string { data := #[97] })), (1, (Go.Value.string { data := #[98] }))] h20)) fun t39_26 h27 =>
obH (gdH (wt t36_25 true) h27 (evC Try.prog 38 #[(gdV (wt t36_25 true) t29_21), t39_26] h27)) fun t40_28 h29 =>
(pickV t36_25 t40_28 (Go.Value.bool Bool.false)).bind fun t41_30 =>
(pickV t41_30 (gdV (wt t41_30 true) t30_22) (Go.Value.bool Bool.false)).bind fun t44_31 =>
obH (gdH (wt t44_31 true) h29 (evC Try.prog 17 #[(gdV (wt t44_31 true) t9_2)] h29)) fun t47_32 h33 =>
(gd (wt t44_31 true) (binV Try.prog .eql 22 (.tmp 47) (.const (Go.Value.int Go.IntKind.u64 3)) t47_32 (Go.Value.int Go.IntKind.u64 3))).bind fun t48_34 =>
(pickV t44_31 t48_34 (Go.Value.bool Bool.false)).bind fun t49_35 =>
k .ret ⟨#[t49_35, t9_2, t10_3, t22_13, t23_14, t29_21, t30_22, t8_0, t8_0, t9_2, t10_3, t10_3, t12_4, t12_4, (gdV (wt t12_4 false) t9_2), t15_5, t16_6, t21_11, t9_2, t19_7, t20_9, t21_11, t22_13, t23_14, t28_19, t9_2, t26_15, t27_17, t28_19, t29_21, t30_22, t22_13, t32_23, t33_24, t33_24, (gdV (wt t33_24 true) t23_14), t36_25, t36_25, (gdV (wt t36_25 true) t29_21), t39_26, t40_28, t41_30, t41_30, (gdV (wt t41_30 true) t30_22), t44_31, t44_31, (gdV (wt t44_31 true) t9_2), t47_32, t48_34, t49_35], h33⟩) := by kernel_rfl
theorem call14 (h : Heap) : evC Try.prog 14 #[] h = codeK Try.prog (evC Try.prog) loopL c14_0 ⟨#[undef, undef, undef, undef, undef, undef, undef, undef, undef, undef, undef, undef, undef, undef, undef, undef, undef, undef, undef, undef, undef, undef, undef, undef, undef, undef, undef, undef, undef, undef, undef, undef, undef, undef, undef, undef, undef, undef, undef, undef, undef, undef, undef, undef, undef, undef, undef, undef, undef, undef], nm h⟩ (retK Try.f14 Try.prog h) :=
  (evC_call 14 Try.f14 c14_0 Try.func14 (by kernel_rfl) #[] h).trans (by kernel_rfl)
theorem ret14 (x0 x1 x2 x3 x4 x5 x6 x7 x8 x9 x10 x11 x12 x13 x14 x15 x16 x17 x18 x19 x20 x21 x22 x23 x24 x25 x26 x27 x28 x29 x30 x31 x32 x33 x34 x35 x36 x37 x38 x39 x40 x41 x42 x43 x44 x45 x46 x47 x48 x49 : Value) (h0 h : Heap) : retK Try.f14 Try.prog h0 .ret ⟨#[x0, x1, x2, x3, x4, x5, x6, x7, x8, x9, x10, x11, x12, x13, x14, x15, x16, x17, x18, x19, x20, x21, x22, x23, x24, x25, x26, x27, x28, x29, x30, x31, x32, x33, x34, x35, x36, x37, x38, x39, x40, x41, x42, x43, x44, x45, x46, x47, x48, x49], h⟩ = fin h0 (some x0) h := by kernel_rfl
theorem retn14 (x0 x1 x2 x3 x4 x5 x6 x7 x8 x9 x10 x11 x12 x13 x14 x15 x16 x17 x18 x19 x20 x21 x22 x23 x24 x25 x26 x27 x28 x29 x30 x31 x32 x33 x34 x35 x36 x37 x38 x39 x40 x41 x42 x43 x44 x45 x46 x47 x48 x49 : Value) (h0 h : Heap) : retK Try.f14 Try.prog h0 .normal ⟨#[x0, x1, x2, x3, x4, x5, x6, x7, x8, x9, x10, x11, x12, x13, x14, x15, x16, x17, x18, x19, x20, x21, x22, x23, x24, x25, x26, x27, x28, x29, x30, x31, x32, x33, x34, x35, x36, x37, x38, x39, x40, x41, x42, x43, x44, x45, x46, x47, x48, x49], h⟩ = fin h0 (some x0) h := by kernel_rfl
end Go.Am
namespace Go.Am
open Go.Proofs
set_option maxRecDepth 100000
noncomputable def c3_0 : Code := bodyC Try.f3 []
noncomputable def c3_1 : Code := bodyC Try.f3 [true, true, true, true, true, false, true, false, false]
noncomputable def c3_2 : Code := bodyC Try.f3 [true, true, true, true, true, true]
theorem c3_0_eq {β : Type} (x0 x1 x2 x3 x4 x5 x6 x7 x8 x9 x10 x11 x12 x13 x14 x15 x16 x17 x18 x19 x20 x21 x22 x23 x24 x25 x26 x27 x28 x29 x30 x31 x32 x33 x34 x35 x36 x37 x38 x39 x40 x41 x42 x43 x44 x45 x46 x47 x48 x49 x50 x51 x52 x53 x54 x55 x56 x57 x58 x59 x60 x61 x62 x63 x64 x65 x66 x67 x68 x69 x70 x71 x72 x73 x74 x75 x76 x77 x78 x79 x80 x81 x82 x83 x84 x85 x86 x87 x88 x89 x90 x91 x92 x93 x94 x95 x96 x97 x98 x99 x100 x101 x102 x103 x104 x105 x106 x107 x108 x109 : Value) (h : Heap) (k : Ex → St → Option β) : codeK Try.prog (evC Try.prog) loopL c3_0 ⟨#[x0, x1, x2, x3, x4, x5, x6, x7, x8, x9, x10, x11, x12, x13, x14, x15, x16, x17, x18, x19, x20, x21, x22, x23, x24, x25, x26, x27, x28, x29, x30, x31, x32, x33, x34, x35, x36, x37, x38, x39, x40, x41, x42, x43, x44, x45, x46, x47, x48, x49, x50, x51, x52, x53, x54, x55, x56, x57, x58, x59, x60, x61, x62, x63, x64, x65, x66, x67, x68, x69, x70, x71, x72, x73, x74, x75, x76, x77, x78, x79, x80, x81, x82, x83, x84, x85, x86, x87, x88, x89, x90, x91, x92, x93, x94, x95, x96, x97, x98, x99, x100, x101, x102, x103, x104, x105, x106, x107, x108, x109], h⟩ k =
obH (evC Try.prog 14 #[] h) fun t15_0 h1 =>
(unV Try.prog .not t15_0).bind fun t16_2 =>
cnd t16_2 (
k .ret ⟨#[x0, x1, x2, x3, x4, x5, (Go.Value.bool Bool.false), x7, x8, x9, x10, x11, x12, x13, x14, t15_0, t16_2, x17, x18, x19, x20, x21, x22, x23, x24, x25, x26, x27, x28, x29, x30, x31, x32, x33, x34, x35, x36, x37, x38, x39, x40, x41, x42, x43, x44, x45, x46, x47, x48, x49, x50, x51, x52, x53, x54, x55, x56, x57, x58, x59, x60, x61, x62, x63, x64, x65, x66, x67, x68, x69, x70, x71, x72, x73, x74, x75, x76, x77, x78, x79, x80, x81, x82, x83, x84, x85, x86, x87, x88, x89, x90, x91, x92, x93, x94, x95, x96, x97, x98, x99, x100, x101, x102, x103, x104, x105, x106, x107, x108, x109], h1⟩) (
(binV Try.prog .lss 3 (.tmp 17) (.const (Go.Value.int Go.IntKind.i64 1)) x0 (Go.Value.int Go.IntKind.i64 1)).bind fun t18_3 =>
(gd (wt t18_3 false) (binV Try.prog .gtr 3 (.tmp 20) (.const (Go.Value.int Go.IntKind.i64 16)) (gdV (wt t18_3 false) x0) (Go.Value.int Go.IntKind.i64 16))).bind fun t21_4 =>
(pickV t18_3 (Go.Value.bool Bool.true) t21_4).bind fun t22_5 =>
(gd (wt t22_5 false) (binV Try.prog .lss 3 (.tmp 24) (.const (Go.Value.int Go.IntKind.i64 0)) (gdV (wt t22_5 false) x1) (Go.Value.int Go.IntKind.i64 0))).bind fun t25_6 =>
(pickV t22_5 (Go.Value.bool Bool.true) t25_6).bind fun t26_7 =>
(gd (wt t26_7 false) (binV Try.prog .gtr 3 (.tmp 28) (.const (Go.Value.int Go.IntKind.i64 40)) (gdV (wt t26_7 false) x1) (Go.Value.int Go.IntKind.i64 40))).bind fun t29_8 =>
(pickV t26_7 (Go.Value.bool Bool.true) t29_8).bind fun t30_9 =>
cnd t30_9 (
k .ret ⟨#[x0, x1, x2, x3, x4, x5, (Go.Value.bool Bool.true), x7, x8, x9, x10, x11, x12, x13, x14, t15_0, t16_2, x0, t18_3, t18_3, (gdV (wt t18_3 false) x0), t21_4, t22_5, t22_5, (gdV (wt t22_5 false) x1), t25_6, t26_7, t26_7, (gdV (wt t26_7 false) x1), t29_8, t30_9, x31, x32, x33, x34, x35, x36, x37, x38, x39, x40, x41, x42, x43, x44, x45, x46, x47, x48, x49, x50, x51, x52, x53, x54, x55, x56, x57, x58, x59, x60, x61, x62, x63, x64, x65, x66, x67, x68, x69, x70, x71, x72, x73, x74, x75, x76, x77, x78, x79, x80, x81, x82, x83, x84, x85, x86, x87, x88, x89, x90, x91, x92, x93, x94, x95, x96, x97, x98, x99, x100, x101, x102, x103, x104, x105, x106, x107, x108, x109], h1⟩) (
obH (evC Try.prog 15 #[x0] h1) fun t33_10 h11 =>
(extractV t33_10 0).bind fun t34_12 =>
(extractV t33_10 1).bind fun t35_13 =>
(binV Try.prog .neq 25 (.tmp 36) (.const (Go.Value.int Go.IntKind.i64 0)) t35_13 (Go.Value.int Go.IntKind.i64 0)).bind fun t37_14 =>
(gd (wt t37_14 false) (binV Try.prog .eql 24 (.tmp 39) (.const (Go.Value.pointer Option.none)) (gdV (wt t37_14 false) t34_12) (Go.Value.pointer Option.none))).bind fun t40_15 =>
(pickV t37_14 (Go.Value.bool Bool.true) t40_15).bind fun t41_16 =>
cnd t41_16 (
k .ret ⟨#[x0, x1, x2, x3, x4, x5, (Go.Value.bool Bool.false), t34_12, t35_13, x9, x10, x11, x12, x13, x14, t15_0, t16_2, x0, t18_3, t18_3, (gdV (wt t18_3 false) x0), t21_4, t22_5, t22_5, (gdV (wt t22_5 false) x1), t25_6, t26_7, t26_7, (gdV (wt t26_7 false) x1), t29_8, t30_9, t33_10, x0, t33_10, t34_12, t35_13, t35_13, t37_14, t37_14, (gdV (wt t37_14 false) t34_12), t40_15, t41_16, x42, x43, x44, x45, x46, x47, x48, x49, x50, x51, x52, x53, x54, x55, x56, x57, x58, x59, x60, x61, x62, x63, x64, x65, x66, x67, x68, x69, x70, x71, x72, x73, x74, x75, x76, x77, x78, x79, x80, x81, x82, x83, x84, x85, x86, x87, x88, x89, x90, x91, x92, x93, x94, x95, x96, x97, x98, x99, x100, x101, x102, x103, x104, x105, x106, x107, x108, x109], h11⟩) (
loopK Try.prog (evC Try.prog) c3_1 ⟨#[x0, x1, x2, x3, x4, x5, (Go.Value.bool Bool.false), t34_12, t35_13, (Go.Value.int Go.IntKind.i64 0), x10, x11, x12, x13, x14, t15_0, t16_2, x0, t18_3, t18_3, (gdV (wt t18_3 false) x0), t21_4, t22_5, t22_5, (gdV (wt t22_5 false) x1), t25_6, t26_7, t26_7, (gdV (wt t26_7 false) x1), t29_8, t30_9, t33_10, x0, t33_10, t34_12, t35_13, t35_13, t37_14, t37_14, (gdV (wt t37_14 false) t34_12), t40_15, t41_16, x42, x43, x44, x45, x46, x47, x48, x49, x50, x51, x52, x53, x54, x55, x56, x57, x58, x59, x60, x61, x62, x63, x64, x65, x66, x67, x68, x69, x70, x71, x72, x73, x74, x75, x76, x77, x78, x79, x80, x81, x82, x83, x84, x85, x86, x87, x88, x89, x90, x91, x92, x93, x94, x95, x96, x97, x98, x99, x100, x101, x102, x103, x104, x105, x106, x107, x108, x109], h11⟩ (blockK 0 (seqK Try.prog (evC Try.prog) c3_2 k))))) := by kernel_rfl
theorem c3_1_eq {β : Type} (x0 x1 x2 x3 x4 x5 x6 x7 x8 x9 x10 x11 x12 x13 x14 x15 x16 x17 x18 x19 x20 x21 x22 x23 x24 x25 x26 x27 x28 x29 x30 x31 x32 x33 x34 x35 x36 x37 x38 x39 x40 x41 x42 x43 x44 x45 x46 x47 x48 x49 x50 x51 x52 x53 x54 x55 x56 x57 x58 x59 x60 x61 x62 x63 x64 x65 x66 x67 x68 x69 x70 x71 x72 x73 x74 x75 x76 x77 x78 x79 x80 x81 x82 x83 x84 x85 x86 x87 x88 x89 x90 x91 x92 x93 x94 x95 x96 x97 x98 x99 x100 x101 x102 x103 x104 x105 x106 x107 x108 x109 : Value) (h : Heap) (k : Ex → St → Option β) : codeK Try.prog (evC Try.prog) loopL c3_1 ⟨#[x0, x1, x2, x3, x4, x5, x6, x7, x8, x9, x10, x11, x12, x13, x14, x15, x16, x17, x18, x19, x20, x21, x22, x23, x24, x25, x26, x27, x28, x29, x30, x31, x32, x33, x34, x35, x36, x37, x38, x39, x40, x41, x42, x43, x44, x45, x46, x47, x48, x49, x50, x51, x52, x53, x54, x55, x56, x57, x58, x59, x60, x61, x62, x63, x64, x65, x66, x67, x68, x69, x70, x71, x72, x73, x74, x75, x76, x77, x78, x79, x80, x81, x82, x83, x84, x85, x86, x87, x88, x89, x90, x91, x92, x93, x94, x95, x96, x97, x98, x99, x100, x101, x102, x103, x104, x105, x106, x107, x108, x109], h⟩ k =
(binV Try.prog .lss 3 (.tmp 42) (.tmp 43) x9 x1).bind fun t44_17 =>
cnd t44_17 (
(binV Try.prog .add 3 (.tmp 49) (.const (Go.Value.int Go.IntKind.i64 1)) x9 (Go.Value.int Go.IntKind.i64 1)).bind fun t50_18 =>
obH (convV Try.prog 3 22 t50_18 h) fun t51_19 h20 =>
obH (buildSliceV Try.prog 31 1 #[(0, (Go.Value.int Go.IntKind.u8 120))] h20) fun t52_21 h22 =>
obH (convV Try.prog 31 31 t52_21 h22) fun t53_23 h24 =>
obH (evC Try.prog 16 #[x7, t51_19, t53_23] h24) fun t54_25 h26 =>
(extractV t54_25 0).bind fun t55_27 =>
(extractV t54_25 1).bind fun t56_28 =>
(unV Try.prog .not t56_28).bind fun t58_29 =>
(gd (wt t58_29 false) (lenV Try.prog 28 (gdV (wt t58_29 false) t55_27) h26)).bind fun t61_30 =>
(gd (wt t58_29 false) (binV Try.prog .neq 3 (.tmp 61) (.const (Go.Value.int Go.IntKind.i64 1)) t61_30 (Go.Value.int Go.IntKind.i64 1))).bind fun t62_31 =>
(pickV t58_29 (Go.Value.bool Bool.true) t62_31).bind fun t63_32 =>
cnd t63_32 (
k .ret ⟨#[x0, x1, x2, x3, x4, x5, (Go.Value.bool Bool.false), x7, x8, x9, t55_27, t56_28, x12, x13, x14, x15, x16, x17, x18, x19, x20, x21, x22, x23, x24, x25, x26, x27, x28, x29, x30, x31, x32, x33, x34, x35, x36, x37, x38, x39, x40, x41, x9, x1, t44_17, x45, x46, t54_25, x7, x9, t50_18, t51_19, t52_21, t53_23, t54_25, t55_27, t56_28, t56_28, t58_29, t58_29, (gdV (wt t58_29 false) t55_27), t61_30, t62_31, t63_32, x64, x65, x66, x67, x68, x69, x70, x71, x72, x73, x74, x75, x76, x77, x78, x79, x80, x81, x82, x83, x84, x85, x86, x87, x88, x89, x90, x91, x92, x93, x94, x95, x96, x97, x98, x99, x100, x101, x102, x103, x104, x105, x106, x107, x108, x109], h26⟩) (
(binV Try.prog .add 3 (.tmp 45) (.const (Go.Value.int Go.IntKind.i64 1)) x9 (Go.Value.int Go.IntKind.i64 1)).bind fun t46_33 =>
k .normal ⟨#[x0, x1, x2, x3, x4, x5, x6, x7, x8, t46_33, t55_27, t56_28, x12, x13, x14, x15, x16, x17, x18, x19, x20, x21, x22, x23, x24, x25, x26, x27, x28, x29, x30, x31, x32, x33, x34, x35, x36, x37, x38, x39, x40, x41, x9, x1, t44_17, x9, t46_33, t54_25, x7, x9, t50_18, t51_19, t52_21, t53_23, t54_25, t55_27, t56_28, t56_28, t58_29, t58_29, (gdV (wt t58_29 false) t55_27), t61_30, t62_31, t63_32, x64, x65, x66, x67, x68, x69, x70, x71, x72, x73, x74, x75, x76, x77, x78, x79, x80, x81, x82, x83, x84, x85, x86, x87, x88, x89, x90, x91, x92, x93, x94, x95, x96, x97, x98, x99, x100, x101, x102, x103, x104, x105, x106, x107, x108, x109], h26⟩)) (
k (.exit 0) ⟨#[x0, x1, x2, x3, x4, x5, x6, x7, x8, x9, x10, x11, x12, x13, x14, x15, x16, x17, x18, x19, x20, x21, x22, x23, x24, x25, x26, x27, x28, x29, x30, x31, x32, x33, x34, x35, x36, x37, x38, x39, x40, x41, x9, x1, t44_17, x45, x46, x47, x48, x49, x50, x51, x52, x53, x54, x55, x56, x57, x58, x59, x60, x61, x62, x63, x64, x65, x66, x67, x68, x69, x70, x71, x72, x73, x74, x75, x76, x77, x78, x79, x80, x81, x82, x83, x84, x85, x86, x87, x88, x89, x90, x91, x92, x93, x94, x95, x96, x97, x98, x99, x100, x101, x102, x103, x104, x105, x106, x107, x108, x109], h⟩) := by kernel_rfl
theorem c3_2_eq {β : Type} (x0 x1 x2 x3 x4 x5 x6 x7 x8 x9 x10 x11 x12 x13 x14 x15 x16 x17 x18 x19 x20 x21 x22 x23 x24 x25 x26 x27 x28 x29 x30 x31 x32 x33 x34 x35 x36 x37 x38 x39 x40 x41 x42 x43 x44 x45 x46 x47 x48 x49 x50 x51 x52 x53 x54 x55 x56 x57 x58 x59 x60 x61 x62 x63 x64 x65 x66 x67 x68 x69 x70 x71 x72 x73 x74 x75 x76 x77 x78 x79 x80 x81 x82 x83 x84 x85 x86 x87 x88 x89 x90 x91 x92 x93 x94 x95 x96 x97 x98 x99 x100 x101 x102 x103 x104 x105 x106 x107 x108 x109 : Value) (h : Heap) (k : Ex → St → Option β) : codeK Try.prog (evC Try.prog) loopL c3_2 ⟨#[x0, x1, x2, x3, x4, x5, x6, x7, x8, x9, x10, x11, x12, x13, x14, x15, x16, x17, x18, x19, x20, x21, x22, x23, x24, x25, x26, x27, x28, x29, x30, x31, x32, x33, x34, x35, x36, x37, x38, x39, x40, x41, x42, x43, x44, x45, x46, x47, x48, x49, x50, x51, x52, x53, x54, x55, x56, x57, x58, x59, x60, x61, x62, x63, x64, x65, x66, x67, x68, x69, x70, x71, x72, x73, x74, x75, x76, x77, x78, x79, x80, x81, x82, x83, x84, x85, x86, x87, x88, x89, x90, x91, x92, x93, x94, x95, x96, x97, x98, x99, x100, x101, x102, x103, x104, x105, x106, x107, x108, x109], h⟩ k =
obH (buildSliceV Try.prog 31 1 #[(0, (Go.Value.int Go.IntKind.u8 121))] h) fun t67_34 h35 =>
obH (convV Try.prog 31 31 t67_34 h35) fun t68_36 h37 =>
obH (evC Try.prog 16 #[x7, x2, t68_36] h37) fun t69_38 h39 =>
(extractV t69_38 0).bind fun t70_40 =>
(extractV t69_38 1).bind fun t71_41 =>
obH (convV Try.prog 3 22 x1 h39) fun t74_42 h43 =>
(binV Try.prog .gtr 22 (.tmp 72) (.tmp 74) x2 t74_42).bind fun t75_44 =>
obH (gdH (wt t75_44 true) h43 (convV Try.prog 3 22 (gdV (wt t75_44 true) x1) h43)) fun t79_45 h46 =>
(gd (wt t75_44 true) (binV Try.prog .sub 22 (.tmp 77) (.tmp 79) (gdV (wt t75_44 true) x2) t79_45)).bind fun t80_47 =>
obH (gdH (wt t75_44 true) h46 (convV Try.prog 3 22 (gdV (wt t75_44 true) x0) h46)) fun t82_48 h49 =>
(gd (wt t75_44 true) (binV Try.prog .leq 22 (.tmp 80) (.tmp 82) t80_47 t82_48)).bind fun t83_50 =>
(pickV t75_44 t83_50 (Go.Value.bool Bool.false)).bind fun t84_51 =>
(binV Try.prog .eql 4 (.tmp 85) (.tmp 86) t71_41 t84_51).bind fun t87_52 =>
(gd (wt t87_52 true) (lenV Try.prog 28 (gdV (wt t87_52 true) t70_40) h49)).bind fun t90_53 =>
(gd (wt t87_52 true) (binV Try.prog .eql 3 (.tmp 90) (.const (Go.Value.int Go.IntKind.i64 1)) t90_53 (Go.Value.int Go.IntKind.i64 1))).bind fun t91_54 =>
obH (gdH (wt t87_52 true) h49 (convV Try.prog 3 22 (gdV (wt t87_52 true) x1) h49)) fun t94_55 h56 =>
(gd (wt t87_52 true) (binV Try.prog .add 22 (.tmp 94) (.const (Go.Value.int Go.IntKind.u64 1)) t94_55 (Go.Value.int Go.IntKind.u64 1))).bind fun t95_57 =>
(gd (wt t87_52 true) (binV Try.prog .eql 22 (.tmp 92) (.tmp 95) (gdV (wt t87_52 true) x2) t95_57)).bind fun t96_58 =>
(gd (wt t87_52 true) (binV Try.prog .eql 4 (.tmp 91) (.tmp 96) t91_54 t96_58)).bind fun t97_59 =>
(pickV t87_52 t97_59 (Go.Value.bool Bool.false)).bind fun t98_60 =>
obH (gdH (wt t98_60 true) h56 (evC Try.prog 17 #[(gdV (wt t98_60 true) x7)] h56)) fun t101_61 h62 =>
(gd (wt t98_60 true) (binV Try.prog .add 3 (.tmp 102) (.const (Go.Value.int Go.IntKind.i64 1)) (gdV (wt t98_60 true) x1) (Go.Value.int Go.IntKind.i64 1))).bind fun t103_63 =>
(gd (wt t98_60 true) (lenV Try.prog 28 (gdV (wt t98_60 true) t70_40) h62)).bind fun t105_64 =>
(gd (wt t98_60 true) (binV Try.prog .add 3 (.tmp 103) (.tmp 105) t103_63 t105_64)).bind fun t106_65 =>
obH (gdH (wt t98_60 true) h62 (convV Try.prog 3 22 t106_65 h62)) fun t107_66 h67 =>
(gd (wt t98_60 true) (binV Try.prog .eql 22 (.tmp 101) (.tmp 107) t101_61 t107_66)).bind fun t108_68 =>
(pickV t98_60 t108_68 (Go.Value.bool Bool.false)).bind fun t109_69 =>
k .ret ⟨#[x0, x1, x2, x3, x4, x5, t109_69, x7, x8, x9, x10, x11, t70_40, t71_41, t84_51, x15, x16, x17, x18, x19, x20, x21, x22, x23, x24, x25, x26, x27, x28, x29, x30, x31, x32, x33, x34, x35, x36, x37, x38, x39, x40, x41, x42, x43, x44, x45, x46, x47, x48, x49, x50, x51, x52, x53, x54, x55, x56, x57, x58, x59, x60, x61, x62, x63, t69_38, x7, x2, t67_34, t68_36, t69_38, t70_40, t71_41, x2, x1, t74_42, t75_44, t75_44, (gdV (wt t75_44 true) x2), (gdV (wt t75_44 true) x1), t79_45, t80_47, (gdV (wt t75_44 true) x0), t82_48, t83_50, t84_51, t71_41, t84_51, t87_52, t87_52, (gdV (wt t87_52 true) t70_40), t90_53, t91_54, (gdV (wt t87_52 true) x2), (gdV (wt t87_52 true) x1), t94_55, t95_57, t96_58, t97_59, t98_60, t98_60, (gdV (wt t98_60 true) x7), t101_61, (gdV (wt t98_60 true) x1), t103_63, (gdV (wt t98_60 true) t70_40), t105_64, t106_65, t107_66, t108_68, t109_69], h67⟩ := by kernel_rfl
theorem call3 (x0 x1 x2 : Value) (h : Heap) : evC Try.prog 3 #[x0, x1, x2] h = codeK Try.prog (evC Try.prog) loopL c3_0 ⟨#[x0, x1, x2, undef, undef, undef, undef, undef, undef, undef, undef, undef, undef, undef, undef, undef, undef, undef, undef, undef, undef, undef, undef, undef, undef, undef, undef, undef, undef, undef, undef, undef, undef, undef, undef, undef, undef, undef, undef, undef, undef, undef, undef, undef, undef, undef, undef, undef, undef, undef, undef, undef, undef, undef, undef, undef, undef, undef, undef, undef, undef, undef, undef, undef, undef, undef, undef, undef, undef, undef, undef, undef, undef, undef, undef, undef, undef, undef, undef, undef, undef, undef, undef, undef, undef, undef, undef, undef, undef, undef, undef, undef, undef, undef, undef, undef, undef, undef, undef, undef, undef, undef, undef, undef, undef, undef, undef, undef, undef, undef], nm h⟩ (retK Try.f3 Try.prog h) :=
  (evC_call 3 Try.f3 c3_0 Try.func3 (by kernel_rfl) #[x0, x1, x2] h).trans (by kernel_rfl)
theorem ret3 (x0 x1 x2 x3 x4 x5 x6 x7 x8 x9 x10 x11 x12 x13 x14 x15 x16 x17 x18 x19 x20 x21 x22 x23 x24 x25 x26 x27 x28 x29 x30 x31 x32 x33 x34 x35 x36 x37 x38 x39 x40 x41 x42 x43 x44 x45 x46 x47 x48 x49 x50 x51 x52 x53 x54 x55 x56 x57 x58 x59 x60 x61 x62 x63 x64 x65 x66 x67 x68 x69 x70 x71 x72 x73 x74 x75 x76 x77 x78 x79 x80 x81 x82 x83 x84 x85 x86 x87 x88 x89 x90 x91 x92 x93 x94 x95 x96 x97 x98 x99 x100 x101 x102 x103 x104 x105 x106 x107 x108 x109 : Value) (h0 h : Heap) : retK Try.f3 Try.prog h0 .ret ⟨#[x0, x1, x2, x3, x4, x5, x6, x7, x8, x9, x10, x11, x12, x13, x14, x15, x16, x17, x18, x19, x20, x21, x22, x23, x24, x25, x26, x27, x28, x29, x30, x31, x32, x33, x34, x35, x36, x37, x38, x39, x40, x41, x42, x43, x44, x45, x46, x47, x48, x49, x50, x51, x52, x53, x54, x55, x56, x57, x58, x59, x60, x61, x62, x63, x64, x65, x66, x67, x68, x69, x70, x71, x72, x73, x74, x75, x76, x77, x78, x79, x80, x81, x82, x83, x84, x85, x86, x87, x88, x89, x90, x91, x92, x93, x94, x95, x96, x97, x98, x99, x100, x101, x102, x103, x104, x105, x106, x107, x108, x109], h⟩ = fin h0 (some x6) h := by kernel_rfl
theorem retn3 (x0 x1 x2 x3 x4 x5 x6 x7 x8 x9 x10 x11 x12 x13 x14 x15 x16 x17 x18 x19 x20 x21 x22 x23 x24 x25 x26 x27 x28 x29 x30 x31 x32 x33 x34 x35 x36 x37 x38 x39 x40 x41 x42 x43 x44 x45 x46 x47 x48 x49 x50 x51 x52 x53 x54 x55 x56 x57 x58 x59 x60 x61 x62 x63 x64 x65 x66 x67 x68 x69 x70 x71 x72 x73 x74 x75 x76 x77 x78 x79 x80 x81 x82 x83 x84 x85 x86 x87 x88 x89 x90 x91 x92 x93 x94 x95 x96 x97 x98 x99 x100 x101 x102 x103 x104 x105 x106 x107 x108 x109 : Value) (h0 h : Heap) : retK Try.f3 Try.prog h0 .normal ⟨#[x0, x1, x2, x3, x4, x5, x6, x7, x8, x9, x10, x11, x12, x13, x14, x15, x16, x17, x18, x19, x20, x21, x22, x23, x24, x25, x26, x27, x28, x29, x30, x31, x32, x33, x34, x35, x36, x37, x38, x39, x40, x41, x42, x43, x44, x45, x46, x47, x48, x49, x50, x51, x52, x53, x54, x55, x56, x57, x58, x59, x60, x61, x62, x63, x64, x65, x66, x67, x68, x69, x70, x71, x72, x73, x74, x75, x76, x77, x78, x79, x80, x81, x82, x83, x84, x85, x86, x87, x88, x89, x90, x91, x92, x93, x94, x95, x96, x97, x98, x99, x100, x101, x102, x103, x104, x105, x106, x107, x108, x109], h⟩ = fin h0 (some x6) h := by kernel_rfl
end Go.Am
