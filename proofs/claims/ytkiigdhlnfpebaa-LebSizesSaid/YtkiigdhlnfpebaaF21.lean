/- Printed by a program of this seat (AmP): what the texts of functions come to. Lean checks it. -/
import Derived.Test.YtkiigdhlnfpebaaAm20
import Derived.Test.YtkiigdhlnfpebaaChecked
import Derived.KernelRfl
namespace Go.Am
open Go.Proofs
set_option maxRecDepth 100000
noncomputable def c21_0 : Code := bodyC Try.f21 []
noncomputable def c21_1 : Code := bodyC Try.f21 [true, false, true, false, false]
noncomputable def c21_2 : Code := bodyC Try.f21 [true, true]
theorem c21_0_eq {β : Type} (x0 x1 x2 x3 x4 x5 x6 x7 x8 x9 x10 x11 x12 x13 x14 x15 x16 x17 x18 x19 x20 x21 x22 x23 x24 x25 x26 x27 x28 x29 x30 x31 x32 x33 x34 x35 x36 x37 x38 x39 x40 x41 : Value) (h : Heap) (k : Ex → St → Option β) : codeK Try.prog (evC Try.prog) loopL c21_0 ⟨#[x0, x1, x2, x3, x4, x5, x6, x7, x8, x9, x10, x11, x12, x13, x14, x15, x16, x17, x18, x19, x20, x21, x22, x23, x24, x25, x26, x27, x28, x29, x30, x31, x32, x33, x34, x35, x36, x37, x38, x39, x40, x41], h⟩ k =
(lenV Try.prog 31 x0 h).bind fun t7_0 =>
loopK Try.prog (evC Try.prog) c21_1 ⟨#[x0, x1, (Go.Value.int Go.IntKind.u64 0), (Go.Value.int Go.IntKind.i64 0), x4, x5, x0, t7_0, (Go.Value.int Go.IntKind.i64 0), x9, x10, x11, x12, x13, x14, x15, x16, x17, x18, x19, x20, x21, x22, x23, x24, x25, x26, x27, x28, x29, x30, x31, x32, x33, x34, x35, x36, x37, x38, x39, x40, x41], h⟩ (blockK 0 (seqK Try.prog (evC Try.prog) c21_2 k)) := by kernel_rfl
theorem c21_1_eq {β : Type} (x0 x1 x2 x3 x4 x5 x6 x7 x8 x9 x10 x11 x12 x13 x14 x15 x16 x17 x18 x19 x20 x21 x22 x23 x24 x25 x26 x27 x28 x29 x30 x31 x32 x33 x34 x35 x36 x37 x38 x39 x40 x41 : Value) (h : Heap) (k : Ex → St → Option β) : codeK Try.prog (evC Try.prog) loopL c21_1 ⟨#[x0, x1, x2, x3, x4, x5, x6, x7, x8, x9, x10, x11, x12, x13, x14, x15, x16, x17, x18, x19, x20, x21, x22, x23, x24, x25, x26, x27, x28, x29, x30, x31, x32, x33, x34, x35, x36, x37, x38, x39, x40, x41], h⟩ k =
(binV Try.prog .lss 3 (.tmp 8) (.tmp 7) x8 x7).bind fun t9_1 =>
cnd t9_1 (
(indexAddrV Try.prog 31 x6 x8).bind fun t11_2 =>
(loadV Try.prog 5 t11_2 h).bind fun t12_3 =>
(binV Try.prog .eql 3 (.tmp 13) (.const (Go.Value.int Go.IntKind.i64 10)) x8 (Go.Value.int Go.IntKind.i64 10)).bind fun t14_4 =>
cnd t14_4 (
k (.exit 0) ⟨#[x0, x1, x2, x3, x8, t12_3, x6, x7, x8, t9_1, x8, t11_2, t12_3, x8, t14_4, x15, x16, x17, x18, x19, x20, x21, x22, x23, x24, x25, x26, x27, x28, x29, x30, x31, x32, x33, x34, x35, x36, x37, x38, x39, x40, x41], h⟩) (
(binV Try.prog .and 5 (.tmp 16) (.const (Go.Value.int Go.IntKind.u8 127)) t12_3 (Go.Value.int Go.IntKind.u8 127)).bind fun t17_5 =>
obH (convV Try.prog 5 22 t17_5 h) fun t18_6 h7 =>
(binV Try.prog .mul 3 (.const (Go.Value.int Go.IntKind.i64 7)) (.tmp 19) (Go.Value.int Go.IntKind.i64 7) x8).bind fun t20_8 =>
(binV Try.prog .shl 22 (.tmp 18) (.tmp 20) t18_6 t20_8).bind fun t21_9 =>
(binV Try.prog .or 22 (.tmp 15) (.tmp 21) x2 t21_9).bind fun t22_10 =>
(binV Try.prog .lss 5 (.tmp 23) (.const (Go.Value.int Go.IntKind.u8 128)) t12_3 (Go.Value.int Go.IntKind.u8 128)).bind fun t24_11 =>
cnd t24_11 (
obH (evC Try.prog 19 #[t22_10] h7) fun t26_12 h13 =>
(binV Try.prog .add 3 (.tmp 27) (.const (Go.Value.int Go.IntKind.i64 1)) x8 (Go.Value.int Go.IntKind.i64 1)).bind fun t28_14 =>
(binV Try.prog .neq 3 (.tmp 26) (.tmp 28) t26_12 t28_14).bind fun t29_15 =>
(gd (wt t29_15 false) (binV Try.prog .eql 3 (.tmp 31) (.const (Go.Value.int Go.IntKind.i64 9)) (gdV (wt t29_15 false) x8) (Go.Value.int Go.IntKind.i64 9))).bind fun t32_16 =>
(gd (wt (gdV (wt t29_15 false) t32_16) true) (binV Try.prog .gtr 5 (.tmp 34) (.const (Go.Value.int Go.IntKind.u8 1)) (gdV (wt (gdV (wt t29_15 false) t32_16) true) t12_3) (Go.Value.int Go.IntKind.u8 1))).bind fun t35_17 =>
(gd (wt t29_15 false) (pickV (gdV (wt t29_15 false) t32_16) t35_17 (Go.Value.bool Bool.false))).bind fun t36_18 =>
(pickV t29_15 (Go.Value.bool Bool.true) t36_18).bind fun t37_19 =>
cnd t37_19 (
k (.exit 0) ⟨#[x0, x1, t22_10, x3, x8, t12_3, x6, x7, x8, t9_1, x8, t11_2, t12_3, x8, t14_4, x2, t12_3, t17_5, t18_6, x8, t20_8, t21_9, t22_10, t12_3, t24_11, t22_10, t26_12, x8, t28_14, t29_15, t29_15, (gdV (wt t29_15 false) x8), t32_16, (gdV (wt t29_15 false) t32_16), (gdV (wt (gdV (wt t29_15 false) t32_16) true) t12_3), t35_17, t36_18, t37_19, x38, x39, x40, x41], h13⟩) (
(binV Try.prog .add 3 (.tmp 39) (.const (Go.Value.int Go.IntKind.i64 1)) x8 (Go.Value.int Go.IntKind.i64 1)).bind fun t40_20 =>
k .ret ⟨#[x0, x1, t22_10, t40_20, x8, t12_3, x6, x7, x8, t9_1, x8, t11_2, t12_3, x8, t14_4, x2, t12_3, t17_5, t18_6, x8, t20_8, t21_9, t22_10, t12_3, t24_11, t22_10, t26_12, x8, t28_14, t29_15, t29_15, (gdV (wt t29_15 false) x8), t32_16, (gdV (wt t29_15 false) t32_16), (gdV (wt (gdV (wt t29_15 false) t32_16) true) t12_3), t35_17, t36_18, t37_19, t22_10, x8, t40_20, x41], h13⟩)) (
(binV Try.prog .add 3 (.tmp 8) (.const (Go.Value.int Go.IntKind.i64 1)) x8 (Go.Value.int Go.IntKind.i64 1)).bind fun t41_21 =>
k .normal ⟨#[x0, x1, t22_10, x3, x8, t12_3, x6, x7, t41_21, t9_1, x8, t11_2, t12_3, x8, t14_4, x2, t12_3, t17_5, t18_6, x8, t20_8, t21_9, t22_10, t12_3, t24_11, x25, x26, x27, x28, x29, x30, x31, x32, x33, x34, x35, x36, x37, x38, x39, x40, t41_21], h7⟩))) (
k (.exit 0) ⟨#[x0, x1, x2, x3, x4, x5, x6, x7, x8, t9_1, x10, x11, x12, x13, x14, x15, x16, x17, x18, x19, x20, x21, x22, x23, x24, x25, x26, x27, x28, x29, x30, x31, x32, x33, x34, x35, x36, x37, x38, x39, x40, x41], h⟩) := by kernel_rfl
theorem c21_2_eq {β : Type} (x0 x1 x2 x3 x4 x5 x6 x7 x8 x9 x10 x11 x12 x13 x14 x15 x16 x17 x18 x19 x20 x21 x22 x23 x24 x25 x26 x27 x28 x29 x30 x31 x32 x33 x34 x35 x36 x37 x38 x39 x40 x41 : Value) (h : Heap) (k : Ex → St → Option β) : codeK Try.prog (evC Try.prog) loopL c21_2 ⟨#[x0, x1, x2, x3, x4, x5, x6, x7, x8, x9, x10, x11, x12, x13, x14, x15, x16, x17, x18, x19, x20, x21, x22, x23, x24, x25, x26, x27, x28, x29, x30, x31, x32, x33, x34, x35, x36, x37, x38, x39, x40, x41], h⟩ k =
k .ret ⟨#[x0, x1, (Go.Value.int Go.IntKind.u64 0), (Go.Value.int Go.IntKind.i64 0), x4, x5, x6, x7, x8, x9, x10, x11, x12, x13, x14, x15, x16, x17, x18, x19, x20, x21, x22, x23, x24, x25, x26, x27, x28, x29, x30, x31, x32, x33, x34, x35, x36, x37, x38, x39, x40, x41], h⟩ := by kernel_rfl
theorem call21 (x0 : Value) (h : Heap) : evC Try.prog 21 #[x0] h = codeK Try.prog (evC Try.prog) loopL c21_0 ⟨#[x0, undef, undef, undef, undef, undef, undef, undef, undef, undef, undef, undef, undef, undef, undef, undef, undef, undef, undef, undef, undef, undef, undef, undef, undef, undef, undef, undef, undef, undef, undef, undef, undef, undef, undef, undef, undef, undef, undef, undef, undef, undef], nm h⟩ (retK Try.f21 Try.prog h) :=
  (evC_call 21 Try.f21 c21_0 Try.func21 (by kernel_rfl) #[x0] h).trans (by kernel_rfl)
theorem ret21 (x0 x1 x2 x3 x4 x5 x6 x7 x8 x9 x10 x11 x12 x13 x14 x15 x16 x17 x18 x19 x20 x21 x22 x23 x24 x25 x26 x27 x28 x29 x30 x31 x32 x33 x34 x35 x36 x37 x38 x39 x40 x41 : Value) (h0 h : Heap) : retK Try.f21 Try.prog h0 .ret ⟨#[x0, x1, x2, x3, x4, x5, x6, x7, x8, x9, x10, x11, x12, x13, x14, x15, x16, x17, x18, x19, x20, x21, x22, x23, x24, x25, x26, x27, x28, x29, x30, x31, x32, x33, x34, x35, x36, x37, x38, x39, x40, x41], h⟩ = fin h0 (some (.tuple #[x2, x3])) h := by kernel_rfl
theorem retn21 (x0 x1 x2 x3 x4 x5 x6 x7 x8 x9 x10 x11 x12 x13 x14 x15 x16 x17 x18 x19 x20 x21 x22 x23 x24 x25 x26 x27 x28 x29 x30 x31 x32 x33 x34 x35 x36 x37 x38 x39 x40 x41 : Value) (h0 h : Heap) : retK Try.f21 Try.prog h0 .normal ⟨#[x0, x1, x2, x3, x4, x5, x6, x7, x8, x9, x10, x11, x12, x13, x14, x15, x16, x17, x18, x19, x20, x21, x22, x23, x24, x25, x26, x27, x28, x29, x30, x31, x32, x33, x34, x35, x36, x37, x38, x39, x40, x41], h⟩ = fin h0 (some (.tuple #[x2, x3])) h := by kernel_rfl
end Go.Am
