/- Printed by a program of this seat (AmP): what the texts of functions come to. Lean checks it. -/
import Derived.Test.YtkiigdhlnfpebaaAm20
import Derived.Test.YtkiigdhlnfpebaaChecked
import Derived.KernelRfl
namespace Go.Am
open Go.Proofs
set_option maxRecDepth 100000
noncomputable def c4_0 : Code := bodyC Try.f4 []
theorem c4_0_eq {β : Type} (x0 x1 x2 x3 x4 x5 x6 x7 x8 x9 x10 x11 x12 x13 x14 x15 x16 x17 x18 x19 x20 x21 x22 x23 x24 x25 x26 x27 x28 x29 x30 x31 x32 x33 x34 x35 : Value) (h : Heap) (k : Ex → St → Option β) : codeK Try.prog (evC Try.prog) loopL c4_0 ⟨#[x0, x1, x2, x3, x4, x5, x6, x7, x8, x9, x10, x11, x12, x13, x14, x15, x16, x17, x18, x19, x20, x21, x22, x23, x24, x25, x26, x27, x28, x29, x30, x31, x32, x33, x34, x35], h⟩ k =
obH (evC Try.prog 18 #[] h) fun t4_0 h1 =>
(unV Try.prog .not t4_0).bind fun t5_2 =>
cnd t5_2 (
k .ret ⟨#[x0, x1, (Go.Value.bool Bool.false), x3, t4_0, t5_2, x6, x7, x8, x9, x10, x11, x12, x13, x14, x15, x16, x17, x18, x19, x20, x21, x22, x23, x24, x25, x26, x27, x28, x29, x30, x31, x32, x33, x34, x35], h1⟩) (
obH (evC Try.prog 19 #[x0] h1) fun t7_3 h4 =>
(binV Try.prog .lss 3 (.tmp 8) (.const (Go.Value.int Go.IntKind.i64 1)) t7_3 (Go.Value.int Go.IntKind.i64 1)).bind fun t9_5 =>
(gd (wt t9_5 false) (binV Try.prog .gtr 3 (.tmp 11) (.const (Go.Value.int Go.IntKind.i64 10)) (gdV (wt t9_5 false) t7_3) (Go.Value.int Go.IntKind.i64 10))).bind fun t12_6 =>
(pickV t9_5 (Go.Value.bool Bool.true) t12_6).bind fun t13_7 =>
obH (gdH (wt t13_7 false) h4 (evC Try.prog 20 #[(Go.Value.slice Option.none 0 0), (gdV (wt t13_7 false) x0)] h4)) fun t16_8 h9 =>
(gd (wt t13_7 false) (lenV Try.prog 31 t16_8 h9)).bind fun t17_10 =>
(gd (wt t13_7 false) (binV Try.prog .neq 3 (.tmp 17) (.tmp 18) t17_10 (gdV (wt t13_7 false) t7_3))).bind fun t19_11 =>
(pickV t13_7 (Go.Value.bool Bool.true) t19_11).bind fun t20_12 =>
cnd t20_12 (
k .ret ⟨#[x0, x1, (Go.Value.bool Bool.false), t7_3, t4_0, t5_2, x0, t7_3, t7_3, t9_5, t9_5, (gdV (wt t9_5 false) t7_3), t12_6, t13_7, t13_7, (gdV (wt t13_7 false) x0), t16_8, t17_10, (gdV (wt t13_7 false) t7_3), t19_11, t20_12, x21, x22, x23, x24, x25, x26, x27, x28, x29, x30, x31, x32, x33, x34, x35], h9⟩) (
(binV Try.prog .geq 22 (.tmp 21) (.const (Go.Value.int Go.IntKind.u64 144115188075855872)) x0 (Go.Value.int Go.IntKind.u64 144115188075855872)).bind fun t22_13 =>
cnd t22_13 (
(binV Try.prog .geq 3 (.tmp 23) (.const (Go.Value.int Go.IntKind.i64 9)) t7_3 (Go.Value.int Go.IntKind.i64 9)).bind fun t24_14 =>
k .ret ⟨#[x0, x1, t24_14, t7_3, t4_0, t5_2, x0, t7_3, t7_3, t9_5, t9_5, (gdV (wt t9_5 false) t7_3), t12_6, t13_7, t13_7, (gdV (wt t13_7 false) x0), t16_8, t17_10, (gdV (wt t13_7 false) t7_3), t19_11, t20_12, x0, t22_13, t7_3, t24_14, x25, x26, x27, x28, x29, x30, x31, x32, x33, x34, x35], h9⟩) (
(binV Try.prog .shl 22 (.tmp 25) (.const (Go.Value.int Go.IntKind.u64 7)) x0 (Go.Value.int Go.IntKind.u64 7)).bind fun t26_15 =>
(binV Try.prog .or 22 (.tmp 26) (.const (Go.Value.int Go.IntKind.u64 5)) t26_15 (Go.Value.int Go.IntKind.u64 5)).bind fun t27_16 =>
obH (evC Try.prog 19 #[t27_16] h9) fun t28_17 h18 =>
(binV Try.prog .add 3 (.tmp 29) (.const (Go.Value.int Go.IntKind.i64 1)) t7_3 (Go.Value.int Go.IntKind.i64 1)).bind fun t30_19 =>
(binV Try.prog .eql 3 (.tmp 28) (.tmp 30) t28_17 t30_19).bind fun t31_20 =>
(gd (wt t31_20 false) (binV Try.prog .eql 22 (.tmp 33) (.const (Go.Value.int Go.IntKind.u64 0)) (gdV (wt t31_20 false) x0) (Go.Value.int Go.IntKind.u64 0))).bind fun t34_21 =>
(pickV t31_20 (Go.Value.bool Bool.true) t34_21).bind fun t35_22 =>
k .ret ⟨#[x0, x1, t35_22, t7_3, t4_0, t5_2, x0, t7_3, t7_3, t9_5, t9_5, (gdV (wt t9_5 false) t7_3), t12_6, t13_7, t13_7, (gdV (wt t13_7 false) x0), t16_8, t17_10, (gdV (wt t13_7 false) t7_3), t19_11, t20_12, x0, t22_13, x23, x24, x0, t26_15, t27_16, t28_17, t7_3, t30_19, t31_20, t31_20, (gdV (wt t31_20 false) x0), t34_21, t35_22], h18⟩))) := by kernel_rfl
theorem call4 (x0 : Value) (h : Heap) : evC Try.prog 4 #[x0] h = codeK Try.prog (evC Try.prog) loopL c4_0 ⟨#[x0, undef, undef, undef, undef, undef, undef, undef, undef, undef, undef, undef, undef, undef, undef, undef, undef, undef, undef, undef, undef, undef, undef, undef, undef, undef, undef, undef, undef, undef, undef, undef, undef, undef, undef, undef], nm h⟩ (retK Try.f4 Try.prog h) :=
  (evC_call 4 Try.f4 c4_0 Try.func4 (by kernel_rfl) #[x0] h).trans (by kernel_rfl)
theorem ret4 (x0 x1 x2 x3 x4 x5 x6 x7 x8 x9 x10 x11 x12 x13 x14 x15 x16 x17 x18 x19 x20 x21 x22 x23 x24 x25 x26 x27 x28 x29 x30 x31 x32 x33 x34 x35 : Value) (h0 h : Heap) : retK Try.f4 Try.prog h0 .ret ⟨#[x0, x1, x2, x3, x4, x5, x6, x7, x8, x9, x10, x11, x12, x13, x14, x15, x16, x17, x18, x19, x20, x21, x22, x23, x24, x25, x26, x27, x28, x29, x30, x31, x32, x33, x34, x35], h⟩ = fin h0 (some x2) h := by kernel_rfl
theorem retn4 (x0 x1 x2 x3 x4 x5 x6 x7 x8 x9 x10 x11 x12 x13 x14 x15 x16 x17 x18 x19 x20 x21 x22 x23 x24 x25 x26 x27 x28 x29 x30 x31 x32 x33 x34 x35 : Value) (h0 h : Heap) : retK Try.f4 Try.prog h0 .normal ⟨#[x0, x1, x2, x3, x4, x5, x6, x7, x8, x9, x10, x11, x12, x13, x14, x15, x16, x17, x18, x19, x20, x21, x22, x23, x24, x25, x26, x27, x28, x29, x30, x31, x32, x33, x34, x35], h⟩ = fin h0 (some x2) h := by kernel_rfl
end Go.Am
