/- Printed by a program of this seat (AmP): what the texts of functions come to. Lean checks it. -/
import Derived.Test.YtkiigdhlnfpebaaAm20
import Derived.Test.YtkiigdhlnfpebaaChecked
import Derived.KernelRfl
namespace Go.Am
open Go.Proofs
set_option maxRecDepth 100000
noncomputable def c18_0 : Code := bodyC Try.f18 []
theorem c18_0_eq {β : Type} (x0 x1 x2 x3 x4 x5 x6 x7 x8 x9 x10 x11 x12 x13 x14 x15 x16 x17 x18 x19 x20 x21 x22 x23 x24 x25 x26 x27 x28 x29 x30 x31 x32 x33 x34 x35 x36 : Value) (h : Heap) (k : Ex → St → Option β) : codeK Try.prog (evC Try.prog) loopL c18_0 ⟨#[x0, x1, x2, x3, x4, x5, x6, x7, x8, x9, x10, x11, x12, x13, x14, x15, x16, x17, x18, x19, x20, x21, x22, x23, x24, x25, x26, x27, x28, x29, x30, x31, x32, x33, x34, x35, x36], h⟩ k =
obH (evC Try.prog 20 #[(Go.Value.slice Option.none 0 0), (Go.Value.int Go.IntKind.u64 300)] h) fun t4_0 h1 =>
obH (evC Try.prog 21 #[t4_0] h1) fun t7_2 h3 =>
(extractV t7_2 0).bind fun t8_4 =>
(extractV t7_2 1).bind fun t9_5 =>
(lenV Try.prog 31 t4_0 h3).bind fun t11_6 =>
(binV Try.prog .eql 3 (.tmp 11) (.const (Go.Value.int Go.IntKind.i64 2)) t11_6 (Go.Value.int Go.IntKind.i64 2)).bind fun t12_7 =>
(gd (wt t12_7 true) (indexAddrV Try.prog 31 (gdV (wt t12_7 true) t4_0) (Go.Value.int Go.IntKind.i64 0))).bind fun t15_8 =>
(gd (wt t12_7 true) (loadV Try.prog 5 t15_8 h3)).bind fun t16_9 =>
(gd (wt t12_7 true) (binV Try.prog .eql 5 (.tmp 16) (.const (Go.Value.int Go.IntKind.u8 172)) t16_9 (Go.Value.int Go.IntKind.u8 172))).bind fun t17_10 =>
(pickV t12_7 t17_10 (Go.Value.bool Bool.false)).bind fun t18_11 =>
(gd (wt t18_11 true) (indexAddrV Try.prog 31 (gdV (wt t18_11 true) t4_0) (Go.Value.int Go.IntKind.i64 1))).bind fun t21_12 =>
(gd (wt t18_11 true) (loadV Try.prog 5 t21_12 h3)).bind fun t22_13 =>
(gd (wt t18_11 true) (binV Try.prog .eql 5 (.tmp 22) (.const (Go.Value.int Go.IntKind.u8 2)) t22_13 (Go.Value.int Go.IntKind.u8 2))).bind fun t23_14 =>
(pickV t18_11 t23_14 (Go.Value.bool Bool.false)).bind fun t24_15 =>
(gd (wt t24_15 true) (binV Try.prog .eql 22 (.tmp 26) (.const (Go.Value.int Go.IntKind.u64 300)) (gdV (wt t24_15 true) t8_4) (Go.Value.int Go.IntKind.u64 300))).bind fun t27_16 =>
(pickV t24_15 t27_16 (Go.Value.bool Bool.false)).bind fun t28_17 =>
(gd (wt t28_17 true) (binV Try.prog .eql 3 (.tmp 30) (.const (Go.Value.int Go.IntKind.i64 2)) (gdV (wt t28_17 true) t9_5) (Go.Value.int Go.IntKind.i64 2))).bind fun t31_18 =>
(pickV t28_17 t31_18 (Go.Value.bool Bool.false)).bind fun t32_19 =>
obH (gdH (wt t32_19 true) h3 (evC Try.prog 19 #[(Go.Value.int Go.IntKind.u64 300)] h3)) fun t34_20 h21 =>
(gd (wt t32_19 true) (binV Try.prog .eql 3 (.tmp 34) (.const (Go.Value.int Go.IntKind.i64 2)) t34_20 (Go.Value.int Go.IntKind.i64 2))).bind fun t35_22 =>
(pickV t32_19 t35_22 (Go.Value.bool Bool.false)).bind fun t36_23 =>
k .ret ⟨#[t36_23, t4_0, t8_4, t9_5, t4_0, t7_2, t4_0, t7_2, t8_4, t9_5, t4_0, t11_6, t12_7, t12_7, (gdV (wt t12_7 true) t4_0), t15_8, t16_9, t17_10, t18_11, t18_11, (gdV (wt t18_11 true) t4_0), t21_12, t22_13, t23_14, t24_15, t24_15, (gdV (wt t24_15 true) t8_4), t27_16, t28_17, t28_17, (gdV (wt t28_17 true) t9_5), t31_18, t32_19, t32_19, t34_20, t35_22, t36_23], h21⟩ := by kernel_rfl
theorem call18 (h : Heap) : evC Try.prog 18 #[] h = codeK Try.prog (evC Try.prog) loopL c18_0 ⟨#[undef, undef, undef, undef, undef, undef, undef, undef, undef, undef, undef, undef, undef, undef, undef, undef, undef, undef, undef, undef, undef, undef, undef, undef, undef, undef, undef, undef, undef, undef, undef, undef, undef, undef, undef, undef, undef], nm h⟩ (retK Try.f18 Try.prog h) :=
  (evC_call 18 Try.f18 c18_0 Try.func18 (by kernel_rfl) #[] h).trans (by kernel_rfl)
theorem ret18 (x0 x1 x2 x3 x4 x5 x6 x7 x8 x9 x10 x11 x12 x13 x14 x15 x16 x17 x18 x19 x20 x21 x22 x23 x24 x25 x26 x27 x28 x29 x30 x31 x32 x33 x34 x35 x36 : Value) (h0 h : Heap) : retK Try.f18 Try.prog h0 .ret ⟨#[x0, x1, x2, x3, x4, x5, x6, x7, x8, x9, x10, x11, x12, x13, x14, x15, x16, x17, x18, x19, x20, x21, x22, x23, x24, x25, x26, x27, x28, x29, x30, x31, x32, x33, x34, x35, x36], h⟩ = fin h0 (some x0) h := by kernel_rfl
theorem retn18 (x0 x1 x2 x3 x4 x5 x6 x7 x8 x9 x10 x11 x12 x13 x14 x15 x16 x17 x18 x19 x20 x21 x22 x23 x24 x25 x26 x27 x28 x29 x30 x31 x32 x33 x34 x35 x36 : Value) (h0 h : Heap) : retK Try.f18 Try.prog h0 .normal ⟨#[x0, x1, x2, x3, x4, x5, x6, x7, x8, x9, x10, x11, x12, x13, x14, x15, x16, x17, x18, x19, x20, x21, x22, x23, x24, x25, x26, x27, x28, x29, x30, x31, x32, x33, x34, x35, x36], h⟩ = fin h0 (some x0) h := by kernel_rfl
end Go.Am
