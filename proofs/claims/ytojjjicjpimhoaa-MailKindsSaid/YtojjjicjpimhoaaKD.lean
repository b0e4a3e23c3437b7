/- What the texts of functions come to in the machine (printed by a program of this seat; Lean checks it). -/
import Derived.Test.YtojjjicjpimhoaaKC
import Derived.Test.YtojjjicjpimhoaaChecked
import Derived.KernelRfl
set_option linter.all false
namespace Go.Am
open Go.Proofs
set_option maxRecDepth 100000
noncomputable def c113_0 : Code := bodyC Try.f113 []
theorem c113_0_eq {β : Type} (x0 x1 x2 x3 x4 x5 x6 x7 x8 x9 x10 x11 x12 x13 x14 x15 x16 x17 x18 x19 x20 x21 x22 x23 x24 x25 x26 x27 x28 x29 x30 x31 x32 x33 x34 x35 x36 x37 x38 x39 x40 x41 x42 x43 : Value) (h : Heap) (k : Ex → St → Option β) : codeK Try.prog (evC Try.prog) loopL c113_0 ⟨#[x0, x1, x2, x3, x4, x5, x6, x7, x8, x9, x10, x11, x12, x13, x14, x15, x16, x17, x18, x19, x20, x21, x22, x23, x24, x25, x26, x27, x28, x29, x30, x31, x32, x33, x34, x35, x36, x37, x38, x39, x40, x41, x42, x43], h⟩ k =
obH (boxV Try.prog 104 x0 h) fun t1_0 h1 =>
(fieldAddrV Try.prog 104 t1_0 3).bind fun t3_2 =>
(loadV Try.prog 3 t3_2 h1).bind fun t4_3 =>
(binV Try.prog .eql 3 (.tmp 4) (.const (Go.Value.int Go.IntKind.i64 1)) t4_3 (Go.Value.int Go.IntKind.i64 1)).bind fun t6_4 =>
cnd t6_4 (
(fieldAddrV Try.prog 104 t1_0 6).bind fun t7_5 =>
(loadV Try.prog 3 t7_5 h1).bind fun t8_6 =>
(fieldAddrV Try.prog 104 t1_0 0).bind fun t9_7 =>
(loadV Try.prog 3 t9_7 h1).bind fun t10_8 =>
(binV Try.prog .eql 3 (.tmp 8) (.tmp 10) t8_6 t10_8).bind fun t11_9 =>
(gd (wt t11_9 true) (fieldAddrV Try.prog 104 t1_0 7)).bind fun t13_10 =>
(gd (wt t11_9 true) (loadV Try.prog 46 t13_10 h1)).bind fun t14_11 =>
(gd (wt t11_9 true) (binV Try.prog .gtr 46 (.tmp 14) (.const (Go.Value.int Go.IntKind.u64 0)) t14_11 (Go.Value.int Go.IntKind.u64 0))).bind fun t15_12 =>
(pickV t11_9 t15_12 (Go.Value.bool Bool.false)).bind fun t16_13 =>
k .ret ⟨#[x0, t1_0, t16_13, t3_2, t4_3, t6_4, t6_4, t7_5, t8_6, t9_7, t10_8, t11_9, t11_9, t13_10, t14_11, t15_12, t16_13, x17, x18, x19, x20, x21, x22, x23, x24, x25, x26, x27, x28, x29, x30, x31, x32, x33, x34, x35, x36, x37, x38, x39, x40, x41, x42, x43], h1⟩) (
(binV Try.prog .eql 3 (.tmp 4) (.const (Go.Value.int Go.IntKind.i64 3)) t4_3 (Go.Value.int Go.IntKind.i64 3)).bind fun t18_14 =>
cnd t18_14 (
(fieldAddrV Try.prog 104 t1_0 6).bind fun t19_15 =>
(loadV Try.prog 3 t19_15 h1).bind fun t20_16 =>
obH (evC Try.prog 111 #[t20_16, (Go.Value.int Go.IntKind.i64 (-1)), (Go.Value.int Go.IntKind.i64 15)] h1) fun t21_17 h18 =>
(gd (wt t21_17 true) (fieldAddrV Try.prog 104 t1_0 7)).bind fun t23_19 =>
(gd (wt t21_17 true) (loadV Try.prog 46 t23_19 h18)).bind fun t24_20 =>
(gd (wt t21_17 true) (binV Try.prog .eql 46 (.tmp 24) (.const (Go.Value.int Go.IntKind.u64 0)) t24_20 (Go.Value.int Go.IntKind.u64 0))).bind fun t25_21 =>
(gd (wt t21_17 true) (fieldAddrV Try.prog 104 t1_0 6)).bind fun t26_22 =>
(gd (wt t21_17 true) (loadV Try.prog 3 t26_22 h18)).bind fun t27_23 =>
(gd (wt t21_17 true) (binV Try.prog .eql 3 (.tmp 27) (.const (Go.Value.int Go.IntKind.i64 (-1))) t27_23 (Go.Value.int Go.IntKind.i64 (-1)))).bind fun t28_24 =>
(gd (wt t21_17 true) (binV Try.prog .eql 4 (.tmp 25) (.tmp 28) t25_21 t28_24)).bind fun t29_25 =>
(pickV t21_17 t29_25 (Go.Value.bool Bool.false)).bind fun t30_26 =>
k .ret ⟨#[x0, t1_0, t30_26, t3_2, t4_3, t6_4, t6_4, x7, x8, x9, x10, x11, x12, x13, x14, x15, x16, t18_14, t18_14, t19_15, t20_16, t21_17, t21_17, t23_19, t24_20, t25_21, t26_22, t27_23, t28_24, t29_25, t30_26, x31, x32, x33, x34, x35, x36, x37, x38, x39, x40, x41, x42, x43], h18⟩) (
(fieldAddrV Try.prog 104 t1_0 6).bind fun t31_27 =>
(loadV Try.prog 3 t31_27 h1).bind fun t32_28 =>
(binV Try.prog .eql 3 (.tmp 32) (.const (Go.Value.int Go.IntKind.i64 0)) t32_28 (Go.Value.int Go.IntKind.i64 0)).bind fun t33_29 =>
(gd (wt t33_29 true) (fieldAddrV Try.prog 104 t1_0 7)).bind fun t35_30 =>
(gd (wt t33_29 true) (loadV Try.prog 46 t35_30 h1)).bind fun t36_31 =>
(gd (wt t33_29 true) (binV Try.prog .eql 46 (.tmp 36) (.const (Go.Value.int Go.IntKind.u64 0)) t36_31 (Go.Value.int Go.IntKind.u64 0))).bind fun t37_32 =>
(pickV t33_29 t37_32 (Go.Value.bool Bool.false)).bind fun t38_33 =>
(gd (wt t38_33 true) (fieldAddrV Try.prog 104 t1_0 5)).bind fun t40_34 =>
(gd (wt t38_33 true) (loadV Try.prog 84 t40_34 h1)).bind fun t41_35 =>
obH (gdH (wt t38_33 true) h1 (evC Try.prog 126 #[t41_35, (Go.Value.float Go.FloatKind.f64 0)] h1)) fun t42_36 h37 =>
(pickV t38_33 t42_36 (Go.Value.bool Bool.false)).bind fun t43_38 =>
k .ret ⟨#[x0, t1_0, t43_38, t3_2, t4_3, t6_4, t6_4, x7, x8, x9, x10, x11, x12, x13, x14, x15, x16, t18_14, t18_14, x19, x20, x21, x22, x23, x24, x25, x26, x27, x28, x29, x30, t31_27, t32_28, t33_29, t33_29, t35_30, t36_31, t37_32, t38_33, t38_33, t40_34, t41_35, t42_36, t43_38], h37⟩)) := by kernel_rfl
theorem call113 (x0 : Value) (h : Heap) : evC Try.prog 113 #[x0] h = codeK Try.prog (evC Try.prog) loopL c113_0 ⟨#[x0, undef, undef, undef, undef, undef, undef, undef, undef, undef, undef, undef, undef, undef, undef, undef, undef, undef, undef, undef, undef, undef, undef, undef, undef, undef, undef, undef, undef, undef, undef, undef, undef, undef, undef, undef, undef, undef, undef, undef, undef, undef, undef, undef], nm h⟩ (retK Try.f113 Try.prog h) :=
  (evC_call 113 Try.f113 c113_0 Try.func113 (by kernel_rfl) #[x0] h).trans (by kernel_rfl)
theorem ret113 (x0 x1 x2 x3 x4 x5 x6 x7 x8 x9 x10 x11 x12 x13 x14 x15 x16 x17 x18 x19 x20 x21 x22 x23 x24 x25 x26 x27 x28 x29 x30 x31 x32 x33 x34 x35 x36 x37 x38 x39 x40 x41 x42 x43 : Value) (h0 h : Heap) : retK Try.f113 Try.prog h0 .ret ⟨#[x0, x1, x2, x3, x4, x5, x6, x7, x8, x9, x10, x11, x12, x13, x14, x15, x16, x17, x18, x19, x20, x21, x22, x23, x24, x25, x26, x27, x28, x29, x30, x31, x32, x33, x34, x35, x36, x37, x38, x39, x40, x41, x42, x43], h⟩ = fin h0 (some x2) h := by kernel_rfl
theorem retn113 (x0 x1 x2 x3 x4 x5 x6 x7 x8 x9 x10 x11 x12 x13 x14 x15 x16 x17 x18 x19 x20 x21 x22 x23 x24 x25 x26 x27 x28 x29 x30 x31 x32 x33 x34 x35 x36 x37 x38 x39 x40 x41 x42 x43 : Value) (h0 h : Heap) : retK Try.f113 Try.prog h0 .normal ⟨#[x0, x1, x2, x3, x4, x5, x6, x7, x8, x9, x10, x11, x12, x13, x14, x15, x16, x17, x18, x19, x20, x21, x22, x23, x24, x25, x26, x27, x28, x29, x30, x31, x32, x33, x34, x35, x36, x37, x38, x39, x40, x41, x42, x43], h⟩ = fin h0 (some x2) h := by kernel_rfl
end Go.Am
namespace Go.Am
open Go.Proofs
set_option maxRecDepth 100000
noncomputable def c110_0 : Code := bodyC Try.f110 []
theorem c110_0_eq {β : Type} (x0 x1 x2 x3 x4 x5 x6 x7 x8 : Value) (h : Heap) (k : Ex → St → Option β) : codeK Try.prog (evC Try.prog) loopL c110_0 ⟨#[x0, x1, x2, x3, x4, x5, x6, x7, x8], h⟩ k =
(binV Try.prog .eql 3 (.tmp 3) (.const (Go.Value.int Go.IntKind.i64 1)) x0 (Go.Value.int Go.IntKind.i64 1)).bind fun t4_0 =>
(gd (wt t4_0 false) (binV Try.prog .eql 3 (.tmp 6) (.const (Go.Value.int Go.IntKind.i64 3)) (gdV (wt t4_0 false) x0) (Go.Value.int Go.IntKind.i64 3))).bind fun t7_1 =>
(pickV t4_0 (Go.Value.bool Bool.true) t7_1).bind fun t8_2 =>
k .ret ⟨#[x0, x1, t8_2, x0, t4_0, t4_0, (gdV (wt t4_0 false) x0), t7_1, t8_2], h⟩ := by kernel_rfl
theorem call110 (x0 : Value) (h : Heap) : evC Try.prog 110 #[x0] h = codeK Try.prog (evC Try.prog) loopL c110_0 ⟨#[x0, undef, undef, undef, undef, undef, undef, undef, undef], nm h⟩ (retK Try.f110 Try.prog h) :=
  (evC_call 110 Try.f110 c110_0 Try.func110 (by kernel_rfl) #[x0] h).trans (by kernel_rfl)
theorem ret110 (x0 x1 x2 x3 x4 x5 x6 x7 x8 : Value) (h0 h : Heap) : retK Try.f110 Try.prog h0 .ret ⟨#[x0, x1, x2, x3, x4, x5, x6, x7, x8], h⟩ = fin h0 (some x2) h := by kernel_rfl
theorem retn110 (x0 x1 x2 x3 x4 x5 x6 x7 x8 : Value) (h0 h : Heap) : retK Try.f110 Try.prog h0 .normal ⟨#[x0, x1, x2, x3, x4, x5, x6, x7, x8], h⟩ = fin h0 (some x2) h := by kernel_rfl
end Go.Am
namespace Go.Am
open Go.Proofs
set_option maxRecDepth 100000
noncomputable def c71_0 : Code := bodyC Try.f71 []
noncomputable def c71_1 : Code := bodyC Try.f71 [false]
noncomputable def c71_2 : Code := bodyC Try.f71 [true]
noncomputable def c71_3 : Code := bodyC Try.f71 [true, false]
noncomputable def c71_4 : Code := bodyC Try.f71 [true, true]
noncomputable def d71_0 : Array Oper := opsC (bodyC Try.f71 [true, false, false])
noncomputable def c71_5 : Code := bodyC Try.f71 [true, false, false]
noncomputable def c71_6 : Code := bodyC Try.f71 [true, false, true]
theorem c71_0_eq {β : Type} (x0 x1 x2 x3 x4 x5 x6 x7 x8 x9 x10 x11 x12 x13 x14 x15 x16 x17 x18 x19 x20 x21 x22 x23 x24 x25 x26 x27 x28 x29 x30 x31 x32 x33 x34 x35 x36 x37 x38 x39 x40 x41 x42 x43 x44 x45 x46 x47 x48 x49 x50 x51 x52 x53 x54 x55 x56 x57 x58 x59 x60 x61 x62 x63 x64 x65 x66 : Value) (h : Heap) (k : Ex → St → Option β) : codeK Try.prog (evC Try.prog) loopL c71_0 ⟨#[x0, x1, x2, x3, x4, x5, x6, x7, x8, x9, x10, x11, x12, x13, x14, x15, x16, x17, x18, x19, x20, x21, x22, x23, x24, x25, x26, x27, x28, x29, x30, x31, x32, x33, x34, x35, x36, x37, x38, x39, x40, x41, x42, x43, x44, x45, x46, x47, x48, x49, x50, x51, x52, x53, x54, x55, x56, x57, x58, x59, x60, x61, x62, x63, x64, x65, x66], h⟩ k =
codeK Try.prog (evC Try.prog) loopL c71_1 ⟨#[x0, x1, x2, x3, x4, x5, x6, x7, x8, x9, x10, x11, x12, x13, x14, x15, x16, x17, x18, x19, x20, x21, x22, x23, x24, x25, x26, x27, x28, x29, x30, x31, x32, x33, x34, x35, x36, x37, x38, x39, x40, x41, x42, x43, x44, x45, x46, x47, x48, x49, x50, x51, x52, x53, x54, x55, x56, x57, x58, x59, x60, x61, x62, x63, x64, x65, x66], h⟩ (seqK Try.prog (evC Try.prog) c71_2 k) := codeK_seq _ _ _ _ _ (by kernel_rfl) _ _
theorem c71_1_eq {β : Type} (x0 x1 x2 x3 x4 x5 x6 x7 x8 x9 x10 x11 x12 x13 x14 x15 x16 x17 x18 x19 x20 x21 x22 x23 x24 x25 x26 x27 x28 x29 x30 x31 x32 x33 x34 x35 x36 x37 x38 x39 x40 x41 x42 x43 x44 x45 x46 x47 x48 x49 x50 x51 x52 x53 x54 x55 x56 x57 x58 x59 x60 x61 x62 x63 x64 x65 x66 : Value) (h : Heap) (k : Ex → St → Option β) : codeK Try.prog (evC Try.prog) loopL c71_1 ⟨#[x0, x1, x2, x3, x4, x5, x6, x7, x8, x9, x10, x11, x12, x13, x14, x15, x16, x17, x18, x19, x20, x21, x22, x23, x24, x25, x26, x27, x28, x29, x30, x31, x32, x33, x34, x35, x36, x37, x38, x39, x40, x41, x42, x43, x44, x45, x46, x47, x48, x49, x50, x51, x52, x53, x54, x55, x56, x57, x58, x59, x60, x61, x62, x63, x64, x65, x66], h⟩ k =
obH (boxV Try.prog 104 x0 h) fun t1_0 h1 =>
k .normal ⟨#[x0, t1_0, (Go.Value.bool Bool.false), x3, x4, x5, x6, x7, x8, x9, x10, x11, x12, x13, x14, x15, x16, x17, x18, x19, x20, x21, x22, x23, x24, x25, x26, x27, x28, x29, x30, x31, x32, x33, x34, x35, x36, x37, x38, x39, x40, x41, x42, x43, x44, x45, x46, x47, x48, x49, x50, x51, x52, x53, x54, x55, x56, x57, x58, x59, x60, x61, x62, x63, x64, x65, x66], h1⟩ := by kernel_rfl
theorem c71_2_eq {β : Type} (x0 x1 x2 x3 x4 x5 x6 x7 x8 x9 x10 x11 x12 x13 x14 x15 x16 x17 x18 x19 x20 x21 x22 x23 x24 x25 x26 x27 x28 x29 x30 x31 x32 x33 x34 x35 x36 x37 x38 x39 x40 x41 x42 x43 x44 x45 x46 x47 x48 x49 x50 x51 x52 x53 x54 x55 x56 x57 x58 x59 x60 x61 x62 x63 x64 x65 x66 : Value) (h : Heap) (k : Ex → St → Option β) : codeK Try.prog (evC Try.prog) loopL c71_2 ⟨#[x0, x1, x2, x3, x4, x5, x6, x7, x8, x9, x10, x11, x12, x13, x14, x15, x16, x17, x18, x19, x20, x21, x22, x23, x24, x25, x26, x27, x28, x29, x30, x31, x32, x33, x34, x35, x36, x37, x38, x39, x40, x41, x42, x43, x44, x45, x46, x47, x48, x49, x50, x51, x52, x53, x54, x55, x56, x57, x58, x59, x60, x61, x62, x63, x64, x65, x66], h⟩ k =
codeK Try.prog (evC Try.prog) loopL c71_3 ⟨#[x0, x1, x2, x3, x4, x5, x6, x7, x8, x9, x10, x11, x12, x13, x14, x15, x16, x17, x18, x19, x20, x21, x22, x23, x24, x25, x26, x27, x28, x29, x30, x31, x32, x33, x34, x35, x36, x37, x38, x39, x40, x41, x42, x43, x44, x45, x46, x47, x48, x49, x50, x51, x52, x53, x54, x55, x56, x57, x58, x59, x60, x61, x62, x63, x64, x65, x66], h⟩ (seqK Try.prog (evC Try.prog) c71_4 k) := codeK_seq _ _ _ _ _ (by kernel_rfl) _ _
theorem c71_3_eq {β : Type} (x0 x1 x2 x3 x4 x5 x6 x7 x8 x9 x10 x11 x12 x13 x14 x15 x16 x17 x18 x19 x20 x21 x22 x23 x24 x25 x26 x27 x28 x29 x30 x31 x32 x33 x34 x35 x36 x37 x38 x39 x40 x41 x42 x43 x44 x45 x46 x47 x48 x49 x50 x51 x52 x53 x54 x55 x56 x57 x58 x59 x60 x61 x62 x63 x64 x65 x66 : Value) (h : Heap) (k : Ex → St → Option β) : codeK Try.prog (evC Try.prog) loopL c71_3 ⟨#[x0, x1, x2, x3, x4, x5, x6, x7, x8, x9, x10, x11, x12, x13, x14, x15, x16, x17, x18, x19, x20, x21, x22, x23, x24, x25, x26, x27, x28, x29, x30, x31, x32, x33, x34, x35, x36, x37, x38, x39, x40, x41, x42, x43, x44, x45, x46, x47, x48, x49, x50, x51, x52, x53, x54, x55, x56, x57, x58, x59, x60, x61, x62, x63, x64, x65, x66], h⟩ k =
codeK Try.prog (evC Try.prog) loopL c71_5 ⟨#[x0, x1, x2, x3, x4, x5, x6, x7, x8, x9, x10, x11, x12, x13, x14, x15, x16, x17, x18, x19, x20, x21, x22, x23, x24, x25, x26, x27, x28, x29, x30, x31, x32, x33, x34, x35, x36, x37, x38, x39, x40, x41, x42, x43, x44, x45, x46, x47, x48, x49, x50, x51, x52, x53, x54, x55, x56, x57, x58, x59, x60, x61, x62, x63, x64, x65, x66], h⟩ (seqK Try.prog (evC Try.prog) c71_6 k) := codeK_seq _ _ _ _ _ (by kernel_rfl) _ _
theorem c71_4_eq {β : Type} (x0 x1 x2 x3 x4 x5 x6 x7 x8 x9 x10 x11 x12 x13 x14 x15 x16 x17 x18 x19 x20 x21 x22 x23 x24 x25 x26 x27 x28 x29 x30 x31 x32 x33 x34 x35 x36 x37 x38 x39 x40 x41 x42 x43 x44 x45 x46 x47 x48 x49 x50 x51 x52 x53 x54 x55 x56 x57 x58 x59 x60 x61 x62 x63 x64 x65 x66 : Value) (h : Heap) (k : Ex → St → Option β) : codeK Try.prog (evC Try.prog) loopL c71_4 ⟨#[x0, x1, x2, x3, x4, x5, x6, x7, x8, x9, x10, x11, x12, x13, x14, x15, x16, x17, x18, x19, x20, x21, x22, x23, x24, x25, x26, x27, x28, x29, x30, x31, x32, x33, x34, x35, x36, x37, x38, x39, x40, x41, x42, x43, x44, x45, x46, x47, x48, x49, x50, x51, x52, x53, x54, x55, x56, x57, x58, x59, x60, x61, x62, x63, x64, x65, x66], h⟩ k =
(fieldAddrV Try.prog 104 x1 3).bind fun t31_2 =>
(loadV Try.prog 3 t31_2 h).bind fun t32_3 =>
obH (evC Try.prog 111 #[t32_3, (Go.Value.int Go.IntKind.i64 0), (Go.Value.int Go.IntKind.i64 3)] h) fun t33_4 h5 =>
(unV Try.prog .not t33_4).bind fun t34_6 =>
(gd (wt t34_6 false) (loadV Try.prog 104 x1 h5)).bind fun t36_7 =>
obH (gdH (wt t34_6 false) h5 (evC Try.prog 113 #[t36_7] h5)) fun t37_8 h9 =>
(gd (wt t34_6 false) (unV Try.prog .not t37_8)).bind fun t38_10 =>
(pickV t34_6 (Go.Value.bool Bool.true) t38_10).bind fun t39_11 =>
(gd (wt t39_11 false) (fieldAddrV Try.prog 104 x1 9)).bind fun t41_12 =>
(gd (wt t39_11 false) (loadV Try.prog 23 t41_12 h9)).bind fun t42_13 =>
(gd (wt t39_11 false) (lenV Try.prog 23 t42_13 h9)).bind fun t43_14 =>
(gd (wt t39_11 false) (binV Try.prog .gtr 3 (.tmp 43) (.const (Go.Value.int Go.IntKind.i64 20000)) t43_14 (Go.Value.int Go.IntKind.i64 20000))).bind fun t44_15 =>
(pickV t39_11 (Go.Value.bool Bool.true) t44_15).bind fun t45_16 =>
cnd t45_16 (
k .ret ⟨#[x0, x1, (Go.Value.bool Bool.false), x3, x4, x5, x6, x7, x8, x9, x10, x11, x12, x13, x14, x15, x16, x17, x18, x19, x20, x21, x22, x23, x24, x25, x26, x27, x28, x29, x30, t31_2, t32_3, t33_4, t34_6, t34_6, t36_7, t37_8, t38_10, t39_11, t39_11, t41_12, t42_13, t43_14, t44_15, t45_16, x46, x47, x48, x49, x50, x51, x52, x53, x54, x55, x56, x57, x58, x59, x60, x61, x62, x63, x64, x65, x66], h9⟩) (
(fieldAddrV Try.prog 104 x1 3).bind fun t46_17 =>
(loadV Try.prog 3 t46_17 h9).bind fun t47_18 =>
(binV Try.prog .eql 3 (.tmp 47) (.const (Go.Value.int Go.IntKind.i64 0)) t47_18 (Go.Value.int Go.IntKind.i64 0)).bind fun t48_19 =>
cnd t48_19 (
(fieldAddrV Try.prog 104 x1 8).bind fun t49_20 =>
(loadV Try.prog 23 t49_20 h9).bind fun t50_21 =>
(lenV Try.prog 23 t50_21 h9).bind fun t51_22 =>
(binV Try.prog .leq 3 (.tmp 51) (.const (Go.Value.int Go.IntKind.i64 256)) t51_22 (Go.Value.int Go.IntKind.i64 256)).bind fun t52_23 =>
(gd (wt t52_23 true) (fieldAddrV Try.prog 104 x1 4)).bind fun t54_24 =>
(gd (wt t52_23 true) (loadV Try.prog 3 t54_24 h9)).bind fun t55_25 =>
(gd (wt t52_23 true) (binV Try.prog .eql 3 (.tmp 55) (.const (Go.Value.int Go.IntKind.i64 0)) t55_25 (Go.Value.int Go.IntKind.i64 0))).bind fun t56_26 =>
(pickV t52_23 t56_26 (Go.Value.bool Bool.false)).bind fun t57_27 =>
k .ret ⟨#[x0, x1, t57_27, x3, x4, x5, x6, x7, x8, x9, x10, x11, x12, x13, x14, x15, x16, x17, x18, x19, x20, x21, x22, x23, x24, x25, x26, x27, x28, x29, x30, t31_2, t32_3, t33_4, t34_6, t34_6, t36_7, t37_8, t38_10, t39_11, t39_11, t41_12, t42_13, t43_14, t44_15, t45_16, t46_17, t47_18, t48_19, t49_20, t50_21, t51_22, t52_23, t52_23, t54_24, t55_25, t56_26, t57_27, x58, x59, x60, x61, x62, x63, x64, x65, x66], h9⟩) (
(fieldAddrV Try.prog 104 x1 8).bind fun t58_28 =>
(loadV Try.prog 23 t58_28 h9).bind fun t59_29 =>
(lenV Try.prog 23 t59_29 h9).bind fun t60_30 =>
(binV Try.prog .eql 3 (.tmp 60) (.const (Go.Value.int Go.IntKind.i64 0)) t60_30 (Go.Value.int Go.IntKind.i64 0)).bind fun t61_31 =>
(gd (wt t61_31 true) (fieldAddrV Try.prog 104 x1 4)).bind fun t63_32 =>
(gd (wt t61_31 true) (loadV Try.prog 3 t63_32 h9)).bind fun t64_33 =>
obH (gdH (wt t61_31 true) h9 (evC Try.prog 111 #[t64_33, (Go.Value.int Go.IntKind.i64 0), (Go.Value.int Go.IntKind.i64 15)] h9)) fun t65_34 h35 =>
(pickV t61_31 t65_34 (Go.Value.bool Bool.false)).bind fun t66_36 =>
k .ret ⟨#[x0, x1, t66_36, x3, x4, x5, x6, x7, x8, x9, x10, x11, x12, x13, x14, x15, x16, x17, x18, x19, x20, x21, x22, x23, x24, x25, x26, x27, x28, x29, x30, t31_2, t32_3, t33_4, t34_6, t34_6, t36_7, t37_8, t38_10, t39_11, t39_11, t41_12, t42_13, t43_14, t44_15, t45_16, t46_17, t47_18, t48_19, x49, x50, x51, x52, x53, x54, x55, x56, x57, t58_28, t59_29, t60_30, t61_31, t61_31, t63_32, t64_33, t65_34, t66_36], h35⟩)) := by kernel_rfl
theorem d71_0_0 {β : Type} (x0 x1 x2 x3 x4 x5 x6 x7 x8 x9 x10 x11 x12 x13 x14 x15 x16 x17 x18 x19 x20 x21 x22 x23 x24 x25 x26 x27 x28 x29 x30 x31 x32 x33 x34 x35 x36 x37 x38 x39 x40 x41 x42 x43 x44 x45 x46 x47 x48 x49 x50 x51 x52 x53 x54 x55 x56 x57 x58 x59 x60 x61 x62 x63 x64 x65 x66 : Value) (h : Heap) (r m : List Nat) (k : St → Option β) : regD Try.prog (evC Try.prog) d71_0 0 ⟨#[x0, x1, x2, x3, x4, x5, x6, x7, x8, x9, x10, x11, x12, x13, x14, x15, x16, x17, x18, x19, x20, x21, x22, x23, x24, x25, x26, x27, x28, x29, x30, x31, x32, x33, x34, x35, x36, x37, x38, x39, x40, x41, x42, x43, x44, x45, x46, x47, x48, x49, x50, x51, x52, x53, x54, x55, x56, x57, x58, x59, x60, x61, x62, x63, x64, x65, x66], h⟩ r m k =
(fieldAddrV Try.prog 104 x1 0).bind fun t3_37 =>
regD Try.prog (evC Try.prog) d71_0 1 ⟨#[x0, x1, x2, t3_37, x4, x5, x6, x7, x8, x9, x10, x11, x12, x13, x14, x15, x16, x17, x18, x19, x20, x21, x22, x23, x24, x25, x26, x27, x28, x29, x30, x31, x32, x33, x34, x35, x36, x37, x38, x39, x40, x41, x42, x43, x44, x45, x46, x47, x48, x49, x50, x51, x52, x53, x54, x55, x56, x57, x58, x59, x60, x61, x62, x63, x64, x65, x66], h⟩ r m k := (regD_step _ _ d71_0 0 (by kernel_rfl) _ _ _ _).trans (by kernel_rfl)
theorem d71_0_1 {β : Type} (x0 x1 x2 x3 x4 x5 x6 x7 x8 x9 x10 x11 x12 x13 x14 x15 x16 x17 x18 x19 x20 x21 x22 x23 x24 x25 x26 x27 x28 x29 x30 x31 x32 x33 x34 x35 x36 x37 x38 x39 x40 x41 x42 x43 x44 x45 x46 x47 x48 x49 x50 x51 x52 x53 x54 x55 x56 x57 x58 x59 x60 x61 x62 x63 x64 x65 x66 : Value) (h : Heap) (r m : List Nat) (k : St → Option β) : regD Try.prog (evC Try.prog) d71_0 1 ⟨#[x0, x1, x2, x3, x4, x5, x6, x7, x8, x9, x10, x11, x12, x13, x14, x15, x16, x17, x18, x19, x20, x21, x22, x23, x24, x25, x26, x27, x28, x29, x30, x31, x32, x33, x34, x35, x36, x37, x38, x39, x40, x41, x42, x43, x44, x45, x46, x47, x48, x49, x50, x51, x52, x53, x54, x55, x56, x57, x58, x59, x60, x61, x62, x63, x64, x65, x66], h⟩ r m k =
(loadV Try.prog 3 x3 h).bind fun t4_38 =>
regD Try.prog (evC Try.prog) d71_0 2 ⟨#[x0, x1, x2, x3, t4_38, x5, x6, x7, x8, x9, x10, x11, x12, x13, x14, x15, x16, x17, x18, x19, x20, x21, x22, x23, x24, x25, x26, x27, x28, x29, x30, x31, x32, x33, x34, x35, x36, x37, x38, x39, x40, x41, x42, x43, x44, x45, x46, x47, x48, x49, x50, x51, x52, x53, x54, x55, x56, x57, x58, x59, x60, x61, x62, x63, x64, x65, x66], h⟩ r m k := (regD_step _ _ d71_0 1 (by kernel_rfl) _ _ _ _).trans (by kernel_rfl)
theorem d71_0_2 {β : Type} (x0 x1 x2 x3 x4 x5 x6 x7 x8 x9 x10 x11 x12 x13 x14 x15 x16 x17 x18 x19 x20 x21 x22 x23 x24 x25 x26 x27 x28 x29 x30 x31 x32 x33 x34 x35 x36 x37 x38 x39 x40 x41 x42 x43 x44 x45 x46 x47 x48 x49 x50 x51 x52 x53 x54 x55 x56 x57 x58 x59 x60 x61 x62 x63 x64 x65 x66 : Value) (h : Heap) (r m : List Nat) (k : St → Option β) : regD Try.prog (evC Try.prog) d71_0 2 ⟨#[x0, x1, x2, x3, x4, x5, x6, x7, x8, x9, x10, x11, x12, x13, x14, x15, x16, x17, x18, x19, x20, x21, x22, x23, x24, x25, x26, x27, x28, x29, x30, x31, x32, x33, x34, x35, x36, x37, x38, x39, x40, x41, x42, x43, x44, x45, x46, x47, x48, x49, x50, x51, x52, x53, x54, x55, x56, x57, x58, x59, x60, x61, x62, x63, x64, x65, x66], h⟩ r m k =
obH (evC Try.prog 111 #[x4, (Go.Value.int Go.IntKind.i64 0), (Go.Value.int Go.IntKind.i64 15)] h) fun t5_39 h40 =>
regD Try.prog (evC Try.prog) d71_0 3 ⟨#[x0, x1, x2, x3, x4, t5_39, x6, x7, x8, x9, x10, x11, x12, x13, x14, x15, x16, x17, x18, x19, x20, x21, x22, x23, x24, x25, x26, x27, x28, x29, x30, x31, x32, x33, x34, x35, x36, x37, x38, x39, x40, x41, x42, x43, x44, x45, x46, x47, x48, x49, x50, x51, x52, x53, x54, x55, x56, x57, x58, x59, x60, x61, x62, x63, x64, x65, x66], h40⟩ r m k := (regD_step _ _ d71_0 2 (by kernel_rfl) _ _ _ _).trans (by kernel_rfl)
theorem d71_0_3 {β : Type} (x0 x1 x2 x3 x4 x5 x6 x7 x8 x9 x10 x11 x12 x13 x14 x15 x16 x17 x18 x19 x20 x21 x22 x23 x24 x25 x26 x27 x28 x29 x30 x31 x32 x33 x34 x35 x36 x37 x38 x39 x40 x41 x42 x43 x44 x45 x46 x47 x48 x49 x50 x51 x52 x53 x54 x55 x56 x57 x58 x59 x60 x61 x62 x63 x64 x65 x66 : Value) (h : Heap) (r m : List Nat) (k : St → Option β) : regD Try.prog (evC Try.prog) d71_0 3 ⟨#[x0, x1, x2, x3, x4, x5, x6, x7, x8, x9, x10, x11, x12, x13, x14, x15, x16, x17, x18, x19, x20, x21, x22, x23, x24, x25, x26, x27, x28, x29, x30, x31, x32, x33, x34, x35, x36, x37, x38, x39, x40, x41, x42, x43, x44, x45, x46, x47, x48, x49, x50, x51, x52, x53, x54, x55, x56, x57, x58, x59, x60, x61, x62, x63, x64, x65, x66], h⟩ r m k =
(unV Try.prog .not x5).bind fun t6_41 =>
regD Try.prog (evC Try.prog) d71_0 4 ⟨#[x0, x1, x2, x3, x4, x5, t6_41, x7, x8, x9, x10, x11, x12, x13, x14, x15, x16, x17, x18, x19, x20, x21, x22, x23, x24, x25, x26, x27, x28, x29, x30, x31, x32, x33, x34, x35, x36, x37, x38, x39, x40, x41, x42, x43, x44, x45, x46, x47, x48, x49, x50, x51, x52, x53, x54, x55, x56, x57, x58, x59, x60, x61, x62, x63, x64, x65, x66], h⟩ r m k := (regD_step _ _ d71_0 3 (by kernel_rfl) _ _ _ _).trans (by kernel_rfl)
theorem d71_0_4 {β : Type} (x0 x1 x2 x3 x4 x5 x6 x7 x8 x9 x10 x11 x12 x13 x14 x15 x16 x17 x18 x19 x20 x21 x22 x23 x24 x25 x26 x27 x28 x29 x30 x31 x32 x33 x34 x35 x36 x37 x38 x39 x40 x41 x42 x43 x44 x45 x46 x47 x48 x49 x50 x51 x52 x53 x54 x55 x56 x57 x58 x59 x60 x61 x62 x63 x64 x65 x66 : Value) (h : Heap) (r m : List Nat) (k : St → Option β) : regD Try.prog (evC Try.prog) d71_0 4 ⟨#[x0, x1, x2, x3, x4, x5, x6, x7, x8, x9, x10, x11, x12, x13, x14, x15, x16, x17, x18, x19, x20, x21, x22, x23, x24, x25, x26, x27, x28, x29, x30, x31, x32, x33, x34, x35, x36, x37, x38, x39, x40, x41, x42, x43, x44, x45, x46, x47, x48, x49, x50, x51, x52, x53, x54, x55, x56, x57, x58, x59, x60, x61, x62, x63, x64, x65, x66], h⟩ r m k =
regD Try.prog (evC Try.prog) d71_0 5 ⟨#[x0, x1, x2, x3, x4, x5, x6, x6, x8, x9, x10, x11, x12, x13, x14, x15, x16, x17, x18, x19, x20, x21, x22, x23, x24, x25, x26, x27, x28, x29, x30, x31, x32, x33, x34, x35, x36, x37, x38, x39, x40, x41, x42, x43, x44, x45, x46, x47, x48, x49, x50, x51, x52, x53, x54, x55, x56, x57, x58, x59, x60, x61, x62, x63, x64, x65, x66], h⟩ r m k := regD_move _ _ d71_0 4 (by kernel_rfl) (by kernel_rfl) (by kernel_rfl) _ _ _ _ _ _ (by kernel_rfl) (by kernel_rfl)
theorem d71_0_5 {β : Type} (x0 x1 x2 x3 x4 x5 x6 x7 x8 x9 x10 x11 x12 x13 x14 x15 x16 x17 x18 x19 x20 x21 x22 x23 x24 x25 x26 x27 x28 x29 x30 x31 x32 x33 x34 x35 x36 x37 x38 x39 x40 x41 x42 x43 x44 x45 x46 x47 x48 x49 x50 x51 x52 x53 x54 x55 x56 x57 x58 x59 x60 x61 x62 x63 x64 x65 x66 : Value) (h : Heap) (r m : List Nat) (k : St → Option β) : regD Try.prog (evC Try.prog) d71_0 5 ⟨#[x0, x1, x2, x3, x4, x5, x6, x7, x8, x9, x10, x11, x12, x13, x14, x15, x16, x17, x18, x19, x20, x21, x22, x23, x24, x25, x26, x27, x28, x29, x30, x31, x32, x33, x34, x35, x36, x37, x38, x39, x40, x41, x42, x43, x44, x45, x46, x47, x48, x49, x50, x51, x52, x53, x54, x55, x56, x57, x58, x59, x60, x61, x62, x63, x64, x65, x66], h⟩ r m k =
(gd (wt x7 false) (fieldAddrV Try.prog 104 x1 1)).bind fun t8_42 =>
regD Try.prog (evC Try.prog) d71_0 6 ⟨#[x0, x1, x2, x3, x4, x5, x6, x7, t8_42, x9, x10, x11, x12, x13, x14, x15, x16, x17, x18, x19, x20, x21, x22, x23, x24, x25, x26, x27, x28, x29, x30, x31, x32, x33, x34, x35, x36, x37, x38, x39, x40, x41, x42, x43, x44, x45, x46, x47, x48, x49, x50, x51, x52, x53, x54, x55, x56, x57, x58, x59, x60, x61, x62, x63, x64, x65, x66], h⟩ r m k := (regD_step _ _ d71_0 5 (by kernel_rfl) _ _ _ _).trans (by kernel_rfl)
theorem d71_0_6 {β : Type} (x0 x1 x2 x3 x4 x5 x6 x7 x8 x9 x10 x11 x12 x13 x14 x15 x16 x17 x18 x19 x20 x21 x22 x23 x24 x25 x26 x27 x28 x29 x30 x31 x32 x33 x34 x35 x36 x37 x38 x39 x40 x41 x42 x43 x44 x45 x46 x47 x48 x49 x50 x51 x52 x53 x54 x55 x56 x57 x58 x59 x60 x61 x62 x63 x64 x65 x66 : Value) (h : Heap) (r m : List Nat) (k : St → Option β) : regD Try.prog (evC Try.prog) d71_0 6 ⟨#[x0, x1, x2, x3, x4, x5, x6, x7, x8, x9, x10, x11, x12, x13, x14, x15, x16, x17, x18, x19, x20, x21, x22, x23, x24, x25, x26, x27, x28, x29, x30, x31, x32, x33, x34, x35, x36, x37, x38, x39, x40, x41, x42, x43, x44, x45, x46, x47, x48, x49, x50, x51, x52, x53, x54, x55, x56, x57, x58, x59, x60, x61, x62, x63, x64, x65, x66], h⟩ r m k =
(gd (wt x7 false) (loadV Try.prog 46 x8 h)).bind fun t9_43 =>
regD Try.prog (evC Try.prog) d71_0 7 ⟨#[x0, x1, x2, x3, x4, x5, x6, x7, x8, t9_43, x10, x11, x12, x13, x14, x15, x16, x17, x18, x19, x20, x21, x22, x23, x24, x25, x26, x27, x28, x29, x30, x31, x32, x33, x34, x35, x36, x37, x38, x39, x40, x41, x42, x43, x44, x45, x46, x47, x48, x49, x50, x51, x52, x53, x54, x55, x56, x57, x58, x59, x60, x61, x62, x63, x64, x65, x66], h⟩ r m k := (regD_step _ _ d71_0 6 (by kernel_rfl) _ _ _ _).trans (by kernel_rfl)
theorem d71_0_7 {β : Type} (x0 x1 x2 x3 x4 x5 x6 x7 x8 x9 x10 x11 x12 x13 x14 x15 x16 x17 x18 x19 x20 x21 x22 x23 x24 x25 x26 x27 x28 x29 x30 x31 x32 x33 x34 x35 x36 x37 x38 x39 x40 x41 x42 x43 x44 x45 x46 x47 x48 x49 x50 x51 x52 x53 x54 x55 x56 x57 x58 x59 x60 x61 x62 x63 x64 x65 x66 : Value) (h : Heap) (r m : List Nat) (k : St → Option β) : regD Try.prog (evC Try.prog) d71_0 7 ⟨#[x0, x1, x2, x3, x4, x5, x6, x7, x8, x9, x10, x11, x12, x13, x14, x15, x16, x17, x18, x19, x20, x21, x22, x23, x24, x25, x26, x27, x28, x29, x30, x31, x32, x33, x34, x35, x36, x37, x38, x39, x40, x41, x42, x43, x44, x45, x46, x47, x48, x49, x50, x51, x52, x53, x54, x55, x56, x57, x58, x59, x60, x61, x62, x63, x64, x65, x66], h⟩ r m k =
(gd (wt x7 false) (binV Try.prog .lss 46 (.tmp 9) (.const (Go.Value.int Go.IntKind.u64 1)) x9 (Go.Value.int Go.IntKind.u64 1))).bind fun t10_44 =>
regD Try.prog (evC Try.prog) d71_0 8 ⟨#[x0, x1, x2, x3, x4, x5, x6, x7, x8, x9, t10_44, x11, x12, x13, x14, x15, x16, x17, x18, x19, x20, x21, x22, x23, x24, x25, x26, x27, x28, x29, x30, x31, x32, x33, x34, x35, x36, x37, x38, x39, x40, x41, x42, x43, x44, x45, x46, x47, x48, x49, x50, x51, x52, x53, x54, x55, x56, x57, x58, x59, x60, x61, x62, x63, x64, x65, x66], h⟩ r m k := (regD_step _ _ d71_0 7 (by kernel_rfl) _ _ _ _).trans (by kernel_rfl)
theorem d71_0_8 {β : Type} (x0 x1 x2 x3 x4 x5 x6 x7 x8 x9 x10 x11 x12 x13 x14 x15 x16 x17 x18 x19 x20 x21 x22 x23 x24 x25 x26 x27 x28 x29 x30 x31 x32 x33 x34 x35 x36 x37 x38 x39 x40 x41 x42 x43 x44 x45 x46 x47 x48 x49 x50 x51 x52 x53 x54 x55 x56 x57 x58 x59 x60 x61 x62 x63 x64 x65 x66 : Value) (h : Heap) (r m : List Nat) (k : St → Option β) : regD Try.prog (evC Try.prog) d71_0 8 ⟨#[x0, x1, x2, x3, x4, x5, x6, x7, x8, x9, x10, x11, x12, x13, x14, x15, x16, x17, x18, x19, x20, x21, x22, x23, x24, x25, x26, x27, x28, x29, x30, x31, x32, x33, x34, x35, x36, x37, x38, x39, x40, x41, x42, x43, x44, x45, x46, x47, x48, x49, x50, x51, x52, x53, x54, x55, x56, x57, x58, x59, x60, x61, x62, x63, x64, x65, x66], h⟩ r m k =
(pickV x7 (Go.Value.bool Bool.true) x10).bind fun t11_45 =>
regD Try.prog (evC Try.prog) d71_0 9 ⟨#[x0, x1, x2, x3, x4, x5, x6, x7, x8, x9, x10, t11_45, x12, x13, x14, x15, x16, x17, x18, x19, x20, x21, x22, x23, x24, x25, x26, x27, x28, x29, x30, x31, x32, x33, x34, x35, x36, x37, x38, x39, x40, x41, x42, x43, x44, x45, x46, x47, x48, x49, x50, x51, x52, x53, x54, x55, x56, x57, x58, x59, x60, x61, x62, x63, x64, x65, x66], h⟩ r m k := (regD_step _ _ d71_0 8 (by kernel_rfl) _ _ _ _).trans (by kernel_rfl)
theorem d71_0_9 {β : Type} (x0 x1 x2 x3 x4 x5 x6 x7 x8 x9 x10 x11 x12 x13 x14 x15 x16 x17 x18 x19 x20 x21 x22 x23 x24 x25 x26 x27 x28 x29 x30 x31 x32 x33 x34 x35 x36 x37 x38 x39 x40 x41 x42 x43 x44 x45 x46 x47 x48 x49 x50 x51 x52 x53 x54 x55 x56 x57 x58 x59 x60 x61 x62 x63 x64 x65 x66 : Value) (h : Heap) (r m : List Nat) (k : St → Option β) : regD Try.prog (evC Try.prog) d71_0 9 ⟨#[x0, x1, x2, x3, x4, x5, x6, x7, x8, x9, x10, x11, x12, x13, x14, x15, x16, x17, x18, x19, x20, x21, x22, x23, x24, x25, x26, x27, x28, x29, x30, x31, x32, x33, x34, x35, x36, x37, x38, x39, x40, x41, x42, x43, x44, x45, x46, x47, x48, x49, x50, x51, x52, x53, x54, x55, x56, x57, x58, x59, x60, x61, x62, x63, x64, x65, x66], h⟩ r m k =
regD Try.prog (evC Try.prog) d71_0 10 ⟨#[x0, x1, x2, x3, x4, x5, x6, x7, x8, x9, x10, x11, x11, x13, x14, x15, x16, x17, x18, x19, x20, x21, x22, x23, x24, x25, x26, x27, x28, x29, x30, x31, x32, x33, x34, x35, x36, x37, x38, x39, x40, x41, x42, x43, x44, x45, x46, x47, x48, x49, x50, x51, x52, x53, x54, x55, x56, x57, x58, x59, x60, x61, x62, x63, x64, x65, x66], h⟩ r m k := regD_move _ _ d71_0 9 (by kernel_rfl) (by kernel_rfl) (by kernel_rfl) _ _ _ _ _ _ (by kernel_rfl) (by kernel_rfl)
theorem d71_0_10 {β : Type} (x0 x1 x2 x3 x4 x5 x6 x7 x8 x9 x10 x11 x12 x13 x14 x15 x16 x17 x18 x19 x20 x21 x22 x23 x24 x25 x26 x27 x28 x29 x30 x31 x32 x33 x34 x35 x36 x37 x38 x39 x40 x41 x42 x43 x44 x45 x46 x47 x48 x49 x50 x51 x52 x53 x54 x55 x56 x57 x58 x59 x60 x61 x62 x63 x64 x65 x66 : Value) (h : Heap) (r m : List Nat) (k : St → Option β) : regD Try.prog (evC Try.prog) d71_0 10 ⟨#[x0, x1, x2, x3, x4, x5, x6, x7, x8, x9, x10, x11, x12, x13, x14, x15, x16, x17, x18, x19, x20, x21, x22, x23, x24, x25, x26, x27, x28, x29, x30, x31, x32, x33, x34, x35, x36, x37, x38, x39, x40, x41, x42, x43, x44, x45, x46, x47, x48, x49, x50, x51, x52, x53, x54, x55, x56, x57, x58, x59, x60, x61, x62, x63, x64, x65, x66], h⟩ r m k =
(gd (wt x12 false) (fieldAddrV Try.prog 104 x1 2)).bind fun t13_46 =>
regD Try.prog (evC Try.prog) d71_0 11 ⟨#[x0, x1, x2, x3, x4, x5, x6, x7, x8, x9, x10, x11, x12, t13_46, x14, x15, x16, x17, x18, x19, x20, x21, x22, x23, x24, x25, x26, x27, x28, x29, x30, x31, x32, x33, x34, x35, x36, x37, x38, x39, x40, x41, x42, x43, x44, x45, x46, x47, x48, x49, x50, x51, x52, x53, x54, x55, x56, x57, x58, x59, x60, x61, x62, x63, x64, x65, x66], h⟩ r m k := (regD_step _ _ d71_0 10 (by kernel_rfl) _ _ _ _).trans (by kernel_rfl)
theorem d71_0_11 {β : Type} (x0 x1 x2 x3 x4 x5 x6 x7 x8 x9 x10 x11 x12 x13 x14 x15 x16 x17 x18 x19 x20 x21 x22 x23 x24 x25 x26 x27 x28 x29 x30 x31 x32 x33 x34 x35 x36 x37 x38 x39 x40 x41 x42 x43 x44 x45 x46 x47 x48 x49 x50 x51 x52 x53 x54 x55 x56 x57 x58 x59 x60 x61 x62 x63 x64 x65 x66 : Value) (h : Heap) (r m : List Nat) (k : St → Option β) : regD Try.prog (evC Try.prog) d71_0 11 ⟨#[x0, x1, x2, x3, x4, x5, x6, x7, x8, x9, x10, x11, x12, x13, x14, x15, x16, x17, x18, x19, x20, x21, x22, x23, x24, x25, x26, x27, x28, x29, x30, x31, x32, x33, x34, x35, x36, x37, x38, x39, x40, x41, x42, x43, x44, x45, x46, x47, x48, x49, x50, x51, x52, x53, x54, x55, x56, x57, x58, x59, x60, x61, x62, x63, x64, x65, x66], h⟩ r m k =
(gd (wt x12 false) (loadV Try.prog 47 x13 h)).bind fun t14_47 =>
regD Try.prog (evC Try.prog) d71_0 12 ⟨#[x0, x1, x2, x3, x4, x5, x6, x7, x8, x9, x10, x11, x12, x13, t14_47, x15, x16, x17, x18, x19, x20, x21, x22, x23, x24, x25, x26, x27, x28, x29, x30, x31, x32, x33, x34, x35, x36, x37, x38, x39, x40, x41, x42, x43, x44, x45, x46, x47, x48, x49, x50, x51, x52, x53, x54, x55, x56, x57, x58, x59, x60, x61, x62, x63, x64, x65, x66], h⟩ r m k := (regD_step _ _ d71_0 11 (by kernel_rfl) _ _ _ _).trans (by kernel_rfl)
theorem d71_0_12 {β : Type} (x0 x1 x2 x3 x4 x5 x6 x7 x8 x9 x10 x11 x12 x13 x14 x15 x16 x17 x18 x19 x20 x21 x22 x23 x24 x25 x26 x27 x28 x29 x30 x31 x32 x33 x34 x35 x36 x37 x38 x39 x40 x41 x42 x43 x44 x45 x46 x47 x48 x49 x50 x51 x52 x53 x54 x55 x56 x57 x58 x59 x60 x61 x62 x63 x64 x65 x66 : Value) (h : Heap) (r m : List Nat) (k : St → Option β) : regD Try.prog (evC Try.prog) d71_0 12 ⟨#[x0, x1, x2, x3, x4, x5, x6, x7, x8, x9, x10, x11, x12, x13, x14, x15, x16, x17, x18, x19, x20, x21, x22, x23, x24, x25, x26, x27, x28, x29, x30, x31, x32, x33, x34, x35, x36, x37, x38, x39, x40, x41, x42, x43, x44, x45, x46, x47, x48, x49, x50, x51, x52, x53, x54, x55, x56, x57, x58, x59, x60, x61, x62, x63, x64, x65, x66], h⟩ r m k =
(gd (wt x12 false) (binV Try.prog .eql 47 (.tmp 14) (.const (Go.Value.int Go.IntKind.u64 0)) x14 (Go.Value.int Go.IntKind.u64 0))).bind fun t15_48 =>
regD Try.prog (evC Try.prog) d71_0 13 ⟨#[x0, x1, x2, x3, x4, x5, x6, x7, x8, x9, x10, x11, x12, x13, x14, t15_48, x16, x17, x18, x19, x20, x21, x22, x23, x24, x25, x26, x27, x28, x29, x30, x31, x32, x33, x34, x35, x36, x37, x38, x39, x40, x41, x42, x43, x44, x45, x46, x47, x48, x49, x50, x51, x52, x53, x54, x55, x56, x57, x58, x59, x60, x61, x62, x63, x64, x65, x66], h⟩ r m k := (regD_step _ _ d71_0 12 (by kernel_rfl) _ _ _ _).trans (by kernel_rfl)
theorem d71_0_13 {β : Type} (x0 x1 x2 x3 x4 x5 x6 x7 x8 x9 x10 x11 x12 x13 x14 x15 x16 x17 x18 x19 x20 x21 x22 x23 x24 x25 x26 x27 x28 x29 x30 x31 x32 x33 x34 x35 x36 x37 x38 x39 x40 x41 x42 x43 x44 x45 x46 x47 x48 x49 x50 x51 x52 x53 x54 x55 x56 x57 x58 x59 x60 x61 x62 x63 x64 x65 x66 : Value) (h : Heap) (r m : List Nat) (k : St → Option β) : regD Try.prog (evC Try.prog) d71_0 13 ⟨#[x0, x1, x2, x3, x4, x5, x6, x7, x8, x9, x10, x11, x12, x13, x14, x15, x16, x17, x18, x19, x20, x21, x22, x23, x24, x25, x26, x27, x28, x29, x30, x31, x32, x33, x34, x35, x36, x37, x38, x39, x40, x41, x42, x43, x44, x45, x46, x47, x48, x49, x50, x51, x52, x53, x54, x55, x56, x57, x58, x59, x60, x61, x62, x63, x64, x65, x66], h⟩ r m k =
(pickV x12 (Go.Value.bool Bool.true) x15).bind fun t16_49 =>
regD Try.prog (evC Try.prog) d71_0 14 ⟨#[x0, x1, x2, x3, x4, x5, x6, x7, x8, x9, x10, x11, x12, x13, x14, x15, t16_49, x17, x18, x19, x20, x21, x22, x23, x24, x25, x26, x27, x28, x29, x30, x31, x32, x33, x34, x35, x36, x37, x38, x39, x40, x41, x42, x43, x44, x45, x46, x47, x48, x49, x50, x51, x52, x53, x54, x55, x56, x57, x58, x59, x60, x61, x62, x63, x64, x65, x66], h⟩ r m k := (regD_step _ _ d71_0 13 (by kernel_rfl) _ _ _ _).trans (by kernel_rfl)
theorem d71_0_14 {β : Type} (x0 x1 x2 x3 x4 x5 x6 x7 x8 x9 x10 x11 x12 x13 x14 x15 x16 x17 x18 x19 x20 x21 x22 x23 x24 x25 x26 x27 x28 x29 x30 x31 x32 x33 x34 x35 x36 x37 x38 x39 x40 x41 x42 x43 x44 x45 x46 x47 x48 x49 x50 x51 x52 x53 x54 x55 x56 x57 x58 x59 x60 x61 x62 x63 x64 x65 x66 : Value) (h : Heap) (r m : List Nat) (k : St → Option β) : regD Try.prog (evC Try.prog) d71_0 14 ⟨#[x0, x1, x2, x3, x4, x5, x6, x7, x8, x9, x10, x11, x12, x13, x14, x15, x16, x17, x18, x19, x20, x21, x22, x23, x24, x25, x26, x27, x28, x29, x30, x31, x32, x33, x34, x35, x36, x37, x38, x39, x40, x41, x42, x43, x44, x45, x46, x47, x48, x49, x50, x51, x52, x53, x54, x55, x56, x57, x58, x59, x60, x61, x62, x63, x64, x65, x66], h⟩ r m k =
regD Try.prog (evC Try.prog) d71_0 15 ⟨#[x0, x1, x2, x3, x4, x5, x6, x7, x8, x9, x10, x11, x12, x13, x14, x15, x16, x16, x18, x19, x20, x21, x22, x23, x24, x25, x26, x27, x28, x29, x30, x31, x32, x33, x34, x35, x36, x37, x38, x39, x40, x41, x42, x43, x44, x45, x46, x47, x48, x49, x50, x51, x52, x53, x54, x55, x56, x57, x58, x59, x60, x61, x62, x63, x64, x65, x66], h⟩ r m k := regD_move _ _ d71_0 14 (by kernel_rfl) (by kernel_rfl) (by kernel_rfl) _ _ _ _ _ _ (by kernel_rfl) (by kernel_rfl)
theorem d71_0_15 {β : Type} (x0 x1 x2 x3 x4 x5 x6 x7 x8 x9 x10 x11 x12 x13 x14 x15 x16 x17 x18 x19 x20 x21 x22 x23 x24 x25 x26 x27 x28 x29 x30 x31 x32 x33 x34 x35 x36 x37 x38 x39 x40 x41 x42 x43 x44 x45 x46 x47 x48 x49 x50 x51 x52 x53 x54 x55 x56 x57 x58 x59 x60 x61 x62 x63 x64 x65 x66 : Value) (h : Heap) (r m : List Nat) (k : St → Option β) : regD Try.prog (evC Try.prog) d71_0 15 ⟨#[x0, x1, x2, x3, x4, x5, x6, x7, x8, x9, x10, x11, x12, x13, x14, x15, x16, x17, x18, x19, x20, x21, x22, x23, x24, x25, x26, x27, x28, x29, x30, x31, x32, x33, x34, x35, x36, x37, x38, x39, x40, x41, x42, x43, x44, x45, x46, x47, x48, x49, x50, x51, x52, x53, x54, x55, x56, x57, x58, x59, x60, x61, x62, x63, x64, x65, x66], h⟩ r m k =
(gd (wt x17 false) (fieldAddrV Try.prog 104 x1 2)).bind fun t18_50 =>
regD Try.prog (evC Try.prog) d71_0 16 ⟨#[x0, x1, x2, x3, x4, x5, x6, x7, x8, x9, x10, x11, x12, x13, x14, x15, x16, x17, t18_50, x19, x20, x21, x22, x23, x24, x25, x26, x27, x28, x29, x30, x31, x32, x33, x34, x35, x36, x37, x38, x39, x40, x41, x42, x43, x44, x45, x46, x47, x48, x49, x50, x51, x52, x53, x54, x55, x56, x57, x58, x59, x60, x61, x62, x63, x64, x65, x66], h⟩ r m k := (regD_step _ _ d71_0 15 (by kernel_rfl) _ _ _ _).trans (by kernel_rfl)
theorem d71_0_16 {β : Type} (x0 x1 x2 x3 x4 x5 x6 x7 x8 x9 x10 x11 x12 x13 x14 x15 x16 x17 x18 x19 x20 x21 x22 x23 x24 x25 x26 x27 x28 x29 x30 x31 x32 x33 x34 x35 x36 x37 x38 x39 x40 x41 x42 x43 x44 x45 x46 x47 x48 x49 x50 x51 x52 x53 x54 x55 x56 x57 x58 x59 x60 x61 x62 x63 x64 x65 x66 : Value) (h : Heap) (r m : List Nat) (k : St → Option β) : regD Try.prog (evC Try.prog) d71_0 16 ⟨#[x0, x1, x2, x3, x4, x5, x6, x7, x8, x9, x10, x11, x12, x13, x14, x15, x16, x17, x18, x19, x20, x21, x22, x23, x24, x25, x26, x27, x28, x29, x30, x31, x32, x33, x34, x35, x36, x37, x38, x39, x40, x41, x42, x43, x44, x45, x46, x47, x48, x49, x50, x51, x52, x53, x54, x55, x56, x57, x58, x59, x60, x61, x62, x63, x64, x65, x66], h⟩ r m k =
(gd (wt x17 false) (loadV Try.prog 47 x18 h)).bind fun t19_51 =>
regD Try.prog (evC Try.prog) d71_0 17 ⟨#[x0, x1, x2, x3, x4, x5, x6, x7, x8, x9, x10, x11, x12, x13, x14, x15, x16, x17, x18, t19_51, x20, x21, x22, x23, x24, x25, x26, x27, x28, x29, x30, x31, x32, x33, x34, x35, x36, x37, x38, x39, x40, x41, x42, x43, x44, x45, x46, x47, x48, x49, x50, x51, x52, x53, x54, x55, x56, x57, x58, x59, x60, x61, x62, x63, x64, x65, x66], h⟩ (rdL (wt x17 false) (rb x18) ++ r) m k := (regD_step _ _ d71_0 16 (by kernel_rfl) _ _ _ _).trans (by kernel_rfl)
theorem d71_0_17 {β : Type} (x0 x1 x2 x3 x4 x5 x6 x7 x8 x9 x10 x11 x12 x13 x14 x15 x16 x17 x18 x19 x20 x21 x22 x23 x24 x25 x26 x27 x28 x29 x30 x31 x32 x33 x34 x35 x36 x37 x38 x39 x40 x41 x42 x43 x44 x45 x46 x47 x48 x49 x50 x51 x52 x53 x54 x55 x56 x57 x58 x59 x60 x61 x62 x63 x64 x65 x66 : Value) (h : Heap) (r m : List Nat) (k : St → Option β) : regD Try.prog (evC Try.prog) d71_0 17 ⟨#[x0, x1, x2, x3, x4, x5, x6, x7, x8, x9, x10, x11, x12, x13, x14, x15, x16, x17, x18, x19, x20, x21, x22, x23, x24, x25, x26, x27, x28, x29, x30, x31, x32, x33, x34, x35, x36, x37, x38, x39, x40, x41, x42, x43, x44, x45, x46, x47, x48, x49, x50, x51, x52, x53, x54, x55, x56, x57, x58, x59, x60, x61, x62, x63, x64, x65, x66], h⟩ r m k =
obH (gdH (wt x17 false) (nm h) (evC Try.prog 80 #[(Go.Value.int Go.IntKind.i64 16)] (nm h))) fun t20_52 h53 =>
regD Try.prog (evC Try.prog) d71_0 18 ⟨#[x0, x1, x2, x3, x4, x5, x6, x7, x8, x9, x10, x11, x12, x13, x14, x15, x16, x17, x18, x19, t20_52, x21, x22, x23, x24, x25, x26, x27, x28, x29, x30, x31, x32, x33, x34, x35, x36, x37, x38, x39, x40, x41, x42, x43, x44, x45, x46, x47, x48, x49, x50, x51, x52, x53, x54, x55, x56, x57, x58, x59, x60, x61, x62, x63, x64, x65, x66], (am h53 h)⟩ r (h53.mods ++ m) k := (regD_step _ _ d71_0 17 (by kernel_rfl) _ _ _ _).trans (by kernel_rfl)
theorem d71_0_18 {β : Type} (x0 x1 x2 x3 x4 x5 x6 x7 x8 x9 x10 x11 x12 x13 x14 x15 x16 x17 x18 x19 x20 x21 x22 x23 x24 x25 x26 x27 x28 x29 x30 x31 x32 x33 x34 x35 x36 x37 x38 x39 x40 x41 x42 x43 x44 x45 x46 x47 x48 x49 x50 x51 x52 x53 x54 x55 x56 x57 x58 x59 x60 x61 x62 x63 x64 x65 x66 : Value) (h : Heap) (r m : List Nat) (k : St → Option β) : regD Try.prog (evC Try.prog) d71_0 18 ⟨#[x0, x1, x2, x3, x4, x5, x6, x7, x8, x9, x10, x11, x12, x13, x14, x15, x16, x17, x18, x19, x20, x21, x22, x23, x24, x25, x26, x27, x28, x29, x30, x31, x32, x33, x34, x35, x36, x37, x38, x39, x40, x41, x42, x43, x44, x45, x46, x47, x48, x49, x50, x51, x52, x53, x54, x55, x56, x57, x58, x59, x60, x61, x62, x63, x64, x65, x66], h⟩ r m k =
obH (gdH (wt x17 false) h (evC Try.prog 100 #[x19, x20] h)) fun t21_54 h55 =>
regD Try.prog (evC Try.prog) d71_0 19 ⟨#[x0, x1, x2, x3, x4, x5, x6, x7, x8, x9, x10, x11, x12, x13, x14, x15, x16, x17, x18, x19, x20, t21_54, x22, x23, x24, x25, x26, x27, x28, x29, x30, x31, x32, x33, x34, x35, x36, x37, x38, x39, x40, x41, x42, x43, x44, x45, x46, x47, x48, x49, x50, x51, x52, x53, x54, x55, x56, x57, x58, x59, x60, x61, x62, x63, x64, x65, x66], h55⟩ r m k := (regD_step _ _ d71_0 18 (by kernel_rfl) _ _ _ _).trans (by kernel_rfl)
theorem d71_0_19 {β : Type} (x0 x1 x2 x3 x4 x5 x6 x7 x8 x9 x10 x11 x12 x13 x14 x15 x16 x17 x18 x19 x20 x21 x22 x23 x24 x25 x26 x27 x28 x29 x30 x31 x32 x33 x34 x35 x36 x37 x38 x39 x40 x41 x42 x43 x44 x45 x46 x47 x48 x49 x50 x51 x52 x53 x54 x55 x56 x57 x58 x59 x60 x61 x62 x63 x64 x65 x66 : Value) (h : Heap) (r m : List Nat) (k : St → Option β) : regD Try.prog (evC Try.prog) d71_0 19 ⟨#[x0, x1, x2, x3, x4, x5, x6, x7, x8, x9, x10, x11, x12, x13, x14, x15, x16, x17, x18, x19, x20, x21, x22, x23, x24, x25, x26, x27, x28, x29, x30, x31, x32, x33, x34, x35, x36, x37, x38, x39, x40, x41, x42, x43, x44, x45, x46, x47, x48, x49, x50, x51, x52, x53, x54, x55, x56, x57, x58, x59, x60, x61, x62, x63, x64, x65, x66], h⟩ r m k =
(gd (wt x17 false) (unV Try.prog .not x21)).bind fun t22_56 =>
regD Try.prog (evC Try.prog) d71_0 20 ⟨#[x0, x1, x2, x3, x4, x5, x6, x7, x8, x9, x10, x11, x12, x13, x14, x15, x16, x17, x18, x19, x20, x21, t22_56, x23, x24, x25, x26, x27, x28, x29, x30, x31, x32, x33, x34, x35, x36, x37, x38, x39, x40, x41, x42, x43, x44, x45, x46, x47, x48, x49, x50, x51, x52, x53, x54, x55, x56, x57, x58, x59, x60, x61, x62, x63, x64, x65, x66], h⟩ r m k := (regD_step _ _ d71_0 19 (by kernel_rfl) _ _ _ _).trans (by kernel_rfl)
theorem d71_0_20 {β : Type} (x0 x1 x2 x3 x4 x5 x6 x7 x8 x9 x10 x11 x12 x13 x14 x15 x16 x17 x18 x19 x20 x21 x22 x23 x24 x25 x26 x27 x28 x29 x30 x31 x32 x33 x34 x35 x36 x37 x38 x39 x40 x41 x42 x43 x44 x45 x46 x47 x48 x49 x50 x51 x52 x53 x54 x55 x56 x57 x58 x59 x60 x61 x62 x63 x64 x65 x66 : Value) (h : Heap) (r m : List Nat) (k : St → Option β) : regD Try.prog (evC Try.prog) d71_0 20 ⟨#[x0, x1, x2, x3, x4, x5, x6, x7, x8, x9, x10, x11, x12, x13, x14, x15, x16, x17, x18, x19, x20, x21, x22, x23, x24, x25, x26, x27, x28, x29, x30, x31, x32, x33, x34, x35, x36, x37, x38, x39, x40, x41, x42, x43, x44, x45, x46, x47, x48, x49, x50, x51, x52, x53, x54, x55, x56, x57, x58, x59, x60, x61, x62, x63, x64, x65, x66], h⟩ r m k =
(pickV x17 (Go.Value.bool Bool.true) x22).bind fun t23_57 =>
regD Try.prog (evC Try.prog) d71_0 21 ⟨#[x0, x1, x2, x3, x4, x5, x6, x7, x8, x9, x10, x11, x12, x13, x14, x15, x16, x17, x18, x19, x20, x21, x22, t23_57, x24, x25, x26, x27, x28, x29, x30, x31, x32, x33, x34, x35, x36, x37, x38, x39, x40, x41, x42, x43, x44, x45, x46, x47, x48, x49, x50, x51, x52, x53, x54, x55, x56, x57, x58, x59, x60, x61, x62, x63, x64, x65, x66], h⟩ r m k := (regD_step _ _ d71_0 20 (by kernel_rfl) _ _ _ _).trans (by kernel_rfl)
theorem d71_0_21 {β : Type} (x0 x1 x2 x3 x4 x5 x6 x7 x8 x9 x10 x11 x12 x13 x14 x15 x16 x17 x18 x19 x20 x21 x22 x23 x24 x25 x26 x27 x28 x29 x30 x31 x32 x33 x34 x35 x36 x37 x38 x39 x40 x41 x42 x43 x44 x45 x46 x47 x48 x49 x50 x51 x52 x53 x54 x55 x56 x57 x58 x59 x60 x61 x62 x63 x64 x65 x66 : Value) (h : Heap) (r m : List Nat) (k : St → Option β) : regD Try.prog (evC Try.prog) d71_0 21 ⟨#[x0, x1, x2, x3, x4, x5, x6, x7, x8, x9, x10, x11, x12, x13, x14, x15, x16, x17, x18, x19, x20, x21, x22, x23, x24, x25, x26, x27, x28, x29, x30, x31, x32, x33, x34, x35, x36, x37, x38, x39, x40, x41, x42, x43, x44, x45, x46, x47, x48, x49, x50, x51, x52, x53, x54, x55, x56, x57, x58, x59, x60, x61, x62, x63, x64, x65, x66], h⟩ r m k =
regD Try.prog (evC Try.prog) d71_0 22 ⟨#[x0, x1, x2, x3, x4, x5, x6, x7, x8, x9, x10, x11, x12, x13, x14, x15, x16, x17, x18, x19, x20, x21, x22, x23, x23, x25, x26, x27, x28, x29, x30, x31, x32, x33, x34, x35, x36, x37, x38, x39, x40, x41, x42, x43, x44, x45, x46, x47, x48, x49, x50, x51, x52, x53, x54, x55, x56, x57, x58, x59, x60, x61, x62, x63, x64, x65, x66], h⟩ r m k := regD_move _ _ d71_0 21 (by kernel_rfl) (by kernel_rfl) (by kernel_rfl) _ _ _ _ _ _ (by kernel_rfl) (by kernel_rfl)
theorem d71_0_22 {β : Type} (x0 x1 x2 x3 x4 x5 x6 x7 x8 x9 x10 x11 x12 x13 x14 x15 x16 x17 x18 x19 x20 x21 x22 x23 x24 x25 x26 x27 x28 x29 x30 x31 x32 x33 x34 x35 x36 x37 x38 x39 x40 x41 x42 x43 x44 x45 x46 x47 x48 x49 x50 x51 x52 x53 x54 x55 x56 x57 x58 x59 x60 x61 x62 x63 x64 x65 x66 : Value) (h : Heap) (r m : List Nat) (k : St → Option β) : regD Try.prog (evC Try.prog) d71_0 22 ⟨#[x0, x1, x2, x3, x4, x5, x6, x7, x8, x9, x10, x11, x12, x13, x14, x15, x16, x17, x18, x19, x20, x21, x22, x23, x24, x25, x26, x27, x28, x29, x30, x31, x32, x33, x34, x35, x36, x37, x38, x39, x40, x41, x42, x43, x44, x45, x46, x47, x48, x49, x50, x51, x52, x53, x54, x55, x56, x57, x58, x59, x60, x61, x62, x63, x64, x65, x66], h⟩ r m k =
(gd (wt x24 false) (fieldAddrV Try.prog 104 x1 2)).bind fun t25_58 =>
regD Try.prog (evC Try.prog) d71_0 23 ⟨#[x0, x1, x2, x3, x4, x5, x6, x7, x8, x9, x10, x11, x12, x13, x14, x15, x16, x17, x18, x19, x20, x21, x22, x23, x24, t25_58, x26, x27, x28, x29, x30, x31, x32, x33, x34, x35, x36, x37, x38, x39, x40, x41, x42, x43, x44, x45, x46, x47, x48, x49, x50, x51, x52, x53, x54, x55, x56, x57, x58, x59, x60, x61, x62, x63, x64, x65, x66], h⟩ r m k := (regD_step _ _ d71_0 22 (by kernel_rfl) _ _ _ _).trans (by kernel_rfl)
theorem d71_0_23 {β : Type} (x0 x1 x2 x3 x4 x5 x6 x7 x8 x9 x10 x11 x12 x13 x14 x15 x16 x17 x18 x19 x20 x21 x22 x23 x24 x25 x26 x27 x28 x29 x30 x31 x32 x33 x34 x35 x36 x37 x38 x39 x40 x41 x42 x43 x44 x45 x46 x47 x48 x49 x50 x51 x52 x53 x54 x55 x56 x57 x58 x59 x60 x61 x62 x63 x64 x65 x66 : Value) (h : Heap) (r m : List Nat) (k : St → Option β) : regD Try.prog (evC Try.prog) d71_0 23 ⟨#[x0, x1, x2, x3, x4, x5, x6, x7, x8, x9, x10, x11, x12, x13, x14, x15, x16, x17, x18, x19, x20, x21, x22, x23, x24, x25, x26, x27, x28, x29, x30, x31, x32, x33, x34, x35, x36, x37, x38, x39, x40, x41, x42, x43, x44, x45, x46, x47, x48, x49, x50, x51, x52, x53, x54, x55, x56, x57, x58, x59, x60, x61, x62, x63, x64, x65, x66], h⟩ r m k =
(gd (wt x24 false) (loadV Try.prog 47 x25 h)).bind fun t26_59 =>
regD Try.prog (evC Try.prog) d71_0 24 ⟨#[x0, x1, x2, x3, x4, x5, x6, x7, x8, x9, x10, x11, x12, x13, x14, x15, x16, x17, x18, x19, x20, x21, x22, x23, x24, x25, t26_59, x27, x28, x29, x30, x31, x32, x33, x34, x35, x36, x37, x38, x39, x40, x41, x42, x43, x44, x45, x46, x47, x48, x49, x50, x51, x52, x53, x54, x55, x56, x57, x58, x59, x60, x61, x62, x63, x64, x65, x66], h⟩ r m k := (regD_step _ _ d71_0 23 (by kernel_rfl) _ _ _ _).trans (by kernel_rfl)
theorem d71_0_24 {β : Type} (x0 x1 x2 x3 x4 x5 x6 x7 x8 x9 x10 x11 x12 x13 x14 x15 x16 x17 x18 x19 x20 x21 x22 x23 x24 x25 x26 x27 x28 x29 x30 x31 x32 x33 x34 x35 x36 x37 x38 x39 x40 x41 x42 x43 x44 x45 x46 x47 x48 x49 x50 x51 x52 x53 x54 x55 x56 x57 x58 x59 x60 x61 x62 x63 x64 x65 x66 : Value) (h : Heap) (r m : List Nat) (k : St → Option β) : regD Try.prog (evC Try.prog) d71_0 24 ⟨#[x0, x1, x2, x3, x4, x5, x6, x7, x8, x9, x10, x11, x12, x13, x14, x15, x16, x17, x18, x19, x20, x21, x22, x23, x24, x25, x26, x27, x28, x29, x30, x31, x32, x33, x34, x35, x36, x37, x38, x39, x40, x41, x42, x43, x44, x45, x46, x47, x48, x49, x50, x51, x52, x53, x54, x55, x56, x57, x58, x59, x60, x61, x62, x63, x64, x65, x66], h⟩ r m k =
(gd (wt x24 false) (fieldAddrV Try.prog 104 x1 0)).bind fun t27_60 =>
regD Try.prog (evC Try.prog) d71_0 25 ⟨#[x0, x1, x2, x3, x4, x5, x6, x7, x8, x9, x10, x11, x12, x13, x14, x15, x16, x17, x18, x19, x20, x21, x22, x23, x24, x25, x26, t27_60, x28, x29, x30, x31, x32, x33, x34, x35, x36, x37, x38, x39, x40, x41, x42, x43, x44, x45, x46, x47, x48, x49, x50, x51, x52, x53, x54, x55, x56, x57, x58, x59, x60, x61, x62, x63, x64, x65, x66], h⟩ r m k := (regD_step _ _ d71_0 24 (by kernel_rfl) _ _ _ _).trans (by kernel_rfl)
theorem d71_0_25 {β : Type} (x0 x1 x2 x3 x4 x5 x6 x7 x8 x9 x10 x11 x12 x13 x14 x15 x16 x17 x18 x19 x20 x21 x22 x23 x24 x25 x26 x27 x28 x29 x30 x31 x32 x33 x34 x35 x36 x37 x38 x39 x40 x41 x42 x43 x44 x45 x46 x47 x48 x49 x50 x51 x52 x53 x54 x55 x56 x57 x58 x59 x60 x61 x62 x63 x64 x65 x66 : Value) (h : Heap) (r m : List Nat) (k : St → Option β) : regD Try.prog (evC Try.prog) d71_0 25 ⟨#[x0, x1, x2, x3, x4, x5, x6, x7, x8, x9, x10, x11, x12, x13, x14, x15, x16, x17, x18, x19, x20, x21, x22, x23, x24, x25, x26, x27, x28, x29, x30, x31, x32, x33, x34, x35, x36, x37, x38, x39, x40, x41, x42, x43, x44, x45, x46, x47, x48, x49, x50, x51, x52, x53, x54, x55, x56, x57, x58, x59, x60, x61, x62, x63, x64, x65, x66], h⟩ r m k =
(gd (wt x24 false) (loadV Try.prog 3 x27 h)).bind fun t28_61 =>
regD Try.prog (evC Try.prog) d71_0 26 ⟨#[x0, x1, x2, x3, x4, x5, x6, x7, x8, x9, x10, x11, x12, x13, x14, x15, x16, x17, x18, x19, x20, x21, x22, x23, x24, x25, x26, x27, t28_61, x29, x30, x31, x32, x33, x34, x35, x36, x37, x38, x39, x40, x41, x42, x43, x44, x45, x46, x47, x48, x49, x50, x51, x52, x53, x54, x55, x56, x57, x58, x59, x60, x61, x62, x63, x64, x65, x66], h⟩ r m k := (regD_step _ _ d71_0 25 (by kernel_rfl) _ _ _ _).trans (by kernel_rfl)
theorem d71_0_26 {β : Type} (x0 x1 x2 x3 x4 x5 x6 x7 x8 x9 x10 x11 x12 x13 x14 x15 x16 x17 x18 x19 x20 x21 x22 x23 x24 x25 x26 x27 x28 x29 x30 x31 x32 x33 x34 x35 x36 x37 x38 x39 x40 x41 x42 x43 x44 x45 x46 x47 x48 x49 x50 x51 x52 x53 x54 x55 x56 x57 x58 x59 x60 x61 x62 x63 x64 x65 x66 : Value) (h : Heap) (r m : List Nat) (k : St → Option β) : regD Try.prog (evC Try.prog) d71_0 26 ⟨#[x0, x1, x2, x3, x4, x5, x6, x7, x8, x9, x10, x11, x12, x13, x14, x15, x16, x17, x18, x19, x20, x21, x22, x23, x24, x25, x26, x27, x28, x29, x30, x31, x32, x33, x34, x35, x36, x37, x38, x39, x40, x41, x42, x43, x44, x45, x46, x47, x48, x49, x50, x51, x52, x53, x54, x55, x56, x57, x58, x59, x60, x61, x62, x63, x64, x65, x66], h⟩ r m k =
obH (gdH (wt x24 false) h (evC Try.prog 112 #[x26, x28] h)) fun t29_62 h63 =>
regD Try.prog (evC Try.prog) d71_0 27 ⟨#[x0, x1, x2, x3, x4, x5, x6, x7, x8, x9, x10, x11, x12, x13, x14, x15, x16, x17, x18, x19, x20, x21, x22, x23, x24, x25, x26, x27, x28, t29_62, x30, x31, x32, x33, x34, x35, x36, x37, x38, x39, x40, x41, x42, x43, x44, x45, x46, x47, x48, x49, x50, x51, x52, x53, x54, x55, x56, x57, x58, x59, x60, x61, x62, x63, x64, x65, x66], h63⟩ r m k := (regD_step _ _ d71_0 26 (by kernel_rfl) _ _ _ _).trans (by kernel_rfl)
theorem d71_0_27 {β : Type} (x0 x1 x2 x3 x4 x5 x6 x7 x8 x9 x10 x11 x12 x13 x14 x15 x16 x17 x18 x19 x20 x21 x22 x23 x24 x25 x26 x27 x28 x29 x30 x31 x32 x33 x34 x35 x36 x37 x38 x39 x40 x41 x42 x43 x44 x45 x46 x47 x48 x49 x50 x51 x52 x53 x54 x55 x56 x57 x58 x59 x60 x61 x62 x63 x64 x65 x66 : Value) (h : Heap) (r m : List Nat) (k : St → Option β) : regD Try.prog (evC Try.prog) d71_0 27 ⟨#[x0, x1, x2, x3, x4, x5, x6, x7, x8, x9, x10, x11, x12, x13, x14, x15, x16, x17, x18, x19, x20, x21, x22, x23, x24, x25, x26, x27, x28, x29, x30, x31, x32, x33, x34, x35, x36, x37, x38, x39, x40, x41, x42, x43, x44, x45, x46, x47, x48, x49, x50, x51, x52, x53, x54, x55, x56, x57, x58, x59, x60, x61, x62, x63, x64, x65, x66], h⟩ r m k =
(pickV x24 (Go.Value.bool Bool.true) x29).bind fun t30_64 =>
regD Try.prog (evC Try.prog) d71_0 28 ⟨#[x0, x1, x2, x3, x4, x5, x6, x7, x8, x9, x10, x11, x12, x13, x14, x15, x16, x17, x18, x19, x20, x21, x22, x23, x24, x25, x26, x27, x28, x29, t30_64, x31, x32, x33, x34, x35, x36, x37, x38, x39, x40, x41, x42, x43, x44, x45, x46, x47, x48, x49, x50, x51, x52, x53, x54, x55, x56, x57, x58, x59, x60, x61, x62, x63, x64, x65, x66], h⟩ r m k := (regD_step _ _ d71_0 27 (by kernel_rfl) _ _ _ _).trans (by kernel_rfl)
theorem d71_0_28 {β : Type} (x0 x1 x2 x3 x4 x5 x6 x7 x8 x9 x10 x11 x12 x13 x14 x15 x16 x17 x18 x19 x20 x21 x22 x23 x24 x25 x26 x27 x28 x29 x30 x31 x32 x33 x34 x35 x36 x37 x38 x39 x40 x41 x42 x43 x44 x45 x46 x47 x48 x49 x50 x51 x52 x53 x54 x55 x56 x57 x58 x59 x60 x61 x62 x63 x64 x65 x66 : Value) (h : Heap) (r m : List Nat) (k : St → Option β) : regD Try.prog (evC Try.prog) d71_0 28 ⟨#[x0, x1, x2, x3, x4, x5, x6, x7, x8, x9, x10, x11, x12, x13, x14, x15, x16, x17, x18, x19, x20, x21, x22, x23, x24, x25, x26, x27, x28, x29, x30, x31, x32, x33, x34, x35, x36, x37, x38, x39, x40, x41, x42, x43, x44, x45, x46, x47, x48, x49, x50, x51, x52, x53, x54, x55, x56, x57, x58, x59, x60, x61, x62, x63, x64, x65, x66], h⟩ r m k =
chk r m (k ⟨#[x0, x1, x2, x3, x4, x5, x6, x7, x8, x9, x10, x11, x12, x13, x14, x15, x16, x17, x18, x19, x20, x21, x22, x23, x24, x25, x26, x27, x28, x29, x30, x31, x32, x33, x34, x35, x36, x37, x38, x39, x40, x41, x42, x43, x44, x45, x46, x47, x48, x49, x50, x51, x52, x53, x54, x55, x56, x57, x58, x59, x60, x61, x62, x63, x64, x65, x66], h⟩) := by kernel_rfl
theorem c71_5_eq {β : Type} (x0 x1 x2 x3 x4 x5 x6 x7 x8 x9 x10 x11 x12 x13 x14 x15 x16 x17 x18 x19 x20 x21 x22 x23 x24 x25 x26 x27 x28 x29 x30 x31 x32 x33 x34 x35 x36 x37 x38 x39 x40 x41 x42 x43 x44 x45 x46 x47 x48 x49 x50 x51 x52 x53 x54 x55 x56 x57 x58 x59 x60 x61 x62 x63 x64 x65 x66 : Value) (h : Heap) (k : Ex → St → Option β) : codeK Try.prog (evC Try.prog) loopL c71_5 ⟨#[x0, x1, x2, x3, x4, x5, x6, x7, x8, x9, x10, x11, x12, x13, x14, x15, x16, x17, x18, x19, x20, x21, x22, x23, x24, x25, x26, x27, x28, x29, x30, x31, x32, x33, x34, x35, x36, x37, x38, x39, x40, x41, x42, x43, x44, x45, x46, x47, x48, x49, x50, x51, x52, x53, x54, x55, x56, x57, x58, x59, x60, x61, x62, x63, x64, x65, x66], h⟩ k =
regD Try.prog (evC Try.prog) d71_0 0 ⟨#[x0, x1, x2, x3, x4, x5, x6, x7, x8, x9, x10, x11, x12, x13, x14, x15, x16, x17, x18, x19, x20, x21, x22, x23, x24, x25, x26, x27, x28, x29, x30, x31, x32, x33, x34, x35, x36, x37, x38, x39, x40, x41, x42, x43, x44, x45, x46, x47, x48, x49, x50, x51, x52, x53, x54, x55, x56, x57, x58, x59, x60, x61, x62, x63, x64, x65, x66], h⟩ [] [] (fun s => k .normal s) := by kernel_rfl
theorem c71_6_eq {β : Type} (x0 x1 x2 x3 x4 x5 x6 x7 x8 x9 x10 x11 x12 x13 x14 x15 x16 x17 x18 x19 x20 x21 x22 x23 x24 x25 x26 x27 x28 x29 x30 x31 x32 x33 x34 x35 x36 x37 x38 x39 x40 x41 x42 x43 x44 x45 x46 x47 x48 x49 x50 x51 x52 x53 x54 x55 x56 x57 x58 x59 x60 x61 x62 x63 x64 x65 x66 : Value) (h : Heap) (k : Ex → St → Option β) : codeK Try.prog (evC Try.prog) loopL c71_6 ⟨#[x0, x1, x2, x3, x4, x5, x6, x7, x8, x9, x10, x11, x12, x13, x14, x15, x16, x17, x18, x19, x20, x21, x22, x23, x24, x25, x26, x27, x28, x29, x30, x31, x32, x33, x34, x35, x36, x37, x38, x39, x40, x41, x42, x43, x44, x45, x46, x47, x48, x49, x50, x51, x52, x53, x54, x55, x56, x57, x58, x59, x60, x61, x62, x63, x64, x65, x66], h⟩ k =
cnd x30 (
k .ret ⟨#[x0, x1, (Go.Value.bool Bool.false), x3, x4, x5, x6, x7, x8, x9, x10, x11, x12, x13, x14, x15, x16, x17, x18, x19, x20, x21, x22, x23, x24, x25, x26, x27, x28, x29, x30, x31, x32, x33, x34, x35, x36, x37, x38, x39, x40, x41, x42, x43, x44, x45, x46, x47, x48, x49, x50, x51, x52, x53, x54, x55, x56, x57, x58, x59, x60, x61, x62, x63, x64, x65, x66], h⟩) (
k .normal ⟨#[x0, x1, x2, x3, x4, x5, x6, x7, x8, x9, x10, x11, x12, x13, x14, x15, x16, x17, x18, x19, x20, x21, x22, x23, x24, x25, x26, x27, x28, x29, x30, x31, x32, x33, x34, x35, x36, x37, x38, x39, x40, x41, x42, x43, x44, x45, x46, x47, x48, x49, x50, x51, x52, x53, x54, x55, x56, x57, x58, x59, x60, x61, x62, x63, x64, x65, x66], h⟩) := by kernel_rfl
theorem call71 (x0 : Value) (h : Heap) : evC Try.prog 71 #[x0] h = codeK Try.prog (evC Try.prog) loopL c71_0 ⟨#[x0, undef, undef, undef, undef, undef, undef, undef, undef, undef, undef, undef, undef, undef, undef, undef, undef, undef, undef, undef, undef, undef, undef, undef, undef, undef, undef, undef, undef, undef, undef, undef, undef, undef, undef, undef, undef, undef, undef, undef, undef, undef, undef, undef, undef, undef, undef, undef, undef, undef, undef, undef, undef, undef, undef, undef, undef, undef, undef, undef, undef, undef, undef, undef, undef, undef, undef], nm h⟩ (retK Try.f71 Try.prog h) :=
  (evC_call 71 Try.f71 c71_0 Try.func71 (by kernel_rfl) #[x0] h).trans (by kernel_rfl)
theorem ret71 (x0 x1 x2 x3 x4 x5 x6 x7 x8 x9 x10 x11 x12 x13 x14 x15 x16 x17 x18 x19 x20 x21 x22 x23 x24 x25 x26 x27 x28 x29 x30 x31 x32 x33 x34 x35 x36 x37 x38 x39 x40 x41 x42 x43 x44 x45 x46 x47 x48 x49 x50 x51 x52 x53 x54 x55 x56 x57 x58 x59 x60 x61 x62 x63 x64 x65 x66 : Value) (h0 h : Heap) : retK Try.f71 Try.prog h0 .ret ⟨#[x0, x1, x2, x3, x4, x5, x6, x7, x8, x9, x10, x11, x12, x13, x14, x15, x16, x17, x18, x19, x20, x21, x22, x23, x24, x25, x26, x27, x28, x29, x30, x31, x32, x33, x34, x35, x36, x37, x38, x39, x40, x41, x42, x43, x44, x45, x46, x47, x48, x49, x50, x51, x52, x53, x54, x55, x56, x57, x58, x59, x60, x61, x62, x63, x64, x65, x66], h⟩ = fin h0 (some x2) h := by kernel_rfl
theorem retn71 (x0 x1 x2 x3 x4 x5 x6 x7 x8 x9 x10 x11 x12 x13 x14 x15 x16 x17 x18 x19 x20 x21 x22 x23 x24 x25 x26 x27 x28 x29 x30 x31 x32 x33 x34 x35 x36 x37 x38 x39 x40 x41 x42 x43 x44 x45 x46 x47 x48 x49 x50 x51 x52 x53 x54 x55 x56 x57 x58 x59 x60 x61 x62 x63 x64 x65 x66 : Value) (h0 h : Heap) : retK Try.f71 Try.prog h0 .normal ⟨#[x0, x1, x2, x3, x4, x5, x6, x7, x8, x9, x10, x11, x12, x13, x14, x15, x16, x17, x18, x19, x20, x21, x22, x23, x24, x25, x26, x27, x28, x29, x30, x31, x32, x33, x34, x35, x36, x37, x38, x39, x40, x41, x42, x43, x44, x45, x46, x47, x48, x49, x50, x51, x52, x53, x54, x55, x56, x57, x58, x59, x60, x61, x62, x63, x64, x65, x66], h⟩ = fin h0 (some x2) h := by kernel_rfl
end Go.Am
namespace Go.Am
open Go.Proofs
set_option maxRecDepth 100000
noncomputable def c66_0 : Code := bodyC Try.f66 []
noncomputable def c66_1 : Code := bodyC Try.f66 [true, true, true, true, true, true, true, true]
noncomputable def c66_2 : Code := bodyC Try.f66 [true, true, true, true, true, true, true, true, true]
theorem c66_0_eq {β : Type} (x0 x1 x2 x3 x4 x5 x6 x7 x8 x9 x10 x11 x12 x13 x14 x15 x16 x17 x18 x19 x20 x21 x22 x23 x24 x25 x26 x27 x28 x29 x30 x31 x32 x33 x34 x35 x36 x37 x38 x39 x40 x41 x42 x43 x44 x45 x46 x47 x48 x49 x50 x51 x52 x53 x54 x55 x56 x57 x58 x59 x60 : Value) (h : Heap) (k : Ex → St → Option β) : codeK Try.prog (evC Try.prog) loopL c66_0 ⟨#[x0, x1, x2, x3, x4, x5, x6, x7, x8, x9, x10, x11, x12, x13, x14, x15, x16, x17, x18, x19, x20, x21, x22, x23, x24, x25, x26, x27, x28, x29, x30, x31, x32, x33, x34, x35, x36, x37, x38, x39, x40, x41, x42, x43, x44, x45, x46, x47, x48, x49, x50, x51, x52, x53, x54, x55, x56, x57, x58, x59, x60], h⟩ k =
obH (boxV Try.prog 104 x0 h) fun t1_0 h1 =>
(loadV Try.prog 104 t1_0 h1).bind fun t4_2 =>
obH (evC Try.prog 71 #[t4_2] h1) fun t5_3 h4 =>
(unV Try.prog .not t5_3).bind fun t6_5 =>
cnd t6_5 (
k .ret ⟨#[x0, t1_0, (Go.Value.slice Option.none 0 0), x3, t4_2, t5_3, t6_5, x7, x8, x9, x10, x11, x12, x13, x14, x15, x16, x17, x18, x19, x20, x21, x22, x23, x24, x25, x26, x27, x28, x29, x30, x31, x32, x33, x34, x35, x36, x37, x38, x39, x40, x41, x42, x43, x44, x45, x46, x47, x48, x49, x50, x51, x52, x53, x54, x55, x56, x57, x58, x59, x60], h4⟩) (
obH (evC Try.prog 42 #[] h4) fun t7_6 h7 =>
(fieldAddrV Try.prog 104 t1_0 0).bind fun t9_8 =>
(loadV Try.prog 3 t9_8 h7).bind fun t10_9 =>
obH (convV Try.prog 3 46 t10_9 h7) fun t11_10 h11 =>
obH (evC Try.prog 43 #[t7_6, t11_10] h11) fun t12_12 h13 =>
(fieldAddrV Try.prog 104 t1_0 1).bind fun t14_14 =>
(loadV Try.prog 46 t14_14 h13).bind fun t15_15 =>
obH (evC Try.prog 43 #[t7_6, t15_15] h13) fun t16_16 h17 =>
(fieldAddrV Try.prog 104 t1_0 2).bind fun t18_18 =>
(loadV Try.prog 47 t18_18 h17).bind fun t19_19 =>
obH (evC Try.prog 59 #[t7_6, t19_19] h17) fun t20_20 h21 =>
(fieldAddrV Try.prog 104 t1_0 3).bind fun t22_22 =>
(loadV Try.prog 3 t22_22 h21).bind fun t23_23 =>
obH (convV Try.prog 3 46 t23_23 h21) fun t24_24 h25 =>
obH (evC Try.prog 43 #[t7_6, t24_24] h25) fun t25_26 h27 =>
(fieldAddrV Try.prog 104 t1_0 3).bind fun t26_28 =>
(loadV Try.prog 3 t26_28 h27).bind fun t27_29 =>
(binV Try.prog .eql 3 (.tmp 27) (.const (Go.Value.int Go.IntKind.i64 0)) t27_29 (Go.Value.int Go.IntKind.i64 0)).bind fun t28_30 =>
cnd t28_30 (
(fieldAddrV Try.prog 104 t1_0 8).bind fun t30_31 =>
(loadV Try.prog 23 t30_31 h27).bind fun t31_32 =>
obH (evC Try.prog 61 #[t7_6, t31_32] h27) fun t32_33 h34 =>
codeK Try.prog (evC Try.prog) loopL c66_1 ⟨#[x0, t1_0, (Go.Value.slice Option.none 0 0), t7_6, t4_2, t5_3, t6_5, t7_6, t7_6, t9_8, t10_9, t11_10, t12_12, t7_6, t14_14, t15_15, t16_16, t7_6, t18_18, t19_19, t20_20, t7_6, t22_22, t23_23, t24_24, t25_26, t26_28, t27_29, t28_30, t7_6, t30_31, t31_32, t32_33, x33, x34, x35, x36, x37, x38, x39, x40, x41, x42, x43, x44, x45, x46, x47, x48, x49, x50, x51, x52, x53, x54, x55, x56, x57, x58, x59, x60], h34⟩ k) (
(fieldAddrV Try.prog 104 t1_0 4).bind fun t34_35 =>
(loadV Try.prog 3 t34_35 h27).bind fun t35_36 =>
obH (convV Try.prog 3 46 t35_36 h27) fun t36_37 h38 =>
obH (evC Try.prog 43 #[t7_6, t36_37] h38) fun t37_39 h40 =>
codeK Try.prog (evC Try.prog) loopL c66_1 ⟨#[x0, t1_0, (Go.Value.slice Option.none 0 0), t7_6, t4_2, t5_3, t6_5, t7_6, t7_6, t9_8, t10_9, t11_10, t12_12, t7_6, t14_14, t15_15, t16_16, t7_6, t18_18, t19_19, t20_20, t7_6, t22_22, t23_23, t24_24, t25_26, t26_28, t27_29, t28_30, x29, x30, x31, x32, t7_6, t34_35, t35_36, t36_37, t37_39, x38, x39, x40, x41, x42, x43, x44, x45, x46, x47, x48, x49, x50, x51, x52, x53, x54, x55, x56, x57, x58, x59, x60], h40⟩ k)) := by kernel_rfl
theorem c66_1_eq {β : Type} (x0 x1 x2 x3 x4 x5 x6 x7 x8 x9 x10 x11 x12 x13 x14 x15 x16 x17 x18 x19 x20 x21 x22 x23 x24 x25 x26 x27 x28 x29 x30 x31 x32 x33 x34 x35 x36 x37 x38 x39 x40 x41 x42 x43 x44 x45 x46 x47 x48 x49 x50 x51 x52 x53 x54 x55 x56 x57 x58 x59 x60 : Value) (h : Heap) (k : Ex → St → Option β) : codeK Try.prog (evC Try.prog) loopL c66_1 ⟨#[x0, x1, x2, x3, x4, x5, x6, x7, x8, x9, x10, x11, x12, x13, x14, x15, x16, x17, x18, x19, x20, x21, x22, x23, x24, x25, x26, x27, x28, x29, x30, x31, x32, x33, x34, x35, x36, x37, x38, x39, x40, x41, x42, x43, x44, x45, x46, x47, x48, x49, x50, x51, x52, x53, x54, x55, x56, x57, x58, x59, x60], h⟩ k =
(fieldAddrV Try.prog 104 x1 3).bind fun t38_41 =>
(loadV Try.prog 3 t38_41 h).bind fun t39_42 =>
obH (evC Try.prog 110 #[t39_42] h) fun t40_43 h44 =>
cnd t40_43 (
(fieldAddrV Try.prog 104 x1 5).bind fun t42_45 =>
(loadV Try.prog 84 t42_45 h44).bind fun t43_46 =>
obH (evC Try.prog 57 #[x3, t43_46] h44) fun t44_47 h48 =>
(fieldAddrV Try.prog 104 x1 6).bind fun t46_49 =>
(loadV Try.prog 3 t46_49 h48).bind fun t47_50 =>
(binV Try.prog .add 3 (.tmp 47) (.const (Go.Value.int Go.IntKind.i64 1)) t47_50 (Go.Value.int Go.IntKind.i64 1)).bind fun t48_51 =>
obH (convV Try.prog 3 46 t48_51 h48) fun t49_52 h53 =>
obH (evC Try.prog 43 #[x3, t49_52] h53) fun t50_54 h55 =>
(fieldAddrV Try.prog 104 x1 7).bind fun t52_56 =>
(loadV Try.prog 46 t52_56 h55).bind fun t53_57 =>
obH (evC Try.prog 43 #[x3, t53_57] h55) fun t54_58 h59 =>
codeK Try.prog (evC Try.prog) loopL c66_2 ⟨#[x0, x1, x2, x3, x4, x5, x6, x7, x8, x9, x10, x11, x12, x13, x14, x15, x16, x17, x18, x19, x20, x21, x22, x23, x24, x25, x26, x27, x28, x29, x30, x31, x32, x33, x34, x35, x36, x37, t38_41, t39_42, t40_43, x3, t42_45, t43_46, t44_47, x3, t46_49, t47_50, t48_51, t49_52, t50_54, x3, t52_56, t53_57, t54_58, x55, x56, x57, x58, x59, x60], h59⟩ k) (
codeK Try.prog (evC Try.prog) loopL c66_2 ⟨#[x0, x1, x2, x3, x4, x5, x6, x7, x8, x9, x10, x11, x12, x13, x14, x15, x16, x17, x18, x19, x20, x21, x22, x23, x24, x25, x26, x27, x28, x29, x30, x31, x32, x33, x34, x35, x36, x37, t38_41, t39_42, t40_43, x41, x42, x43, x44, x45, x46, x47, x48, x49, x50, x51, x52, x53, x54, x55, x56, x57, x58, x59, x60], h44⟩ k) := by kernel_rfl
theorem c66_2_eq {β : Type} (x0 x1 x2 x3 x4 x5 x6 x7 x8 x9 x10 x11 x12 x13 x14 x15 x16 x17 x18 x19 x20 x21 x22 x23 x24 x25 x26 x27 x28 x29 x30 x31 x32 x33 x34 x35 x36 x37 x38 x39 x40 x41 x42 x43 x44 x45 x46 x47 x48 x49 x50 x51 x52 x53 x54 x55 x56 x57 x58 x59 x60 : Value) (h : Heap) (k : Ex → St → Option β) : codeK Try.prog (evC Try.prog) loopL c66_2 ⟨#[x0, x1, x2, x3, x4, x5, x6, x7, x8, x9, x10, x11, x12, x13, x14, x15, x16, x17, x18, x19, x20, x21, x22, x23, x24, x25, x26, x27, x28, x29, x30, x31, x32, x33, x34, x35, x36, x37, x38, x39, x40, x41, x42, x43, x44, x45, x46, x47, x48, x49, x50, x51, x52, x53, x54, x55, x56, x57, x58, x59, x60], h⟩ k =
(fieldAddrV Try.prog 104 x1 9).bind fun t56_60 =>
(loadV Try.prog 23 t56_60 h).bind fun t57_61 =>
obH (evC Try.prog 61 #[x3, t57_61] h) fun t58_62 h63 =>
obH (evC Try.prog 44 #[x3] h63) fun t60_64 h65 =>
k .ret ⟨#[x0, x1, t60_64, x3, x4, x5, x6, x7, x8, x9, x10, x11, x12, x13, x14, x15, x16, x17, x18, x19, x20, x21, x22, x23, x24, x25, x26, x27, x28, x29, x30, x31, x32, x33, x34, x35, x36, x37, x38, x39, x40, x41, x42, x43, x44, x45, x46, x47, x48, x49, x50, x51, x52, x53, x54, x3, t56_60, t57_61, t58_62, x3, t60_64], h65⟩ := by kernel_rfl
theorem call66 (x0 : Value) (h : Heap) : evC Try.prog 66 #[x0] h = codeK Try.prog (evC Try.prog) loopL c66_0 ⟨#[x0, undef, undef, undef, undef, undef, undef, undef, undef, undef, undef, undef, undef, undef, undef, undef, undef, undef, undef, undef, undef, undef, undef, undef, undef, undef, undef, undef, undef, undef, undef, undef, undef, undef, undef, undef, undef, undef, undef, undef, undef, undef, undef, undef, undef, undef, undef, undef, undef, undef, undef, undef, undef, undef, undef, undef, undef, undef, undef, undef, undef], nm h⟩ (retK Try.f66 Try.prog h) :=
  (evC_call 66 Try.f66 c66_0 Try.func66 (by kernel_rfl) #[x0] h).trans (by kernel_rfl)
theorem ret66 (x0 x1 x2 x3 x4 x5 x6 x7 x8 x9 x10 x11 x12 x13 x14 x15 x16 x17 x18 x19 x20 x21 x22 x23 x24 x25 x26 x27 x28 x29 x30 x31 x32 x33 x34 x35 x36 x37 x38 x39 x40 x41 x42 x43 x44 x45 x46 x47 x48 x49 x50 x51 x52 x53 x54 x55 x56 x57 x58 x59 x60 : Value) (h0 h : Heap) : retK Try.f66 Try.prog h0 .ret ⟨#[x0, x1, x2, x3, x4, x5, x6, x7, x8, x9, x10, x11, x12, x13, x14, x15, x16, x17, x18, x19, x20, x21, x22, x23, x24, x25, x26, x27, x28, x29, x30, x31, x32, x33, x34, x35, x36, x37, x38, x39, x40, x41, x42, x43, x44, x45, x46, x47, x48, x49, x50, x51, x52, x53, x54, x55, x56, x57, x58, x59, x60], h⟩ = fin h0 (some x2) h := by kernel_rfl
theorem retn66 (x0 x1 x2 x3 x4 x5 x6 x7 x8 x9 x10 x11 x12 x13 x14 x15 x16 x17 x18 x19 x20 x21 x22 x23 x24 x25 x26 x27 x28 x29 x30 x31 x32 x33 x34 x35 x36 x37 x38 x39 x40 x41 x42 x43 x44 x45 x46 x47 x48 x49 x50 x51 x52 x53 x54 x55 x56 x57 x58 x59 x60 : Value) (h0 h : Heap) : retK Try.f66 Try.prog h0 .normal ⟨#[x0, x1, x2, x3, x4, x5, x6, x7, x8, x9, x10, x11, x12, x13, x14, x15, x16, x17, x18, x19, x20, x21, x22, x23, x24, x25, x26, x27, x28, x29, x30, x31, x32, x33, x34, x35, x36, x37, x38, x39, x40, x41, x42, x43, x44, x45, x46, x47, x48, x49, x50, x51, x52, x53, x54, x55, x56, x57, x58, x59, x60], h⟩ = fin h0 (some x2) h := by kernel_rfl
end Go.Am
namespace Go.Am
open Go.Proofs
set_option maxRecDepth 100000
noncomputable def c73_0 : Code := bodyC Try.f73 []
theorem c73_0_eq {β : Type} (x0 x1 x2 x3 x4 x5 : Value) (h : Heap) (k : Ex → St → Option β) : codeK Try.prog (evC Try.prog) loopL c73_0 ⟨#[x0, x1, x2, x3, x4, x5], h⟩ k =
obH (boxV Try.prog 104 x0 h) fun t1_0 h1 =>
(loadV Try.prog 104 t1_0 h1).bind fun t3_2 =>
obH (evC Try.prog 66 #[t3_2] h1) fun t4_3 h4 =>
(lenV Try.prog 23 t4_3 h4).bind fun t5_5 =>
k .ret ⟨#[x0, t1_0, t5_5, t3_2, t4_3, t5_5], h4⟩ := by kernel_rfl
theorem call73 (x0 : Value) (h : Heap) : evC Try.prog 73 #[x0] h = codeK Try.prog (evC Try.prog) loopL c73_0 ⟨#[x0, undef, undef, undef, undef, undef], nm h⟩ (retK Try.f73 Try.prog h) :=
  (evC_call 73 Try.f73 c73_0 Try.func73 (by kernel_rfl) #[x0] h).trans (by kernel_rfl)
theorem ret73 (x0 x1 x2 x3 x4 x5 : Value) (h0 h : Heap) : retK Try.f73 Try.prog h0 .ret ⟨#[x0, x1, x2, x3, x4, x5], h⟩ = fin h0 (some x2) h := by kernel_rfl
theorem retn73 (x0 x1 x2 x3 x4 x5 : Value) (h0 h : Heap) : retK Try.f73 Try.prog h0 .normal ⟨#[x0, x1, x2, x3, x4, x5], h⟩ = fin h0 (some x2) h := by kernel_rfl
end Go.Am
namespace Go.Am
open Go.Proofs
set_option maxRecDepth 100000
noncomputable def c69_0 : Code := bodyC Try.f69 []
noncomputable def c69_1 : Code := bodyC Try.f69 [true, true, true, true]
noncomputable def c69_2 : Code := bodyC Try.f69 [true, true, true, true, true]
theorem c69_0_eq {β : Type} (x0 x1 x2 x3 x4 x5 x6 x7 x8 x9 x10 x11 x12 x13 x14 x15 x16 x17 x18 x19 x20 x21 x22 x23 x24 x25 x26 x27 x28 x29 x30 x31 x32 x33 x34 x35 x36 x37 x38 x39 x40 x41 x42 x43 x44 x45 x46 x47 x48 x49 x50 x51 x52 x53 x54 x55 x56 : Value) (h : Heap) (k : Ex → St → Option β) : codeK Try.prog (evC Try.prog) loopL c69_0 ⟨#[x0, x1, x2, x3, x4, x5, x6, x7, x8, x9, x10, x11, x12, x13, x14, x15, x16, x17, x18, x19, x20, x21, x22, x23, x24, x25, x26, x27, x28, x29, x30, x31, x32, x33, x34, x35, x36, x37, x38, x39, x40, x41, x42, x43, x44, x45, x46, x47, x48, x49, x50, x51, x52, x53, x54, x55, x56], h⟩ k =
obH (allocV Try.prog 104 h) fun t2_0 h1 =>
obH (evC Try.prog 45 #[x0] h1) fun t7_2 h3 =>
obH (evC Try.prog 46 #[t7_2, (Go.Value.int Go.IntKind.u64 16)] h3) fun t9_4 h5 =>
obH (convV Try.prog 46 3 t9_4 h5) fun t10_6 h7 =>
obH (evC Try.prog 46 #[t7_2, (Go.Value.int Go.IntKind.u64 18446744073709551615)] h7) fun t12_8 h9 =>
obH (evC Try.prog 80 #[(Go.Value.int Go.IntKind.i64 16)] h9) fun t14_10 h11 =>
obH (evC Try.prog 49 #[t7_2, t14_10] h11) fun t15_12 h13 =>
obH (evC Try.prog 46 #[t7_2, (Go.Value.int Go.IntKind.u64 3)] h13) fun t17_14 h15 =>
obH (convV Try.prog 46 3 t17_14 h15) fun t18_16 h17 =>
(buildV Try.prog 104 #[(0, t10_6), (1, t12_8), (2, t15_12), (3, t18_16)]).bind fun t19_18 =>
obH (allocV Try.prog 104 h17) fun t5_19 h20 =>
(storeV Try.prog 104 t5_19 t19_18 h20).bind fun h21 =>
(fieldAddrV Try.prog 104 t5_19 3).bind fun t20_22 =>
(loadV Try.prog 3 t20_22 h21).bind fun t21_23 =>
(binV Try.prog .eql 3 (.tmp 21) (.const (Go.Value.int Go.IntKind.i64 0)) t21_23 (Go.Value.int Go.IntKind.i64 0)).bind fun t22_24 =>
cnd t22_24 (
obH (evC Try.prog 54 #[t7_2, (Go.Value.int Go.IntKind.i64 256)] h21) fun t24_25 h26 =>
(fieldAddrV Try.prog 104 t5_19 8).bind fun t25_27 =>
(storeV Try.prog 23 t25_27 t24_25 h26).bind fun h28 =>
codeK Try.prog (evC Try.prog) loopL c69_1 ⟨#[x0, x1, t2_0, (Go.Value.int Go.IntKind.i64 0), t7_2, t5_19, x0, t7_2, t7_2, t9_4, t10_6, t7_2, t12_8, t7_2, t14_10, t15_12, t7_2, t17_14, t18_16, t19_18, t20_22, t21_23, t22_24, t7_2, t24_25, t25_27, x26, x27, x28, x29, x30, x31, x32, x33, x34, x35, x36, x37, x38, x39, x40, x41, x42, x43, x44, x45, x46, x47, x48, x49, x50, x51, x52, x53, x54, x55, x56], h28⟩ k) (
obH (evC Try.prog 46 #[t7_2, (Go.Value.int Go.IntKind.u64 16)] h21) fun t27_29 h30 =>
obH (convV Try.prog 46 3 t27_29 h30) fun t28_31 h32 =>
(fieldAddrV Try.prog 104 t5_19 4).bind fun t29_33 =>
(storeV Try.prog 3 t29_33 t28_31 h32).bind fun h34 =>
codeK Try.prog (evC Try.prog) loopL c69_1 ⟨#[x0, x1, t2_0, (Go.Value.int Go.IntKind.i64 0), t7_2, t5_19, x0, t7_2, t7_2, t9_4, t10_6, t7_2, t12_8, t7_2, t14_10, t15_12, t7_2, t17_14, t18_16, t19_18, t20_22, t21_23, t22_24, x23, x24, x25, t7_2, t27_29, t28_31, t29_33, x30, x31, x32, x33, x34, x35, x36, x37, x38, x39, x40, x41, x42, x43, x44, x45, x46, x47, x48, x49, x50, x51, x52, x53, x54, x55, x56], h34⟩ k) := by kernel_rfl
theorem c69_1_eq {β : Type} (x0 x1 x2 x3 x4 x5 x6 x7 x8 x9 x10 x11 x12 x13 x14 x15 x16 x17 x18 x19 x20 x21 x22 x23 x24 x25 x26 x27 x28 x29 x30 x31 x32 x33 x34 x35 x36 x37 x38 x39 x40 x41 x42 x43 x44 x45 x46 x47 x48 x49 x50 x51 x52 x53 x54 x55 x56 : Value) (h : Heap) (k : Ex → St → Option β) : codeK Try.prog (evC Try.prog) loopL c69_1 ⟨#[x0, x1, x2, x3, x4, x5, x6, x7, x8, x9, x10, x11, x12, x13, x14, x15, x16, x17, x18, x19, x20, x21, x22, x23, x24, x25, x26, x27, x28, x29, x30, x31, x32, x33, x34, x35, x36, x37, x38, x39, x40, x41, x42, x43, x44, x45, x46, x47, x48, x49, x50, x51, x52, x53, x54, x55, x56], h⟩ k =
(fieldAddrV Try.prog 104 x5 3).bind fun t30_35 =>
(loadV Try.prog 3 t30_35 h).bind fun t31_36 =>
obH (evC Try.prog 110 #[t31_36] h) fun t32_37 h38 =>
cnd t32_37 (
obH (evC Try.prog 52 #[x4] h38) fun t34_39 h40 =>
(fieldAddrV Try.prog 104 x5 5).bind fun t35_41 =>
(storeV Try.prog 84 t35_41 t34_39 h40).bind fun h42 =>
obH (evC Try.prog 46 #[x4, (Go.Value.int Go.IntKind.u64 16)] h42) fun t37_43 h44 =>
obH (convV Try.prog 46 3 t37_43 h44) fun t38_45 h46 =>
(binV Try.prog .sub 3 (.tmp 38) (.const (Go.Value.int Go.IntKind.i64 1)) t38_45 (Go.Value.int Go.IntKind.i64 1)).bind fun t39_47 =>
(fieldAddrV Try.prog 104 x5 6).bind fun t40_48 =>
(storeV Try.prog 3 t40_48 t39_47 h46).bind fun h49 =>
obH (evC Try.prog 46 #[x4, (Go.Value.int Go.IntKind.u64 18446744073709551615)] h49) fun t42_50 h51 =>
(fieldAddrV Try.prog 104 x5 7).bind fun t43_52 =>
(storeV Try.prog 46 t43_52 t42_50 h51).bind fun h53 =>
codeK Try.prog (evC Try.prog) loopL c69_2 ⟨#[x0, x1, x2, x3, x4, x5, x6, x7, x8, x9, x10, x11, x12, x13, x14, x15, x16, x17, x18, x19, x20, x21, x22, x23, x24, x25, x26, x27, x28, x29, t30_35, t31_36, t32_37, x4, t34_39, t35_41, x4, t37_43, t38_45, t39_47, t40_48, x4, t42_50, t43_52, x44, x45, x46, x47, x48, x49, x50, x51, x52, x53, x54, x55, x56], h53⟩ k) (
codeK Try.prog (evC Try.prog) loopL c69_2 ⟨#[x0, x1, x2, x3, x4, x5, x6, x7, x8, x9, x10, x11, x12, x13, x14, x15, x16, x17, x18, x19, x20, x21, x22, x23, x24, x25, x26, x27, x28, x29, t30_35, t31_36, t32_37, x33, x34, x35, x36, x37, x38, x39, x40, x41, x42, x43, x44, x45, x46, x47, x48, x49, x50, x51, x52, x53, x54, x55, x56], h38⟩ k) := by kernel_rfl
theorem c69_2_eq {β : Type} (x0 x1 x2 x3 x4 x5 x6 x7 x8 x9 x10 x11 x12 x13 x14 x15 x16 x17 x18 x19 x20 x21 x22 x23 x24 x25 x26 x27 x28 x29 x30 x31 x32 x33 x34 x35 x36 x37 x38 x39 x40 x41 x42 x43 x44 x45 x46 x47 x48 x49 x50 x51 x52 x53 x54 x55 x56 : Value) (h : Heap) (k : Ex → St → Option β) : codeK Try.prog (evC Try.prog) loopL c69_2 ⟨#[x0, x1, x2, x3, x4, x5, x6, x7, x8, x9, x10, x11, x12, x13, x14, x15, x16, x17, x18, x19, x20, x21, x22, x23, x24, x25, x26, x27, x28, x29, x30, x31, x32, x33, x34, x35, x36, x37, x38, x39, x40, x41, x42, x43, x44, x45, x46, x47, x48, x49, x50, x51, x52, x53, x54, x55, x56], h⟩ k =
obH (evC Try.prog 54 #[x4, (Go.Value.int Go.IntKind.i64 20000)] h) fun t45_54 h55 =>
(fieldAddrV Try.prog 104 x5 9).bind fun t46_56 =>
(storeV Try.prog 23 t46_56 t45_54 h55).bind fun h57 =>
obH (evC Try.prog 47 #[x4] h57) fun t48_58 h59 =>
(unV Try.prog .not t48_58).bind fun t49_60 =>
(gd (wt t49_60 false) (loadV Try.prog 104 x5 h59)).bind fun t51_61 =>
obH (gdH (wt t49_60 false) h59 (evC Try.prog 71 #[t51_61] h59)) fun t52_62 h63 =>
(gd (wt t49_60 false) (unV Try.prog .not t52_62)).bind fun t53_64 =>
(pickV t49_60 (Go.Value.bool Bool.true) t53_64).bind fun t54_65 =>
cnd t54_65 (
(buildV Try.prog 104 #[]).bind fun t55_66 =>
(storeV Try.prog 104 x2 t55_66 h63).bind fun h67 =>
k .ret ⟨#[x0, x1, x2, (Go.Value.int Go.IntKind.i64 2), x4, x5, x6, x7, x8, x9, x10, x11, x12, x13, x14, x15, x16, x17, x18, x19, x20, x21, x22, x23, x24, x25, x26, x27, x28, x29, x30, x31, x32, x33, x34, x35, x36, x37, x38, x39, x40, x41, x42, x43, x4, t45_54, t46_56, x4, t48_58, t49_60, t49_60, t51_61, t52_62, t53_64, t54_65, t55_66, x56], h67⟩) (
(loadV Try.prog 104 x5 h63).bind fun t56_68 =>
(storeV Try.prog 104 x2 t56_68 h63).bind fun h69 =>
k .ret ⟨#[x0, x1, x2, (Go.Value.int Go.IntKind.i64 0), x4, x5, x6, x7, x8, x9, x10, x11, x12, x13, x14, x15, x16, x17, x18, x19, x20, x21, x22, x23, x24, x25, x26, x27, x28, x29, x30, x31, x32, x33, x34, x35, x36, x37, x38, x39, x40, x41, x42, x43, x4, t45_54, t46_56, x4, t48_58, t49_60, t49_60, t51_61, t52_62, t53_64, t54_65, x55, t56_68], h69⟩) := by kernel_rfl
theorem call69 (x0 : Value) (h : Heap) : evC Try.prog 69 #[x0] h = codeK Try.prog (evC Try.prog) loopL c69_0 ⟨#[x0, undef, undef, undef, undef, undef, undef, undef, undef, undef, undef, undef, undef, undef, undef, undef, undef, undef, undef, undef, undef, undef, undef, undef, undef, undef, undef, undef, undef, undef, undef, undef, undef, undef, undef, undef, undef, undef, undef, undef, undef, undef, undef, undef, undef, undef, undef, undef, undef, undef, undef, undef, undef, undef, undef, undef, undef], nm h⟩ (retK Try.f69 Try.prog h) :=
  (evC_call 69 Try.f69 c69_0 Try.func69 (by kernel_rfl) #[x0] h).trans (by kernel_rfl)
theorem ret69 (x0 x1 x2 x3 x4 x5 x6 x7 x8 x9 x10 x11 x12 x13 x14 x15 x16 x17 x18 x19 x20 x21 x22 x23 x24 x25 x26 x27 x28 x29 x30 x31 x32 x33 x34 x35 x36 x37 x38 x39 x40 x41 x42 x43 x44 x45 x46 x47 x48 x49 x50 x51 x52 x53 x54 x55 x56 : Value) (h0 h : Heap) : retK Try.f69 Try.prog h0 .ret ⟨#[x0, x1, x2, x3, x4, x5, x6, x7, x8, x9, x10, x11, x12, x13, x14, x15, x16, x17, x18, x19, x20, x21, x22, x23, x24, x25, x26, x27, x28, x29, x30, x31, x32, x33, x34, x35, x36, x37, x38, x39, x40, x41, x42, x43, x44, x45, x46, x47, x48, x49, x50, x51, x52, x53, x54, x55, x56], h⟩ = fin h0 (rvals ((loadV Try.prog 104 x2 h).bind fun r0 => some [r0, x3])) h := by kernel_rfl
theorem retn69 (x0 x1 x2 x3 x4 x5 x6 x7 x8 x9 x10 x11 x12 x13 x14 x15 x16 x17 x18 x19 x20 x21 x22 x23 x24 x25 x26 x27 x28 x29 x30 x31 x32 x33 x34 x35 x36 x37 x38 x39 x40 x41 x42 x43 x44 x45 x46 x47 x48 x49 x50 x51 x52 x53 x54 x55 x56 : Value) (h0 h : Heap) : retK Try.f69 Try.prog h0 .normal ⟨#[x0, x1, x2, x3, x4, x5, x6, x7, x8, x9, x10, x11, x12, x13, x14, x15, x16, x17, x18, x19, x20, x21, x22, x23, x24, x25, x26, x27, x28, x29, x30, x31, x32, x33, x34, x35, x36, x37, x38, x39, x40, x41, x42, x43, x44, x45, x46, x47, x48, x49, x50, x51, x52, x53, x54, x55, x56], h⟩ = fin h0 (rvals ((loadV Try.prog 104 x2 h).bind fun r0 => some [r0, x3])) h := by kernel_rfl
end Go.Am
namespace Go.Am
open Go.Proofs
set_option maxRecDepth 100000
noncomputable def c41_0 : Code := bodyC Try.f41 []
theorem c41_0_eq {β : Type} (x0 x1 x2 x3 x4 x5 x6 x7 x8 x9 x10 x11 x12 x13 x14 x15 x16 x17 x18 x19 x20 x21 x22 x23 x24 x25 x26 x27 x28 x29 x30 x31 x32 x33 x34 x35 : Value) (h : Heap) (k : Ex → St → Option β) : codeK Try.prog (evC Try.prog) loopL c41_0 ⟨#[x0, x1, x2, x3, x4, x5, x6, x7, x8, x9, x10, x11, x12, x13, x14, x15, x16, x17, x18, x19, x20, x21, x22, x23, x24, x25, x26, x27, x28, x29, x30, x31, x32, x33, x34, x35], h⟩ k =
obH (evC Try.prog 42 #[] h) fun t3_0 h1 =>
(binV Try.prog .eql 71 (.tmp 4) (.const (Go.Value.pointer Option.none)) t3_0 (Go.Value.pointer Option.none)).bind fun t5_2 =>
cnd t5_2 (
k .ret ⟨#[(Go.Value.bool Bool.false), t3_0, x2, t3_0, t3_0, t5_2, x6, x7, x8, x9, x10, x11, x12, x13, x14, x15, x16, x17, x18, x19, x20, x21, x22, x23, x24, x25, x26, x27, x28, x29, x30, x31, x32, x33, x34, x35], h1⟩) (
obH (evC Try.prog 43 #[t3_0, (Go.Value.int Go.IntKind.u64 300)] h1) fun t7_3 h4 =>
obH (buildSliceV Try.prog 23 1 #[(0, (Go.Value.int Go.IntKind.u8 97))] h4) fun t9_5 h6 =>
obH (convV Try.prog 23 23 t9_5 h6) fun t10_7 h8 =>
obH (evC Try.prog 61 #[t3_0, t10_7] h8) fun t11_9 h10 =>
obH (evC Try.prog 44 #[t3_0] h10) fun t13_11 h12 =>
obH (evC Try.prog 45 #[t13_11] h12) fun t14_13 h14 =>
(binV Try.prog .eql 76 (.tmp 15) (.const (Go.Value.pointer Option.none)) t14_13 (Go.Value.pointer Option.none)).bind fun t16_15 =>
cnd t16_15 (
k .ret ⟨#[(Go.Value.bool Bool.false), t3_0, t14_13, t3_0, t3_0, t5_2, t3_0, t7_3, t3_0, t9_5, t10_7, t11_9, t3_0, t13_11, t14_13, t14_13, t16_15, x17, x18, x19, x20, x21, x22, x23, x24, x25, x26, x27, x28, x29, x30, x31, x32, x33, x34, x35], h14⟩) (
obH (evC Try.prog 44 #[t3_0] h14) fun t18_16 h17 =>
obH (convV Try.prog 23 9 t18_16 h17) fun t19_18 h19 =>
(binV Try.prog .eql 9 (.tmp 19) (.const (Go.Value.string { data := #[172, 2, 1, 97] })) t19_18 (Go.Value.string { data := #[172, 2, 1, 97] })).bind fun t20_20 =>
obH (gdH (wt t20_20 true) h19 (evC Try.prog 46 #[(gdV (wt t20_20 true) t14_13), (Go.Value.int Go.IntKind.u64 300)] h19)) fun t23_21 h22 =>
(gd (wt t20_20 true) (binV Try.prog .eql 46 (.tmp 23) (.const (Go.Value.int Go.IntKind.u64 300)) t23_21 (Go.Value.int Go.IntKind.u64 300))).bind fun t24_23 =>
(pickV t20_20 t24_23 (Go.Value.bool Bool.false)).bind fun t25_24 =>
obH (gdH (wt t25_24 true) h22 (evC Try.prog 54 #[(gdV (wt t25_24 true) t14_13), (Go.Value.int Go.IntKind.i64 1)] h22)) fun t28_25 h26 =>
obH (gdH (wt t25_24 true) h26 (convV Try.prog 23 9 t28_25 h26)) fun t29_27 h28 =>
(gd (wt t25_24 true) (binV Try.prog .eql 9 (.tmp 29) (.const (Go.Value.string { data := #[97] })) t29_27 (Go.Value.string { data := #[97] }))).bind fun t30_29 =>
(pickV t25_24 t30_29 (Go.Value.bool Bool.false)).bind fun t31_30 =>
obH (gdH (wt t31_30 true) h28 (evC Try.prog 47 #[(gdV (wt t31_30 true) t14_13)] h28)) fun t34_31 h32 =>
(pickV t31_30 t34_31 (Go.Value.bool Bool.false)).bind fun t35_33 =>
k .ret ⟨#[t35_33, t3_0, t14_13, t3_0, t3_0, t5_2, t3_0, t7_3, t3_0, t9_5, t10_7, t11_9, t3_0, t13_11, t14_13, t14_13, t16_15, t3_0, t18_16, t19_18, t20_20, t20_20, (gdV (wt t20_20 true) t14_13), t23_21, t24_23, t25_24, t25_24, (gdV (wt t25_24 true) t14_13), t28_25, t29_27, t30_29, t31_30, t31_30, (gdV (wt t31_30 true) t14_13), t34_31, t35_33], h32⟩)) := by kernel_rfl
theorem call41 (h : Heap) : evC Try.prog 41 #[] h = codeK Try.prog (evC Try.prog) loopL c41_0 ⟨#[undef, undef, undef, undef, undef, undef, undef, undef, undef, undef, undef, undef, undef, undef, undef, undef, undef, undef, undef, undef, undef, undef, undef, undef, undef, undef, undef, undef, undef, undef, undef, undef, undef, undef, undef, undef], nm h⟩ (retK Try.f41 Try.prog h) :=
  (evC_call 41 Try.f41 c41_0 Try.func41 (by kernel_rfl) #[] h).trans (by kernel_rfl)
theorem ret41 (x0 x1 x2 x3 x4 x5 x6 x7 x8 x9 x10 x11 x12 x13 x14 x15 x16 x17 x18 x19 x20 x21 x22 x23 x24 x25 x26 x27 x28 x29 x30 x31 x32 x33 x34 x35 : Value) (h0 h : Heap) : retK Try.f41 Try.prog h0 .ret ⟨#[x0, x1, x2, x3, x4, x5, x6, x7, x8, x9, x10, x11, x12, x13, x14, x15, x16, x17, x18, x19, x20, x21, x22, x23, x24, x25, x26, x27, x28, x29, x30, x31, x32, x33, x34, x35], h⟩ = fin h0 (some x0) h := by kernel_rfl
theorem retn41 (x0 x1 x2 x3 x4 x5 x6 x7 x8 x9 x10 x11 x12 x13 x14 x15 x16 x17 x18 x19 x20 x21 x22 x23 x24 x25 x26 x27 x28 x29 x30 x31 x32 x33 x34 x35 : Value) (h0 h : Heap) : retK Try.f41 Try.prog h0 .normal ⟨#[x0, x1, x2, x3, x4, x5, x6, x7, x8, x9, x10, x11, x12, x13, x14, x15, x16, x17, x18, x19, x20, x21, x22, x23, x24, x25, x26, x27, x28, x29, x30, x31, x32, x33, x34, x35], h⟩ = fin h0 (some x0) h := by kernel_rfl
end Go.Am
namespace Go.Am
open Go.Proofs
set_option maxRecDepth 100000
noncomputable def c68_0 : Code := bodyC Try.f68 []
theorem c68_0_eq {β : Type} (x0 x1 x2 x3 x4 x5 x6 x7 x8 x9 x10 x11 x12 x13 x14 x15 x16 x17 x18 x19 x20 x21 x22 x23 : Value) (h : Heap) (k : Ex → St → Option β) : codeK Try.prog (evC Try.prog) loopL c68_0 ⟨#[x0, x1, x2, x3, x4, x5, x6, x7, x8, x9, x10, x11, x12, x13, x14, x15, x16, x17, x18, x19, x20, x21, x22, x23], h⟩ k =
obH (boxV Try.prog 104 x0 h) fun t1_0 h1 =>
obH (allocV Try.prog 108 h1) fun t2_2 h3 =>
(fieldAddrV Try.prog 104 t1_0 0).bind fun t3_4 =>
(loadV Try.prog 3 t3_4 h3).bind fun t4_5 =>
(fieldAddrV Try.prog 104 t1_0 1).bind fun t5_6 =>
(loadV Try.prog 46 t5_6 h3).bind fun t6_7 =>
(fieldAddrV Try.prog 104 t1_0 2).bind fun t7_8 =>
(loadV Try.prog 47 t7_8 h3).bind fun t8_9 =>
(fieldAddrV Try.prog 104 t1_0 3).bind fun t9_10 =>
(loadV Try.prog 3 t9_10 h3).bind fun t10_11 =>
(fieldAddrV Try.prog 104 t1_0 4).bind fun t11_12 =>
(loadV Try.prog 3 t11_12 h3).bind fun t12_13 =>
(fieldAddrV Try.prog 104 t1_0 5).bind fun t13_14 =>
(loadV Try.prog 84 t13_14 h3).bind fun t14_15 =>
(fieldAddrV Try.prog 104 t1_0 6).bind fun t15_16 =>
(loadV Try.prog 3 t15_16 h3).bind fun t16_17 =>
(fieldAddrV Try.prog 104 t1_0 7).bind fun t17_18 =>
(loadV Try.prog 46 t17_18 h3).bind fun t18_19 =>
(fieldAddrV Try.prog 104 t1_0 8).bind fun t19_20 =>
(loadV Try.prog 23 t19_20 h3).bind fun t20_21 =>
(fieldAddrV Try.prog 104 t1_0 9).bind fun t21_22 =>
(loadV Try.prog 23 t21_22 h3).bind fun t22_23 =>
(buildV Try.prog 108 #[(0, t4_5), (1, t6_7), (2, t8_9), (3, t10_11), (4, t12_13), (5, t14_15), (6, t16_17), (7, t18_19), (8, t20_21), (9, t22_23)]).bind fun t23_24 =>
(storeV Try.prog 108 t2_2 t23_24 h3).bind fun h25 =>
k .ret ⟨#[x0, t1_0, t2_2, t3_4, t4_5, t5_6, t6_7, t7_8, t8_9, t9_10, t10_11, t11_12, t12_13, t13_14, t14_15, t15_16, t16_17, t17_18, t18_19, t19_20, t20_21, t21_22, t22_23, t23_24], h25⟩ := by kernel_rfl
theorem call68 (x0 : Value) (h : Heap) : evC Try.prog 68 #[x0] h = codeK Try.prog (evC Try.prog) loopL c68_0 ⟨#[x0, undef, undef, undef, undef, undef, undef, undef, undef, undef, undef, undef, undef, undef, undef, undef, undef, undef, undef, undef, undef, undef, undef, undef], nm h⟩ (retK Try.f68 Try.prog h) :=
  (evC_call 68 Try.f68 c68_0 Try.func68 (by kernel_rfl) #[x0] h).trans (by kernel_rfl)
theorem ret68 (x0 x1 x2 x3 x4 x5 x6 x7 x8 x9 x10 x11 x12 x13 x14 x15 x16 x17 x18 x19 x20 x21 x22 x23 : Value) (h0 h : Heap) : retK Try.f68 Try.prog h0 .ret ⟨#[x0, x1, x2, x3, x4, x5, x6, x7, x8, x9, x10, x11, x12, x13, x14, x15, x16, x17, x18, x19, x20, x21, x22, x23], h⟩ = fin h0 (rvals ((loadV Try.prog 108 x2 h).bind fun r0 => some [r0])) h := by kernel_rfl
theorem retn68 (x0 x1 x2 x3 x4 x5 x6 x7 x8 x9 x10 x11 x12 x13 x14 x15 x16 x17 x18 x19 x20 x21 x22 x23 : Value) (h0 h : Heap) : retK Try.f68 Try.prog h0 .normal ⟨#[x0, x1, x2, x3, x4, x5, x6, x7, x8, x9, x10, x11, x12, x13, x14, x15, x16, x17, x18, x19, x20, x21, x22, x23], h⟩ = fin h0 (rvals ((loadV Try.prog 108 x2 h).bind fun r0 => some [r0])) h := by kernel_rfl
end Go.Am
namespace Go.Am
open Go.Proofs
set_option maxRecDepth 100000
noncomputable def c74_0 : Code := bodyC Try.f74 []
theorem c74_0_eq {β : Type} (x0 x1 x2 x3 x4 x5 x6 x7 x8 x9 x10 x11 x12 x13 x14 x15 x16 x17 x18 x19 x20 x21 x22 x23 x24 x25 x26 x27 x28 x29 x30 x31 x32 x33 x34 x35 x36 x37 x38 x39 x40 x41 x42 x43 x44 x45 x46 x47 x48 x49 x50 x51 x52 x53 x54 x55 x56 x57 x58 x59 x60 x61 x62 x63 x64 x65 x66 x67 x68 x69 x70 x71 x72 x73 x74 x75 x76 : Value) (h : Heap) (k : Ex → St → Option β) : codeK Try.prog (evC Try.prog) loopL c74_0 ⟨#[x0, x1, x2, x3, x4, x5, x6, x7, x8, x9, x10, x11, x12, x13, x14, x15, x16, x17, x18, x19, x20, x21, x22, x23, x24, x25, x26, x27, x28, x29, x30, x31, x32, x33, x34, x35, x36, x37, x38, x39, x40, x41, x42, x43, x44, x45, x46, x47, x48, x49, x50, x51, x52, x53, x54, x55, x56, x57, x58, x59, x60, x61, x62, x63, x64, x65, x66, x67, x68, x69, x70, x71, x72, x73, x74, x75, x76], h⟩ k =
obH (boxV Try.prog 108 x0 h) fun t2_0 h1 =>
obH (boxV Try.prog 108 x1 h1) fun t3_2 h3 =>
(fieldAddrV Try.prog 108 t2_0 0).bind fun t5_4 =>
(loadV Try.prog 3 t5_4 h3).bind fun t6_5 =>
(fieldAddrV Try.prog 108 t3_2 0).bind fun t7_6 =>
(loadV Try.prog 3 t7_6 h3).bind fun t8_7 =>
(binV Try.prog .eql 3 (.tmp 6) (.tmp 8) t6_5 t8_7).bind fun t9_8 =>
(gd (wt t9_8 true) (fieldAddrV Try.prog 108 t2_0 1)).bind fun t11_9 =>
(gd (wt t9_8 true) (loadV Try.prog 46 t11_9 h3)).bind fun t12_10 =>
(gd (wt t9_8 true) (fieldAddrV Try.prog 108 t3_2 1)).bind fun t13_11 =>
(gd (wt t9_8 true) (loadV Try.prog 46 t13_11 h3)).bind fun t14_12 =>
(gd (wt t9_8 true) (binV Try.prog .eql 46 (.tmp 12) (.tmp 14) t12_10 t14_12)).bind fun t15_13 =>
(pickV t9_8 t15_13 (Go.Value.bool Bool.false)).bind fun t16_14 =>
(gd (wt t16_14 true) (fieldAddrV Try.prog 108 t2_0 2)).bind fun t18_15 =>
(gd (wt t16_14 true) (loadV Try.prog 46 t18_15 h3)).bind fun t19_16 =>
(gd (wt t16_14 true) (fieldAddrV Try.prog 108 t3_2 2)).bind fun t20_17 =>
(gd (wt t16_14 true) (loadV Try.prog 46 t20_17 h3)).bind fun t21_18 =>
(gd (wt t16_14 true) (binV Try.prog .eql 46 (.tmp 19) (.tmp 21) t19_16 t21_18)).bind fun t22_19 =>
(pickV t16_14 t22_19 (Go.Value.bool Bool.false)).bind fun t23_20 =>
(gd (wt t23_20 true) (fieldAddrV Try.prog 108 t2_0 3)).bind fun t25_21 =>
(gd (wt t23_20 true) (loadV Try.prog 3 t25_21 h3)).bind fun t26_22 =>
(gd (wt t23_20 true) (fieldAddrV Try.prog 108 t3_2 3)).bind fun t27_23 =>
(gd (wt t23_20 true) (loadV Try.prog 3 t27_23 h3)).bind fun t28_24 =>
(gd (wt t23_20 true) (binV Try.prog .eql 3 (.tmp 26) (.tmp 28) t26_22 t28_24)).bind fun t29_25 =>
(pickV t23_20 t29_25 (Go.Value.bool Bool.false)).bind fun t30_26 =>
(gd (wt t30_26 true) (fieldAddrV Try.prog 108 t2_0 4)).bind fun t32_27 =>
(gd (wt t30_26 true) (loadV Try.prog 3 t32_27 h3)).bind fun t33_28 =>
(gd (wt t30_26 true) (fieldAddrV Try.prog 108 t3_2 4)).bind fun t34_29 =>
(gd (wt t30_26 true) (loadV Try.prog 3 t34_29 h3)).bind fun t35_30 =>
(gd (wt t30_26 true) (binV Try.prog .eql 3 (.tmp 33) (.tmp 35) t33_28 t35_30)).bind fun t36_31 =>
(pickV t30_26 t36_31 (Go.Value.bool Bool.false)).bind fun t37_32 =>
(gd (wt t37_32 true) (fieldAddrV Try.prog 108 t2_0 5)).bind fun t39_33 =>
(gd (wt t37_32 true) (loadV Try.prog 84 t39_33 h3)).bind fun t40_34 =>
(gd (wt t37_32 true) (fieldAddrV Try.prog 108 t3_2 5)).bind fun t41_35 =>
(gd (wt t37_32 true) (loadV Try.prog 84 t41_35 h3)).bind fun t42_36 =>
obH (gdH (wt t37_32 true) h3 (evC Try.prog 51 #[t40_34, t42_36] h3)) fun t43_37 h38 =>
(pickV t37_32 t43_37 (Go.Value.bool Bool.false)).bind fun t44_39 =>
(gd (wt t44_39 true) (fieldAddrV Try.prog 108 t2_0 6)).bind fun t46_40 =>
(gd (wt t44_39 true) (loadV Try.prog 3 t46_40 h38)).bind fun t47_41 =>
(gd (wt t44_39 true) (fieldAddrV Try.prog 108 t3_2 6)).bind fun t48_42 =>
(gd (wt t44_39 true) (loadV Try.prog 3 t48_42 h38)).bind fun t49_43 =>
(gd (wt t44_39 true) (binV Try.prog .eql 3 (.tmp 47) (.tmp 49) t47_41 t49_43)).bind fun t50_44 =>
(pickV t44_39 t50_44 (Go.Value.bool Bool.false)).bind fun t51_45 =>
(gd (wt t51_45 true) (fieldAddrV Try.prog 108 t2_0 7)).bind fun t53_46 =>
(gd (wt t51_45 true) (loadV Try.prog 46 t53_46 h38)).bind fun t54_47 =>
(gd (wt t51_45 true) (fieldAddrV Try.prog 108 t3_2 7)).bind fun t55_48 =>
(gd (wt t51_45 true) (loadV Try.prog 46 t55_48 h38)).bind fun t56_49 =>
(gd (wt t51_45 true) (binV Try.prog .eql 46 (.tmp 54) (.tmp 56) t54_47 t56_49)).bind fun t57_50 =>
(pickV t51_45 t57_50 (Go.Value.bool Bool.false)).bind fun t58_51 =>
(gd (wt t58_51 true) (fieldAddrV Try.prog 108 t2_0 8)).bind fun t60_52 =>
(gd (wt t58_51 true) (loadV Try.prog 23 t60_52 h38)).bind fun t61_53 =>
obH (gdH (wt t58_51 true) h38 (convV Try.prog 23 9 t61_53 h38)) fun t62_54 h55 =>
(gd (wt t58_51 true) (fieldAddrV Try.prog 108 t3_2 8)).bind fun t63_56 =>
(gd (wt t58_51 true) (loadV Try.prog 23 t63_56 h55)).bind fun t64_57 =>
obH (gdH (wt t58_51 true) h55 (convV Try.prog 23 9 t64_57 h55)) fun t65_58 h59 =>
(gd (wt t58_51 true) (binV Try.prog .eql 9 (.tmp 62) (.tmp 65) t62_54 t65_58)).bind fun t66_60 =>
(pickV t58_51 t66_60 (Go.Value.bool Bool.false)).bind fun t67_61 =>
(gd (wt t67_61 true) (fieldAddrV Try.prog 108 t2_0 9)).bind fun t69_62 =>
(gd (wt t67_61 true) (loadV Try.prog 23 t69_62 h59)).bind fun t70_63 =>
obH (gdH (wt t67_61 true) h59 (convV Try.prog 23 9 t70_63 h59)) fun t71_64 h65 =>
(gd (wt t67_61 true) (fieldAddrV Try.prog 108 t3_2 9)).bind fun t72_66 =>
(gd (wt t67_61 true) (loadV Try.prog 23 t72_66 h65)).bind fun t73_67 =>
obH (gdH (wt t67_61 true) h65 (convV Try.prog 23 9 t73_67 h65)) fun t74_68 h69 =>
(gd (wt t67_61 true) (binV Try.prog .eql 9 (.tmp 71) (.tmp 74) t71_64 t74_68)).bind fun t75_70 =>
(pickV t67_61 t75_70 (Go.Value.bool Bool.false)).bind fun t76_71 =>
k .ret ⟨#[x0, x1, t2_0, t3_2, t76_71, t5_4, t6_5, t7_6, t8_7, t9_8, t9_8, t11_9, t12_10, t13_11, t14_12, t15_13, t16_14, t16_14, t18_15, t19_16, t20_17, t21_18, t22_19, t23_20, t23_20, t25_21, t26_22, t27_23, t28_24, t29_25, t30_26, t30_26, t32_27, t33_28, t34_29, t35_30, t36_31, t37_32, t37_32, t39_33, t40_34, t41_35, t42_36, t43_37, t44_39, t44_39, t46_40, t47_41, t48_42, t49_43, t50_44, t51_45, t51_45, t53_46, t54_47, t55_48, t56_49, t57_50, t58_51, t58_51, t60_52, t61_53, t62_54, t63_56, t64_57, t65_58, t66_60, t67_61, t67_61, t69_62, t70_63, t71_64, t72_66, t73_67, t74_68, t75_70, t76_71], h69⟩ := by kernel_rfl
theorem call74 (x0 x1 : Value) (h : Heap) : evC Try.prog 74 #[x0, x1] h = codeK Try.prog (evC Try.prog) loopL c74_0 ⟨#[x0, x1, undef, undef, undef, undef, undef, undef, undef, undef, undef, undef, undef, undef, undef, undef, undef, undef, undef, undef, undef, undef, undef, undef, undef, undef, undef, undef, undef, undef, undef, undef, undef, undef, undef, undef, undef, undef, undef, undef, undef, undef, undef, undef, undef, undef, undef, undef, undef, undef, undef, undef, undef, undef, undef, undef, undef, undef, undef, undef, undef, undef, undef, undef, undef, undef, undef, undef, undef, undef, undef, undef, undef, undef, undef, undef, undef], nm h⟩ (retK Try.f74 Try.prog h) :=
  (evC_call 74 Try.f74 c74_0 Try.func74 (by kernel_rfl) #[x0, x1] h).trans (by kernel_rfl)
theorem ret74 (x0 x1 x2 x3 x4 x5 x6 x7 x8 x9 x10 x11 x12 x13 x14 x15 x16 x17 x18 x19 x20 x21 x22 x23 x24 x25 x26 x27 x28 x29 x30 x31 x32 x33 x34 x35 x36 x37 x38 x39 x40 x41 x42 x43 x44 x45 x46 x47 x48 x49 x50 x51 x52 x53 x54 x55 x56 x57 x58 x59 x60 x61 x62 x63 x64 x65 x66 x67 x68 x69 x70 x71 x72 x73 x74 x75 x76 : Value) (h0 h : Heap) : retK Try.f74 Try.prog h0 .ret ⟨#[x0, x1, x2, x3, x4, x5, x6, x7, x8, x9, x10, x11, x12, x13, x14, x15, x16, x17, x18, x19, x20, x21, x22, x23, x24, x25, x26, x27, x28, x29, x30, x31, x32, x33, x34, x35, x36, x37, x38, x39, x40, x41, x42, x43, x44, x45, x46, x47, x48, x49, x50, x51, x52, x53, x54, x55, x56, x57, x58, x59, x60, x61, x62, x63, x64, x65, x66, x67, x68, x69, x70, x71, x72, x73, x74, x75, x76], h⟩ = fin h0 (some x4) h := by kernel_rfl
theorem retn74 (x0 x1 x2 x3 x4 x5 x6 x7 x8 x9 x10 x11 x12 x13 x14 x15 x16 x17 x18 x19 x20 x21 x22 x23 x24 x25 x26 x27 x28 x29 x30 x31 x32 x33 x34 x35 x36 x37 x38 x39 x40 x41 x42 x43 x44 x45 x46 x47 x48 x49 x50 x51 x52 x53 x54 x55 x56 x57 x58 x59 x60 x61 x62 x63 x64 x65 x66 x67 x68 x69 x70 x71 x72 x73 x74 x75 x76 : Value) (h0 h : Heap) : retK Try.f74 Try.prog h0 .normal ⟨#[x0, x1, x2, x3, x4, x5, x6, x7, x8, x9, x10, x11, x12, x13, x14, x15, x16, x17, x18, x19, x20, x21, x22, x23, x24, x25, x26, x27, x28, x29, x30, x31, x32, x33, x34, x35, x36, x37, x38, x39, x40, x41, x42, x43, x44, x45, x46, x47, x48, x49, x50, x51, x52, x53, x54, x55, x56, x57, x58, x59, x60, x61, x62, x63, x64, x65, x66, x67, x68, x69, x70, x71, x72, x73, x74, x75, x76], h⟩ = fin h0 (some x4) h := by kernel_rfl
end Go.Am
namespace Go.Am
open Go.Proofs
set_option maxRecDepth 100000
noncomputable def c75_0 : Code := bodyC Try.f75 []
theorem c75_0_eq {β : Type} (x0 x1 x2 x3 : Value) (h : Heap) (k : Ex → St → Option β) : codeK Try.prog (evC Try.prog) loopL c75_0 ⟨#[x0, x1, x2, x3], h⟩ k =
obH (allocV Try.prog 104 h) fun t0_0 h1 =>
obH (buildSliceV Try.prog 23 1 #[(0, (Go.Value.int Go.IntKind.u8 97))] h1) fun t1_2 h3 =>
obH (convV Try.prog 23 23 t1_2 h3) fun t2_4 h5 =>
(buildV Try.prog 104 #[(1, (Go.Value.int Go.IntKind.u64 1)), (2, (Go.Value.int Go.IntKind.u64 2)), (8, t2_4)]).bind fun t3_6 =>
(storeV Try.prog 104 t0_0 t3_6 h5).bind fun h7 =>
k .ret ⟨#[t0_0, t1_2, t2_4, t3_6], h7⟩ := by kernel_rfl
theorem call75 (h : Heap) : evC Try.prog 75 #[] h = codeK Try.prog (evC Try.prog) loopL c75_0 ⟨#[undef, undef, undef, undef], nm h⟩ (retK Try.f75 Try.prog h) :=
  (evC_call 75 Try.f75 c75_0 Try.func75 (by kernel_rfl) #[] h).trans (by kernel_rfl)
theorem ret75 (x0 x1 x2 x3 : Value) (h0 h : Heap) : retK Try.f75 Try.prog h0 .ret ⟨#[x0, x1, x2, x3], h⟩ = fin h0 (rvals ((loadV Try.prog 104 x0 h).bind fun r0 => some [r0])) h := by kernel_rfl
theorem retn75 (x0 x1 x2 x3 : Value) (h0 h : Heap) : retK Try.f75 Try.prog h0 .normal ⟨#[x0, x1, x2, x3], h⟩ = fin h0 (rvals ((loadV Try.prog 104 x0 h).bind fun r0 => some [r0])) h := by kernel_rfl
end Go.Am
namespace Go.Am
open Go.Proofs
set_option maxRecDepth 100000
noncomputable def c65_0 : Code := bodyC Try.f65 []
theorem c65_0_eq {β : Type} (x0 x1 x2 x3 x4 x5 x6 x7 x8 x9 x10 x11 x12 x13 x14 x15 x16 x17 x18 x19 x20 x21 x22 x23 x24 x25 x26 x27 x28 x29 x30 x31 x32 x33 : Value) (h : Heap) (k : Ex → St → Option β) : codeK Try.prog (evC Try.prog) loopL c65_0 ⟨#[x0, x1, x2, x3, x4, x5, x6, x7, x8, x9, x10, x11, x12, x13, x14, x15, x16, x17, x18, x19, x20, x21, x22, x23, x24, x25, x26, x27, x28, x29, x30, x31, x32, x33], h⟩ k =
obH (evC Try.prog 75 #[] h) fun t4_0 h1 =>
obH (evC Try.prog 66 #[t4_0] h1) fun t5_2 h3 =>
obH (evC Try.prog 69 #[t5_2] h3) fun t8_4 h5 =>
(extractV t8_4 0).bind fun t9_6 =>
(extractV t8_4 1).bind fun t10_7 =>
obH (allocV Try.prog 104 h5) fun t2_8 h9 =>
(storeV Try.prog 104 t2_8 t9_6 h9).bind fun h10 =>
(lenV Try.prog 23 t5_2 h10).bind fun t12_11 =>
(binV Try.prog .eql 3 (.tmp 12) (.const (Go.Value.int Go.IntKind.i64 7)) t12_11 (Go.Value.int Go.IntKind.i64 7)).bind fun t13_12 =>
(gd (wt t13_12 true) (binV Try.prog .eql 41 (.tmp 15) (.const (Go.Value.int Go.IntKind.i64 0)) (gdV (wt t13_12 true) t10_7) (Go.Value.int Go.IntKind.i64 0))).bind fun t16_13 =>
(pickV t13_12 t16_13 (Go.Value.bool Bool.false)).bind fun t17_14 =>
(gd (wt t17_14 true) (loadV Try.prog 104 t2_8 h10)).bind fun t19_15 =>
obH (gdH (wt t17_14 true) h10 (evC Try.prog 68 #[t19_15] h10)) fun t20_16 h17 =>
obH (gdH (wt t17_14 true) h17 (evC Try.prog 75 #[] h17)) fun t21_18 h19 =>
obH (gdH (wt t17_14 true) h19 (evC Try.prog 68 #[t21_18] h19)) fun t22_20 h21 =>
obH (gdH (wt t17_14 true) h21 (evC Try.prog 74 #[t20_16, t22_20] h21)) fun t23_22 h23 =>
(pickV t17_14 t23_22 (Go.Value.bool Bool.false)).bind fun t24_24 =>
obH (gdH (wt t24_24 true) h23 (evC Try.prog 75 #[] h23)) fun t26_25 h26 =>
obH (gdH (wt t24_24 true) h26 (evC Try.prog 73 #[t26_25] h26)) fun t27_27 h28 =>
(gd (wt t24_24 true) (binV Try.prog .eql 3 (.tmp 27) (.const (Go.Value.int Go.IntKind.i64 7)) t27_27 (Go.Value.int Go.IntKind.i64 7))).bind fun t28_29 =>
(pickV t24_24 t28_29 (Go.Value.bool Bool.false)).bind fun t29_30 =>
obH (gdH (wt t29_30 true) h28 (evC Try.prog 75 #[] h28)) fun t31_31 h32 =>
obH (gdH (wt t29_30 true) h32 (evC Try.prog 71 #[t31_31] h32)) fun t32_33 h34 =>
(pickV t29_30 t32_33 (Go.Value.bool Bool.false)).bind fun t33_35 =>
k .ret ⟨#[t33_35, t5_2, t2_8, t10_7, t4_0, t5_2, t8_4, t5_2, t8_4, t9_6, t10_7, t5_2, t12_11, t13_12, t13_12, (gdV (wt t13_12 true) t10_7), t16_13, t17_14, t17_14, t19_15, t20_16, t21_18, t22_20, t23_22, t24_24, t24_24, t26_25, t27_27, t28_29, t29_30, t29_30, t31_31, t32_33, t33_35], h34⟩ := by kernel_rfl
theorem call65 (h : Heap) : evC Try.prog 65 #[] h = codeK Try.prog (evC Try.prog) loopL c65_0 ⟨#[undef, undef, undef, undef, undef, undef, undef, undef, undef, undef, undef, undef, undef, undef, undef, undef, undef, undef, undef, undef, undef, undef, undef, undef, undef, undef, undef, undef, undef, undef, undef, undef, undef, undef], nm h⟩ (retK Try.f65 Try.prog h) :=
  (evC_call 65 Try.f65 c65_0 Try.func65 (by kernel_rfl) #[] h).trans (by kernel_rfl)
theorem ret65 (x0 x1 x2 x3 x4 x5 x6 x7 x8 x9 x10 x11 x12 x13 x14 x15 x16 x17 x18 x19 x20 x21 x22 x23 x24 x25 x26 x27 x28 x29 x30 x31 x32 x33 : Value) (h0 h : Heap) : retK Try.f65 Try.prog h0 .ret ⟨#[x0, x1, x2, x3, x4, x5, x6, x7, x8, x9, x10, x11, x12, x13, x14, x15, x16, x17, x18, x19, x20, x21, x22, x23, x24, x25, x26, x27, x28, x29, x30, x31, x32, x33], h⟩ = fin h0 (some x0) h := by kernel_rfl
theorem retn65 (x0 x1 x2 x3 x4 x5 x6 x7 x8 x9 x10 x11 x12 x13 x14 x15 x16 x17 x18 x19 x20 x21 x22 x23 x24 x25 x26 x27 x28 x29 x30 x31 x32 x33 : Value) (h0 h : Heap) : retK Try.f65 Try.prog h0 .normal ⟨#[x0, x1, x2, x3, x4, x5, x6, x7, x8, x9, x10, x11, x12, x13, x14, x15, x16, x17, x18, x19, x20, x21, x22, x23, x24, x25, x26, x27, x28, x29, x30, x31, x32, x33], h⟩ = fin h0 (some x0) h := by kernel_rfl
end Go.Am
namespace Go.Am
open Go.Proofs
set_option maxRecDepth 100000
noncomputable def c15_0 : Code := bodyC Try.f15 []
noncomputable def c15_1 : Code := bodyC Try.f15 [false]
noncomputable def c15_2 : Code := bodyC Try.f15 [true]
noncomputable def c15_3 : Code := bodyC Try.f15 [true, false]
noncomputable def c15_4 : Code := bodyC Try.f15 [true, true]
noncomputable def c15_5 : Code := bodyC Try.f15 [true, true, false]
noncomputable def c15_6 : Code := bodyC Try.f15 [true, true, true]
noncomputable def c15_7 : Code := bodyC Try.f15 [true, true, true, false]
noncomputable def c15_8 : Code := bodyC Try.f15 [true, true, true, true]
noncomputable def c15_9 : Code := bodyC Try.f15 [true, true, true, true, false]
noncomputable def c15_10 : Code := bodyC Try.f15 [true, true, true, true, true]
noncomputable def d15_0 : Array Oper := opsC (bodyC Try.f15 [true, true, true, true, true, false])
noncomputable def c15_11 : Code := bodyC Try.f15 [true, true, true, true, true, false]
noncomputable def c15_12 : Code := bodyC Try.f15 [true, true, true, true, true, true]
theorem c15_0_eq {β : Type} (x0 x1 x2 x3 x4 x5 x6 x7 x8 x9 x10 x11 x12 x13 x14 x15 x16 x17 x18 x19 x20 x21 x22 x23 x24 x25 x26 x27 x28 x29 x30 x31 x32 x33 x34 x35 x36 x37 x38 x39 x40 x41 x42 x43 x44 x45 x46 x47 x48 x49 x50 x51 x52 x53 x54 x55 x56 x57 x58 x59 : Value) (h : Heap) (k : Ex → St → Option β) : codeK Try.prog (evC Try.prog) loopL c15_0 ⟨#[x0, x1, x2, x3, x4, x5, x6, x7, x8, x9, x10, x11, x12, x13, x14, x15, x16, x17, x18, x19, x20, x21, x22, x23, x24, x25, x26, x27, x28, x29, x30, x31, x32, x33, x34, x35, x36, x37, x38, x39, x40, x41, x42, x43, x44, x45, x46, x47, x48, x49, x50, x51, x52, x53, x54, x55, x56, x57, x58, x59], h⟩ k =
codeK Try.prog (evC Try.prog) loopL c15_1 ⟨#[x0, x1, x2, x3, x4, x5, x6, x7, x8, x9, x10, x11, x12, x13, x14, x15, x16, x17, x18, x19, x20, x21, x22, x23, x24, x25, x26, x27, x28, x29, x30, x31, x32, x33, x34, x35, x36, x37, x38, x39, x40, x41, x42, x43, x44, x45, x46, x47, x48, x49, x50, x51, x52, x53, x54, x55, x56, x57, x58, x59], h⟩ (seqK Try.prog (evC Try.prog) c15_2 k) := codeK_seq _ _ _ _ _ (by kernel_rfl) _ _
theorem c15_1_eq {β : Type} (x0 x1 x2 x3 x4 x5 x6 x7 x8 x9 x10 x11 x12 x13 x14 x15 x16 x17 x18 x19 x20 x21 x22 x23 x24 x25 x26 x27 x28 x29 x30 x31 x32 x33 x34 x35 x36 x37 x38 x39 x40 x41 x42 x43 x44 x45 x46 x47 x48 x49 x50 x51 x52 x53 x54 x55 x56 x57 x58 x59 : Value) (h : Heap) (k : Ex → St → Option β) : codeK Try.prog (evC Try.prog) loopL c15_1 ⟨#[x0, x1, x2, x3, x4, x5, x6, x7, x8, x9, x10, x11, x12, x13, x14, x15, x16, x17, x18, x19, x20, x21, x22, x23, x24, x25, x26, x27, x28, x29, x30, x31, x32, x33, x34, x35, x36, x37, x38, x39, x40, x41, x42, x43, x44, x45, x46, x47, x48, x49, x50, x51, x52, x53, x54, x55, x56, x57, x58, x59], h⟩ k =
obH (boxV Try.prog 104 x0 h) fun t1_0 h1 =>
k .normal ⟨#[x0, t1_0, (Go.Value.bool Bool.false), x3, x4, x5, x6, x7, x8, x9, x10, x11, x12, x13, x14, x15, x16, x17, x18, x19, x20, x21, x22, x23, x24, x25, x26, x27, x28, x29, x30, x31, x32, x33, x34, x35, x36, x37, x38, x39, x40, x41, x42, x43, x44, x45, x46, x47, x48, x49, x50, x51, x52, x53, x54, x55, x56, x57, x58, x59], h1⟩ := by kernel_rfl
theorem c15_2_eq {β : Type} (x0 x1 x2 x3 x4 x5 x6 x7 x8 x9 x10 x11 x12 x13 x14 x15 x16 x17 x18 x19 x20 x21 x22 x23 x24 x25 x26 x27 x28 x29 x30 x31 x32 x33 x34 x35 x36 x37 x38 x39 x40 x41 x42 x43 x44 x45 x46 x47 x48 x49 x50 x51 x52 x53 x54 x55 x56 x57 x58 x59 : Value) (h : Heap) (k : Ex → St → Option β) : codeK Try.prog (evC Try.prog) loopL c15_2 ⟨#[x0, x1, x2, x3, x4, x5, x6, x7, x8, x9, x10, x11, x12, x13, x14, x15, x16, x17, x18, x19, x20, x21, x22, x23, x24, x25, x26, x27, x28, x29, x30, x31, x32, x33, x34, x35, x36, x37, x38, x39, x40, x41, x42, x43, x44, x45, x46, x47, x48, x49, x50, x51, x52, x53, x54, x55, x56, x57, x58, x59], h⟩ k =
codeK Try.prog (evC Try.prog) loopL c15_3 ⟨#[x0, x1, x2, x3, x4, x5, x6, x7, x8, x9, x10, x11, x12, x13, x14, x15, x16, x17, x18, x19, x20, x21, x22, x23, x24, x25, x26, x27, x28, x29, x30, x31, x32, x33, x34, x35, x36, x37, x38, x39, x40, x41, x42, x43, x44, x45, x46, x47, x48, x49, x50, x51, x52, x53, x54, x55, x56, x57, x58, x59], h⟩ (seqK Try.prog (evC Try.prog) c15_4 k) := codeK_seq _ _ _ _ _ (by kernel_rfl) _ _
theorem c15_3_eq {β : Type} (x0 x1 x2 x3 x4 x5 x6 x7 x8 x9 x10 x11 x12 x13 x14 x15 x16 x17 x18 x19 x20 x21 x22 x23 x24 x25 x26 x27 x28 x29 x30 x31 x32 x33 x34 x35 x36 x37 x38 x39 x40 x41 x42 x43 x44 x45 x46 x47 x48 x49 x50 x51 x52 x53 x54 x55 x56 x57 x58 x59 : Value) (h : Heap) (k : Ex → St → Option β) : codeK Try.prog (evC Try.prog) loopL c15_3 ⟨#[x0, x1, x2, x3, x4, x5, x6, x7, x8, x9, x10, x11, x12, x13, x14, x15, x16, x17, x18, x19, x20, x21, x22, x23, x24, x25, x26, x27, x28, x29, x30, x31, x32, x33, x34, x35, x36, x37, x38, x39, x40, x41, x42, x43, x44, x45, x46, x47, x48, x49, x50, x51, x52, x53, x54, x55, x56, x57, x58, x59], h⟩ k =
obH (evC Try.prog 65 #[] h) fun t4_2 h3 =>
(unV Try.prog .not t4_2).bind fun t5_4 =>
cnd t5_4 (
k .ret ⟨#[x0, x1, (Go.Value.bool Bool.false), x3, t4_2, t5_4, x6, x7, x8, x9, x10, x11, x12, x13, x14, x15, x16, x17, x18, x19, x20, x21, x22, x23, x24, x25, x26, x27, x28, x29, x30, x31, x32, x33, x34, x35, x36, x37, x38, x39, x40, x41, x42, x43, x44, x45, x46, x47, x48, x49, x50, x51, x52, x53, x54, x55, x56, x57, x58, x59], h3⟩) (
k .normal ⟨#[x0, x1, x2, x3, t4_2, t5_4, x6, x7, x8, x9, x10, x11, x12, x13, x14, x15, x16, x17, x18, x19, x20, x21, x22, x23, x24, x25, x26, x27, x28, x29, x30, x31, x32, x33, x34, x35, x36, x37, x38, x39, x40, x41, x42, x43, x44, x45, x46, x47, x48, x49, x50, x51, x52, x53, x54, x55, x56, x57, x58, x59], h3⟩) := by kernel_rfl
theorem c15_4_eq {β : Type} (x0 x1 x2 x3 x4 x5 x6 x7 x8 x9 x10 x11 x12 x13 x14 x15 x16 x17 x18 x19 x20 x21 x22 x23 x24 x25 x26 x27 x28 x29 x30 x31 x32 x33 x34 x35 x36 x37 x38 x39 x40 x41 x42 x43 x44 x45 x46 x47 x48 x49 x50 x51 x52 x53 x54 x55 x56 x57 x58 x59 : Value) (h : Heap) (k : Ex → St → Option β) : codeK Try.prog (evC Try.prog) loopL c15_4 ⟨#[x0, x1, x2, x3, x4, x5, x6, x7, x8, x9, x10, x11, x12, x13, x14, x15, x16, x17, x18, x19, x20, x21, x22, x23, x24, x25, x26, x27, x28, x29, x30, x31, x32, x33, x34, x35, x36, x37, x38, x39, x40, x41, x42, x43, x44, x45, x46, x47, x48, x49, x50, x51, x52, x53, x54, x55, x56, x57, x58, x59], h⟩ k =
codeK Try.prog (evC Try.prog) loopL c15_5 ⟨#[x0, x1, x2, x3, x4, x5, x6, x7, x8, x9, x10, x11, x12, x13, x14, x15, x16, x17, x18, x19, x20, x21, x22, x23, x24, x25, x26, x27, x28, x29, x30, x31, x32, x33, x34, x35, x36, x37, x38, x39, x40, x41, x42, x43, x44, x45, x46, x47, x48, x49, x50, x51, x52, x53, x54, x55, x56, x57, x58, x59], h⟩ (seqK Try.prog (evC Try.prog) c15_6 k) := codeK_seq _ _ _ _ _ (by kernel_rfl) _ _
theorem c15_5_eq {β : Type} (x0 x1 x2 x3 x4 x5 x6 x7 x8 x9 x10 x11 x12 x13 x14 x15 x16 x17 x18 x19 x20 x21 x22 x23 x24 x25 x26 x27 x28 x29 x30 x31 x32 x33 x34 x35 x36 x37 x38 x39 x40 x41 x42 x43 x44 x45 x46 x47 x48 x49 x50 x51 x52 x53 x54 x55 x56 x57 x58 x59 : Value) (h : Heap) (k : Ex → St → Option β) : codeK Try.prog (evC Try.prog) loopL c15_5 ⟨#[x0, x1, x2, x3, x4, x5, x6, x7, x8, x9, x10, x11, x12, x13, x14, x15, x16, x17, x18, x19, x20, x21, x22, x23, x24, x25, x26, x27, x28, x29, x30, x31, x32, x33, x34, x35, x36, x37, x38, x39, x40, x41, x42, x43, x44, x45, x46, x47, x48, x49, x50, x51, x52, x53, x54, x55, x56, x57, x58, x59], h⟩ k =
(fieldAddrV Try.prog 104 x1 8).bind fun t6_5 =>
(loadV Try.prog 23 t6_5 h).bind fun t7_6 =>
(lenV Try.prog 23 t7_6 h).bind fun t8_7 =>
(binV Try.prog .gtr 3 (.tmp 8) (.const (Go.Value.int Go.IntKind.i64 300)) t8_7 (Go.Value.int Go.IntKind.i64 300)).bind fun t9_8 =>
(gd (wt t9_8 false) (fieldAddrV Try.prog 104 x1 9)).bind fun t11_9 =>
(gd (wt t9_8 false) (loadV Try.prog 23 t11_9 h)).bind fun t12_10 =>
(gd (wt t9_8 false) (lenV Try.prog 23 t12_10 h)).bind fun t13_11 =>
(gd (wt t9_8 false) (binV Try.prog .gtr 3 (.tmp 13) (.const (Go.Value.int Go.IntKind.i64 300)) t13_11 (Go.Value.int Go.IntKind.i64 300))).bind fun t14_12 =>
(pickV t9_8 (Go.Value.bool Bool.true) t14_12).bind fun t15_13 =>
(gd (wt t15_13 false) (loadV Try.prog 104 x1 h)).bind fun t17_14 =>
obH (gdH (wt t15_13 false) h (evC Try.prog 71 #[t17_14] h)) fun t18_15 h16 =>
(gd (wt t15_13 false) (unV Try.prog .not t18_15)).bind fun t19_17 =>
(pickV t15_13 (Go.Value.bool Bool.true) t19_17).bind fun t20_18 =>
cnd t20_18 (
k .ret ⟨#[x0, x1, (Go.Value.bool Bool.true), x3, x4, x5, t6_5, t7_6, t8_7, t9_8, t9_8, t11_9, t12_10, t13_11, t14_12, t15_13, t15_13, t17_14, t18_15, t19_17, t20_18, x21, x22, x23, x24, x25, x26, x27, x28, x29, x30, x31, x32, x33, x34, x35, x36, x37, x38, x39, x40, x41, x42, x43, x44, x45, x46, x47, x48, x49, x50, x51, x52, x53, x54, x55, x56, x57, x58, x59], h16⟩) (
k .normal ⟨#[x0, x1, x2, x3, x4, x5, t6_5, t7_6, t8_7, t9_8, t9_8, t11_9, t12_10, t13_11, t14_12, t15_13, t15_13, t17_14, t18_15, t19_17, t20_18, x21, x22, x23, x24, x25, x26, x27, x28, x29, x30, x31, x32, x33, x34, x35, x36, x37, x38, x39, x40, x41, x42, x43, x44, x45, x46, x47, x48, x49, x50, x51, x52, x53, x54, x55, x56, x57, x58, x59], h16⟩) := by kernel_rfl
theorem c15_6_eq {β : Type} (x0 x1 x2 x3 x4 x5 x6 x7 x8 x9 x10 x11 x12 x13 x14 x15 x16 x17 x18 x19 x20 x21 x22 x23 x24 x25 x26 x27 x28 x29 x30 x31 x32 x33 x34 x35 x36 x37 x38 x39 x40 x41 x42 x43 x44 x45 x46 x47 x48 x49 x50 x51 x52 x53 x54 x55 x56 x57 x58 x59 : Value) (h : Heap) (k : Ex → St → Option β) : codeK Try.prog (evC Try.prog) loopL c15_6 ⟨#[x0, x1, x2, x3, x4, x5, x6, x7, x8, x9, x10, x11, x12, x13, x14, x15, x16, x17, x18, x19, x20, x21, x22, x23, x24, x25, x26, x27, x28, x29, x30, x31, x32, x33, x34, x35, x36, x37, x38, x39, x40, x41, x42, x43, x44, x45, x46, x47, x48, x49, x50, x51, x52, x53, x54, x55, x56, x57, x58, x59], h⟩ k =
codeK Try.prog (evC Try.prog) loopL c15_7 ⟨#[x0, x1, x2, x3, x4, x5, x6, x7, x8, x9, x10, x11, x12, x13, x14, x15, x16, x17, x18, x19, x20, x21, x22, x23, x24, x25, x26, x27, x28, x29, x30, x31, x32, x33, x34, x35, x36, x37, x38, x39, x40, x41, x42, x43, x44, x45, x46, x47, x48, x49, x50, x51, x52, x53, x54, x55, x56, x57, x58, x59], h⟩ (seqK Try.prog (evC Try.prog) c15_8 k) := codeK_seq _ _ _ _ _ (by kernel_rfl) _ _
theorem c15_7_eq {β : Type} (x0 x1 x2 x3 x4 x5 x6 x7 x8 x9 x10 x11 x12 x13 x14 x15 x16 x17 x18 x19 x20 x21 x22 x23 x24 x25 x26 x27 x28 x29 x30 x31 x32 x33 x34 x35 x36 x37 x38 x39 x40 x41 x42 x43 x44 x45 x46 x47 x48 x49 x50 x51 x52 x53 x54 x55 x56 x57 x58 x59 : Value) (h : Heap) (k : Ex → St → Option β) : codeK Try.prog (evC Try.prog) loopL c15_7 ⟨#[x0, x1, x2, x3, x4, x5, x6, x7, x8, x9, x10, x11, x12, x13, x14, x15, x16, x17, x18, x19, x20, x21, x22, x23, x24, x25, x26, x27, x28, x29, x30, x31, x32, x33, x34, x35, x36, x37, x38, x39, x40, x41, x42, x43, x44, x45, x46, x47, x48, x49, x50, x51, x52, x53, x54, x55, x56, x57, x58, x59], h⟩ k =
(loadV Try.prog 104 x1 h).bind fun t21_19 =>
obH (allocV Try.prog 104 h) fun t3_20 h21 =>
(storeV Try.prog 104 t3_20 t21_19 h21).bind fun h22 =>
k .normal ⟨#[x0, x1, x2, t3_20, x4, x5, x6, x7, x8, x9, x10, x11, x12, x13, x14, x15, x16, x17, x18, x19, x20, t21_19, x22, x23, x24, x25, x26, x27, x28, x29, x30, x31, x32, x33, x34, x35, x36, x37, x38, x39, x40, x41, x42, x43, x44, x45, x46, x47, x48, x49, x50, x51, x52, x53, x54, x55, x56, x57, x58, x59], h22⟩ := by kernel_rfl
theorem c15_8_eq {β : Type} (x0 x1 x2 x3 x4 x5 x6 x7 x8 x9 x10 x11 x12 x13 x14 x15 x16 x17 x18 x19 x20 x21 x22 x23 x24 x25 x26 x27 x28 x29 x30 x31 x32 x33 x34 x35 x36 x37 x38 x39 x40 x41 x42 x43 x44 x45 x46 x47 x48 x49 x50 x51 x52 x53 x54 x55 x56 x57 x58 x59 : Value) (h : Heap) (k : Ex → St → Option β) : codeK Try.prog (evC Try.prog) loopL c15_8 ⟨#[x0, x1, x2, x3, x4, x5, x6, x7, x8, x9, x10, x11, x12, x13, x14, x15, x16, x17, x18, x19, x20, x21, x22, x23, x24, x25, x26, x27, x28, x29, x30, x31, x32, x33, x34, x35, x36, x37, x38, x39, x40, x41, x42, x43, x44, x45, x46, x47, x48, x49, x50, x51, x52, x53, x54, x55, x56, x57, x58, x59], h⟩ k =
codeK Try.prog (evC Try.prog) loopL c15_9 ⟨#[x0, x1, x2, x3, x4, x5, x6, x7, x8, x9, x10, x11, x12, x13, x14, x15, x16, x17, x18, x19, x20, x21, x22, x23, x24, x25, x26, x27, x28, x29, x30, x31, x32, x33, x34, x35, x36, x37, x38, x39, x40, x41, x42, x43, x44, x45, x46, x47, x48, x49, x50, x51, x52, x53, x54, x55, x56, x57, x58, x59], h⟩ (seqK Try.prog (evC Try.prog) c15_10 k) := codeK_seq _ _ _ _ _ (by kernel_rfl) _ _
theorem c15_9_eq {β : Type} (x0 x1 x2 x3 x4 x5 x6 x7 x8 x9 x10 x11 x12 x13 x14 x15 x16 x17 x18 x19 x20 x21 x22 x23 x24 x25 x26 x27 x28 x29 x30 x31 x32 x33 x34 x35 x36 x37 x38 x39 x40 x41 x42 x43 x44 x45 x46 x47 x48 x49 x50 x51 x52 x53 x54 x55 x56 x57 x58 x59 : Value) (h : Heap) (k : Ex → St → Option β) : codeK Try.prog (evC Try.prog) loopL c15_9 ⟨#[x0, x1, x2, x3, x4, x5, x6, x7, x8, x9, x10, x11, x12, x13, x14, x15, x16, x17, x18, x19, x20, x21, x22, x23, x24, x25, x26, x27, x28, x29, x30, x31, x32, x33, x34, x35, x36, x37, x38, x39, x40, x41, x42, x43, x44, x45, x46, x47, x48, x49, x50, x51, x52, x53, x54, x55, x56, x57, x58, x59], h⟩ k =
(fieldAddrV Try.prog 104 x1 3).bind fun t22_23 =>
(loadV Try.prog 3 t22_23 h).bind fun t23_24 =>
(binV Try.prog .eql 3 (.tmp 23) (.const (Go.Value.int Go.IntKind.i64 0)) t23_24 (Go.Value.int Go.IntKind.i64 0)).bind fun t28_25 =>
cnd t28_25 (
(fieldAddrV Try.prog 104 x3 3).bind fun t29_26 =>
(storeV Try.prog 3 t29_26 (Go.Value.int Go.IntKind.i64 1) h).bind fun h27 =>
k .normal ⟨#[x0, x1, x2, x3, x4, x5, x6, x7, x8, x9, x10, x11, x12, x13, x14, x15, x16, x17, x18, x19, x20, x21, t22_23, t23_24, x24, x25, x26, t28_25, t28_25, t29_26, x30, x31, x32, x33, x34, x35, x36, x37, x38, x39, x40, x41, x42, x43, x44, x45, x46, x47, x48, x49, x50, x51, x52, x53, x54, x55, x56, x57, x58, x59], h27⟩) (
(binV Try.prog .eql 3 (.tmp 23) (.const (Go.Value.int Go.IntKind.i64 1)) t23_24 (Go.Value.int Go.IntKind.i64 1)).bind fun t31_28 =>
cnd t31_28 (
(fieldAddrV Try.prog 104 x1 0).bind fun t32_29 =>
(loadV Try.prog 3 t32_29 h).bind fun t33_30 =>
(binV Try.prog .add 3 (.tmp 33) (.const (Go.Value.int Go.IntKind.i64 1)) t33_30 (Go.Value.int Go.IntKind.i64 1)).bind fun t34_31 =>
(fieldAddrV Try.prog 104 x3 6).bind fun t35_32 =>
(storeV Try.prog 3 t35_32 t34_31 h).bind fun h33 =>
k .normal ⟨#[x0, x1, x2, x3, x4, x5, x6, x7, x8, x9, x10, x11, x12, x13, x14, x15, x16, x17, x18, x19, x20, x21, t22_23, t23_24, x24, x25, x26, t28_25, t28_25, x29, t31_28, t31_28, t32_29, t33_30, t34_31, t35_32, x36, x37, x38, x39, x40, x41, x42, x43, x44, x45, x46, x47, x48, x49, x50, x51, x52, x53, x54, x55, x56, x57, x58, x59], h33⟩) (
(binV Try.prog .eql 3 (.tmp 23) (.const (Go.Value.int Go.IntKind.i64 2)) t23_24 (Go.Value.int Go.IntKind.i64 2)).bind fun t37_34 =>
cnd t37_34 (
(fieldAddrV Try.prog 104 x3 7).bind fun t38_35 =>
(storeV Try.prog 46 t38_35 (Go.Value.int Go.IntKind.u64 1) h).bind fun h36 =>
k .normal ⟨#[x0, x1, x2, x3, x4, x5, x6, x7, x8, x9, x10, x11, x12, x13, x14, x15, x16, x17, x18, x19, x20, x21, t22_23, t23_24, x24, x25, x26, t28_25, t28_25, x29, t31_28, t31_28, x32, x33, x34, x35, t37_34, t37_34, t38_35, x39, x40, x41, x42, x43, x44, x45, x46, x47, x48, x49, x50, x51, x52, x53, x54, x55, x56, x57, x58, x59], h36⟩) (
obH (buildSliceV Try.prog 23 1 #[(0, (Go.Value.int Go.IntKind.u8 120))] h) fun t24_37 h38 =>
obH (convV Try.prog 23 23 t24_37 h38) fun t25_39 h40 =>
(fieldAddrV Try.prog 104 x3 8).bind fun t26_41 =>
(storeV Try.prog 23 t26_41 t25_39 h40).bind fun h42 =>
k .normal ⟨#[x0, x1, x2, x3, x4, x5, x6, x7, x8, x9, x10, x11, x12, x13, x14, x15, x16, x17, x18, x19, x20, x21, t22_23, t23_24, t24_37, t25_39, t26_41, t28_25, t28_25, x29, t31_28, t31_28, x32, x33, x34, x35, t37_34, t37_34, x38, x39, x40, x41, x42, x43, x44, x45, x46, x47, x48, x49, x50, x51, x52, x53, x54, x55, x56, x57, x58, x59], h42⟩))) := by kernel_rfl
theorem c15_10_eq {β : Type} (x0 x1 x2 x3 x4 x5 x6 x7 x8 x9 x10 x11 x12 x13 x14 x15 x16 x17 x18 x19 x20 x21 x22 x23 x24 x25 x26 x27 x28 x29 x30 x31 x32 x33 x34 x35 x36 x37 x38 x39 x40 x41 x42 x43 x44 x45 x46 x47 x48 x49 x50 x51 x52 x53 x54 x55 x56 x57 x58 x59 : Value) (h : Heap) (k : Ex → St → Option β) : codeK Try.prog (evC Try.prog) loopL c15_10 ⟨#[x0, x1, x2, x3, x4, x5, x6, x7, x8, x9, x10, x11, x12, x13, x14, x15, x16, x17, x18, x19, x20, x21, x22, x23, x24, x25, x26, x27, x28, x29, x30, x31, x32, x33, x34, x35, x36, x37, x38, x39, x40, x41, x42, x43, x44, x45, x46, x47, x48, x49, x50, x51, x52, x53, x54, x55, x56, x57, x58, x59], h⟩ k =
codeK Try.prog (evC Try.prog) loopL c15_11 ⟨#[x0, x1, x2, x3, x4, x5, x6, x7, x8, x9, x10, x11, x12, x13, x14, x15, x16, x17, x18, x19, x20, x21, x22, x23, x24, x25, x26, x27, x28, x29, x30, x31, x32, x33, x34, x35, x36, x37, x38, x39, x40, x41, x42, x43, x44, x45, x46, x47, x48, x49, x50, x51, x52, x53, x54, x55, x56, x57, x58, x59], h⟩ (seqK Try.prog (evC Try.prog) c15_12 k) := codeK_seq _ _ _ _ _ (by kernel_rfl) _ _
theorem d15_0_0 {β : Type} (x0 x1 x2 x3 x4 x5 x6 x7 x8 x9 x10 x11 x12 x13 x14 x15 x16 x17 x18 x19 x20 x21 x22 x23 x24 x25 x26 x27 x28 x29 x30 x31 x32 x33 x34 x35 x36 x37 x38 x39 x40 x41 x42 x43 x44 x45 x46 x47 x48 x49 x50 x51 x52 x53 x54 x55 x56 x57 x58 x59 : Value) (h : Heap) (r m : List Nat) (k : St → Option β) : regD Try.prog (evC Try.prog) d15_0 0 ⟨#[x0, x1, x2, x3, x4, x5, x6, x7, x8, x9, x10, x11, x12, x13, x14, x15, x16, x17, x18, x19, x20, x21, x22, x23, x24, x25, x26, x27, x28, x29, x30, x31, x32, x33, x34, x35, x36, x37, x38, x39, x40, x41, x42, x43, x44, x45, x46, x47, x48, x49, x50, x51, x52, x53, x54, x55, x56, x57, x58, x59], h⟩ r m k =
(loadV Try.prog 104 x3 h).bind fun t39_43 =>
regD Try.prog (evC Try.prog) d15_0 1 ⟨#[x0, x1, x2, x3, x4, x5, x6, x7, x8, x9, x10, x11, x12, x13, x14, x15, x16, x17, x18, x19, x20, x21, x22, x23, x24, x25, x26, x27, x28, x29, x30, x31, x32, x33, x34, x35, x36, x37, x38, t39_43, x40, x41, x42, x43, x44, x45, x46, x47, x48, x49, x50, x51, x52, x53, x54, x55, x56, x57, x58, x59], h⟩ r m k := (regD_step _ _ d15_0 0 (by kernel_rfl) _ _ _ _).trans (by kernel_rfl)
theorem d15_0_1 {β : Type} (x0 x1 x2 x3 x4 x5 x6 x7 x8 x9 x10 x11 x12 x13 x14 x15 x16 x17 x18 x19 x20 x21 x22 x23 x24 x25 x26 x27 x28 x29 x30 x31 x32 x33 x34 x35 x36 x37 x38 x39 x40 x41 x42 x43 x44 x45 x46 x47 x48 x49 x50 x51 x52 x53 x54 x55 x56 x57 x58 x59 : Value) (h : Heap) (r m : List Nat) (k : St → Option β) : regD Try.prog (evC Try.prog) d15_0 1 ⟨#[x0, x1, x2, x3, x4, x5, x6, x7, x8, x9, x10, x11, x12, x13, x14, x15, x16, x17, x18, x19, x20, x21, x22, x23, x24, x25, x26, x27, x28, x29, x30, x31, x32, x33, x34, x35, x36, x37, x38, x39, x40, x41, x42, x43, x44, x45, x46, x47, x48, x49, x50, x51, x52, x53, x54, x55, x56, x57, x58, x59], h⟩ r m k =
obH (evC Try.prog 71 #[x39] h) fun t40_44 h45 =>
regD Try.prog (evC Try.prog) d15_0 2 ⟨#[x0, x1, x2, x3, x4, x5, x6, x7, x8, x9, x10, x11, x12, x13, x14, x15, x16, x17, x18, x19, x20, x21, x22, x23, x24, x25, x26, x27, x28, x29, x30, x31, x32, x33, x34, x35, x36, x37, x38, x39, t40_44, x41, x42, x43, x44, x45, x46, x47, x48, x49, x50, x51, x52, x53, x54, x55, x56, x57, x58, x59], h45⟩ r m k := (regD_step _ _ d15_0 1 (by kernel_rfl) _ _ _ _).trans (by kernel_rfl)
theorem d15_0_2 {β : Type} (x0 x1 x2 x3 x4 x5 x6 x7 x8 x9 x10 x11 x12 x13 x14 x15 x16 x17 x18 x19 x20 x21 x22 x23 x24 x25 x26 x27 x28 x29 x30 x31 x32 x33 x34 x35 x36 x37 x38 x39 x40 x41 x42 x43 x44 x45 x46 x47 x48 x49 x50 x51 x52 x53 x54 x55 x56 x57 x58 x59 : Value) (h : Heap) (r m : List Nat) (k : St → Option β) : regD Try.prog (evC Try.prog) d15_0 2 ⟨#[x0, x1, x2, x3, x4, x5, x6, x7, x8, x9, x10, x11, x12, x13, x14, x15, x16, x17, x18, x19, x20, x21, x22, x23, x24, x25, x26, x27, x28, x29, x30, x31, x32, x33, x34, x35, x36, x37, x38, x39, x40, x41, x42, x43, x44, x45, x46, x47, x48, x49, x50, x51, x52, x53, x54, x55, x56, x57, x58, x59], h⟩ r m k =
(unV Try.prog .not x40).bind fun t41_46 =>
regD Try.prog (evC Try.prog) d15_0 3 ⟨#[x0, x1, x2, x3, x4, x5, x6, x7, x8, x9, x10, x11, x12, x13, x14, x15, x16, x17, x18, x19, x20, x21, x22, x23, x24, x25, x26, x27, x28, x29, x30, x31, x32, x33, x34, x35, x36, x37, x38, x39, x40, t41_46, x42, x43, x44, x45, x46, x47, x48, x49, x50, x51, x52, x53, x54, x55, x56, x57, x58, x59], h⟩ r m k := (regD_step _ _ d15_0 2 (by kernel_rfl) _ _ _ _).trans (by kernel_rfl)
theorem d15_0_3 {β : Type} (x0 x1 x2 x3 x4 x5 x6 x7 x8 x9 x10 x11 x12 x13 x14 x15 x16 x17 x18 x19 x20 x21 x22 x23 x24 x25 x26 x27 x28 x29 x30 x31 x32 x33 x34 x35 x36 x37 x38 x39 x40 x41 x42 x43 x44 x45 x46 x47 x48 x49 x50 x51 x52 x53 x54 x55 x56 x57 x58 x59 : Value) (h : Heap) (r m : List Nat) (k : St → Option β) : regD Try.prog (evC Try.prog) d15_0 3 ⟨#[x0, x1, x2, x3, x4, x5, x6, x7, x8, x9, x10, x11, x12, x13, x14, x15, x16, x17, x18, x19, x20, x21, x22, x23, x24, x25, x26, x27, x28, x29, x30, x31, x32, x33, x34, x35, x36, x37, x38, x39, x40, x41, x42, x43, x44, x45, x46, x47, x48, x49, x50, x51, x52, x53, x54, x55, x56, x57, x58, x59], h⟩ r m k =
regD Try.prog (evC Try.prog) d15_0 4 ⟨#[x0, x1, x2, x3, x4, x5, x6, x7, x8, x9, x10, x11, x12, x13, x14, x15, x16, x17, x18, x19, x20, x21, x22, x23, x24, x25, x26, x27, x28, x29, x30, x31, x32, x33, x34, x35, x36, x37, x38, x39, x40, x41, x41, x43, x44, x45, x46, x47, x48, x49, x50, x51, x52, x53, x54, x55, x56, x57, x58, x59], h⟩ r m k := regD_move _ _ d15_0 3 (by kernel_rfl) (by kernel_rfl) (by kernel_rfl) _ _ _ _ _ _ (by kernel_rfl) (by kernel_rfl)
theorem d15_0_4 {β : Type} (x0 x1 x2 x3 x4 x5 x6 x7 x8 x9 x10 x11 x12 x13 x14 x15 x16 x17 x18 x19 x20 x21 x22 x23 x24 x25 x26 x27 x28 x29 x30 x31 x32 x33 x34 x35 x36 x37 x38 x39 x40 x41 x42 x43 x44 x45 x46 x47 x48 x49 x50 x51 x52 x53 x54 x55 x56 x57 x58 x59 : Value) (h : Heap) (r m : List Nat) (k : St → Option β) : regD Try.prog (evC Try.prog) d15_0 4 ⟨#[x0, x1, x2, x3, x4, x5, x6, x7, x8, x9, x10, x11, x12, x13, x14, x15, x16, x17, x18, x19, x20, x21, x22, x23, x24, x25, x26, x27, x28, x29, x30, x31, x32, x33, x34, x35, x36, x37, x38, x39, x40, x41, x42, x43, x44, x45, x46, x47, x48, x49, x50, x51, x52, x53, x54, x55, x56, x57, x58, x59], h⟩ r m k =
(gd (wt x42 true) (loadV Try.prog 104 x3 h)).bind fun t43_47 =>
regD Try.prog (evC Try.prog) d15_0 5 ⟨#[x0, x1, x2, x3, x4, x5, x6, x7, x8, x9, x10, x11, x12, x13, x14, x15, x16, x17, x18, x19, x20, x21, x22, x23, x24, x25, x26, x27, x28, x29, x30, x31, x32, x33, x34, x35, x36, x37, x38, x39, x40, x41, x42, t43_47, x44, x45, x46, x47, x48, x49, x50, x51, x52, x53, x54, x55, x56, x57, x58, x59], h⟩ r m k := (regD_step _ _ d15_0 4 (by kernel_rfl) _ _ _ _).trans (by kernel_rfl)
theorem d15_0_5 {β : Type} (x0 x1 x2 x3 x4 x5 x6 x7 x8 x9 x10 x11 x12 x13 x14 x15 x16 x17 x18 x19 x20 x21 x22 x23 x24 x25 x26 x27 x28 x29 x30 x31 x32 x33 x34 x35 x36 x37 x38 x39 x40 x41 x42 x43 x44 x45 x46 x47 x48 x49 x50 x51 x52 x53 x54 x55 x56 x57 x58 x59 : Value) (h : Heap) (r m : List Nat) (k : St → Option β) : regD Try.prog (evC Try.prog) d15_0 5 ⟨#[x0, x1, x2, x3, x4, x5, x6, x7, x8, x9, x10, x11, x12, x13, x14, x15, x16, x17, x18, x19, x20, x21, x22, x23, x24, x25, x26, x27, x28, x29, x30, x31, x32, x33, x34, x35, x36, x37, x38, x39, x40, x41, x42, x43, x44, x45, x46, x47, x48, x49, x50, x51, x52, x53, x54, x55, x56, x57, x58, x59], h⟩ r m k =
obH (gdH (wt x42 true) h (evC Try.prog 73 #[x43] h)) fun t44_48 h49 =>
regD Try.prog (evC Try.prog) d15_0 6 ⟨#[x0, x1, x2, x3, x4, x5, x6, x7, x8, x9, x10, x11, x12, x13, x14, x15, x16, x17, x18, x19, x20, x21, x22, x23, x24, x25, x26, x27, x28, x29, x30, x31, x32, x33, x34, x35, x36, x37, x38, x39, x40, x41, x42, x43, t44_48, x45, x46, x47, x48, x49, x50, x51, x52, x53, x54, x55, x56, x57, x58, x59], h49⟩ r m k := (regD_step _ _ d15_0 5 (by kernel_rfl) _ _ _ _).trans (by kernel_rfl)
theorem d15_0_6 {β : Type} (x0 x1 x2 x3 x4 x5 x6 x7 x8 x9 x10 x11 x12 x13 x14 x15 x16 x17 x18 x19 x20 x21 x22 x23 x24 x25 x26 x27 x28 x29 x30 x31 x32 x33 x34 x35 x36 x37 x38 x39 x40 x41 x42 x43 x44 x45 x46 x47 x48 x49 x50 x51 x52 x53 x54 x55 x56 x57 x58 x59 : Value) (h : Heap) (r m : List Nat) (k : St → Option β) : regD Try.prog (evC Try.prog) d15_0 6 ⟨#[x0, x1, x2, x3, x4, x5, x6, x7, x8, x9, x10, x11, x12, x13, x14, x15, x16, x17, x18, x19, x20, x21, x22, x23, x24, x25, x26, x27, x28, x29, x30, x31, x32, x33, x34, x35, x36, x37, x38, x39, x40, x41, x42, x43, x44, x45, x46, x47, x48, x49, x50, x51, x52, x53, x54, x55, x56, x57, x58, x59], h⟩ r m k =
(gd (wt x42 true) (binV Try.prog .eql 3 (.tmp 44) (.const (Go.Value.int Go.IntKind.i64 0)) x44 (Go.Value.int Go.IntKind.i64 0))).bind fun t45_50 =>
regD Try.prog (evC Try.prog) d15_0 7 ⟨#[x0, x1, x2, x3, x4, x5, x6, x7, x8, x9, x10, x11, x12, x13, x14, x15, x16, x17, x18, x19, x20, x21, x22, x23, x24, x25, x26, x27, x28, x29, x30, x31, x32, x33, x34, x35, x36, x37, x38, x39, x40, x41, x42, x43, x44, t45_50, x46, x47, x48, x49, x50, x51, x52, x53, x54, x55, x56, x57, x58, x59], h⟩ r m k := (regD_step _ _ d15_0 6 (by kernel_rfl) _ _ _ _).trans (by kernel_rfl)
theorem d15_0_7 {β : Type} (x0 x1 x2 x3 x4 x5 x6 x7 x8 x9 x10 x11 x12 x13 x14 x15 x16 x17 x18 x19 x20 x21 x22 x23 x24 x25 x26 x27 x28 x29 x30 x31 x32 x33 x34 x35 x36 x37 x38 x39 x40 x41 x42 x43 x44 x45 x46 x47 x48 x49 x50 x51 x52 x53 x54 x55 x56 x57 x58 x59 : Value) (h : Heap) (r m : List Nat) (k : St → Option β) : regD Try.prog (evC Try.prog) d15_0 7 ⟨#[x0, x1, x2, x3, x4, x5, x6, x7, x8, x9, x10, x11, x12, x13, x14, x15, x16, x17, x18, x19, x20, x21, x22, x23, x24, x25, x26, x27, x28, x29, x30, x31, x32, x33, x34, x35, x36, x37, x38, x39, x40, x41, x42, x43, x44, x45, x46, x47, x48, x49, x50, x51, x52, x53, x54, x55, x56, x57, x58, x59], h⟩ r m k =
(pickV x42 x45 (Go.Value.bool Bool.false)).bind fun t46_51 =>
regD Try.prog (evC Try.prog) d15_0 8 ⟨#[x0, x1, x2, x3, x4, x5, x6, x7, x8, x9, x10, x11, x12, x13, x14, x15, x16, x17, x18, x19, x20, x21, x22, x23, x24, x25, x26, x27, x28, x29, x30, x31, x32, x33, x34, x35, x36, x37, x38, x39, x40, x41, x42, x43, x44, x45, t46_51, x47, x48, x49, x50, x51, x52, x53, x54, x55, x56, x57, x58, x59], h⟩ r m k := (regD_step _ _ d15_0 7 (by kernel_rfl) _ _ _ _).trans (by kernel_rfl)
theorem d15_0_8 {β : Type} (x0 x1 x2 x3 x4 x5 x6 x7 x8 x9 x10 x11 x12 x13 x14 x15 x16 x17 x18 x19 x20 x21 x22 x23 x24 x25 x26 x27 x28 x29 x30 x31 x32 x33 x34 x35 x36 x37 x38 x39 x40 x41 x42 x43 x44 x45 x46 x47 x48 x49 x50 x51 x52 x53 x54 x55 x56 x57 x58 x59 : Value) (h : Heap) (r m : List Nat) (k : St → Option β) : regD Try.prog (evC Try.prog) d15_0 8 ⟨#[x0, x1, x2, x3, x4, x5, x6, x7, x8, x9, x10, x11, x12, x13, x14, x15, x16, x17, x18, x19, x20, x21, x22, x23, x24, x25, x26, x27, x28, x29, x30, x31, x32, x33, x34, x35, x36, x37, x38, x39, x40, x41, x42, x43, x44, x45, x46, x47, x48, x49, x50, x51, x52, x53, x54, x55, x56, x57, x58, x59], h⟩ r m k =
regD Try.prog (evC Try.prog) d15_0 9 ⟨#[x0, x1, x2, x3, x4, x5, x6, x7, x8, x9, x10, x11, x12, x13, x14, x15, x16, x17, x18, x19, x20, x21, x22, x23, x24, x25, x26, x27, x28, x29, x30, x31, x32, x33, x34, x35, x36, x37, x38, x39, x40, x41, x42, x43, x44, x45, x46, x46, x48, x49, x50, x51, x52, x53, x54, x55, x56, x57, x58, x59], h⟩ r m k := regD_move _ _ d15_0 8 (by kernel_rfl) (by kernel_rfl) (by kernel_rfl) _ _ _ _ _ _ (by kernel_rfl) (by kernel_rfl)
theorem d15_0_9 {β : Type} (x0 x1 x2 x3 x4 x5 x6 x7 x8 x9 x10 x11 x12 x13 x14 x15 x16 x17 x18 x19 x20 x21 x22 x23 x24 x25 x26 x27 x28 x29 x30 x31 x32 x33 x34 x35 x36 x37 x38 x39 x40 x41 x42 x43 x44 x45 x46 x47 x48 x49 x50 x51 x52 x53 x54 x55 x56 x57 x58 x59 : Value) (h : Heap) (r m : List Nat) (k : St → Option β) : regD Try.prog (evC Try.prog) d15_0 9 ⟨#[x0, x1, x2, x3, x4, x5, x6, x7, x8, x9, x10, x11, x12, x13, x14, x15, x16, x17, x18, x19, x20, x21, x22, x23, x24, x25, x26, x27, x28, x29, x30, x31, x32, x33, x34, x35, x36, x37, x38, x39, x40, x41, x42, x43, x44, x45, x46, x47, x48, x49, x50, x51, x52, x53, x54, x55, x56, x57, x58, x59], h⟩ r m k =
(gd (wt x47 true) (loadV Try.prog 104 x1 h)).bind fun t48_52 =>
regD Try.prog (evC Try.prog) d15_0 10 ⟨#[x0, x1, x2, x3, x4, x5, x6, x7, x8, x9, x10, x11, x12, x13, x14, x15, x16, x17, x18, x19, x20, x21, x22, x23, x24, x25, x26, x27, x28, x29, x30, x31, x32, x33, x34, x35, x36, x37, x38, x39, x40, x41, x42, x43, x44, x45, x46, x47, t48_52, x49, x50, x51, x52, x53, x54, x55, x56, x57, x58, x59], h⟩ r m k := (regD_step _ _ d15_0 9 (by kernel_rfl) _ _ _ _).trans (by kernel_rfl)
theorem d15_0_10 {β : Type} (x0 x1 x2 x3 x4 x5 x6 x7 x8 x9 x10 x11 x12 x13 x14 x15 x16 x17 x18 x19 x20 x21 x22 x23 x24 x25 x26 x27 x28 x29 x30 x31 x32 x33 x34 x35 x36 x37 x38 x39 x40 x41 x42 x43 x44 x45 x46 x47 x48 x49 x50 x51 x52 x53 x54 x55 x56 x57 x58 x59 : Value) (h : Heap) (r m : List Nat) (k : St → Option β) : regD Try.prog (evC Try.prog) d15_0 10 ⟨#[x0, x1, x2, x3, x4, x5, x6, x7, x8, x9, x10, x11, x12, x13, x14, x15, x16, x17, x18, x19, x20, x21, x22, x23, x24, x25, x26, x27, x28, x29, x30, x31, x32, x33, x34, x35, x36, x37, x38, x39, x40, x41, x42, x43, x44, x45, x46, x47, x48, x49, x50, x51, x52, x53, x54, x55, x56, x57, x58, x59], h⟩ r m k =
obH (gdH (wt x47 true) (nm h) (evC Try.prog 73 #[x48] (nm h))) fun t49_53 h54 =>
regD Try.prog (evC Try.prog) d15_0 11 ⟨#[x0, x1, x2, x3, x4, x5, x6, x7, x8, x9, x10, x11, x12, x13, x14, x15, x16, x17, x18, x19, x20, x21, x22, x23, x24, x25, x26, x27, x28, x29, x30, x31, x32, x33, x34, x35, x36, x37, x38, x39, x40, x41, x42, x43, x44, x45, x46, x47, x48, t49_53, x50, x51, x52, x53, x54, x55, x56, x57, x58, x59], (am h54 h)⟩ r (h54.mods ++ m) k := (regD_step _ _ d15_0 10 (by kernel_rfl) _ _ _ _).trans (by kernel_rfl)
theorem d15_0_11 {β : Type} (x0 x1 x2 x3 x4 x5 x6 x7 x8 x9 x10 x11 x12 x13 x14 x15 x16 x17 x18 x19 x20 x21 x22 x23 x24 x25 x26 x27 x28 x29 x30 x31 x32 x33 x34 x35 x36 x37 x38 x39 x40 x41 x42 x43 x44 x45 x46 x47 x48 x49 x50 x51 x52 x53 x54 x55 x56 x57 x58 x59 : Value) (h : Heap) (r m : List Nat) (k : St → Option β) : regD Try.prog (evC Try.prog) d15_0 11 ⟨#[x0, x1, x2, x3, x4, x5, x6, x7, x8, x9, x10, x11, x12, x13, x14, x15, x16, x17, x18, x19, x20, x21, x22, x23, x24, x25, x26, x27, x28, x29, x30, x31, x32, x33, x34, x35, x36, x37, x38, x39, x40, x41, x42, x43, x44, x45, x46, x47, x48, x49, x50, x51, x52, x53, x54, x55, x56, x57, x58, x59], h⟩ r m k =
(gd (wt x47 true) (loadV Try.prog 104 x1 h)).bind fun t50_55 =>
regD Try.prog (evC Try.prog) d15_0 12 ⟨#[x0, x1, x2, x3, x4, x5, x6, x7, x8, x9, x10, x11, x12, x13, x14, x15, x16, x17, x18, x19, x20, x21, x22, x23, x24, x25, x26, x27, x28, x29, x30, x31, x32, x33, x34, x35, x36, x37, x38, x39, x40, x41, x42, x43, x44, x45, x46, x47, x48, x49, t50_55, x51, x52, x53, x54, x55, x56, x57, x58, x59], h⟩ (rdL (wt x47 true) (rb x1) ++ r) m k := (regD_step _ _ d15_0 11 (by kernel_rfl) _ _ _ _).trans (by kernel_rfl)
theorem d15_0_12 {β : Type} (x0 x1 x2 x3 x4 x5 x6 x7 x8 x9 x10 x11 x12 x13 x14 x15 x16 x17 x18 x19 x20 x21 x22 x23 x24 x25 x26 x27 x28 x29 x30 x31 x32 x33 x34 x35 x36 x37 x38 x39 x40 x41 x42 x43 x44 x45 x46 x47 x48 x49 x50 x51 x52 x53 x54 x55 x56 x57 x58 x59 : Value) (h : Heap) (r m : List Nat) (k : St → Option β) : regD Try.prog (evC Try.prog) d15_0 12 ⟨#[x0, x1, x2, x3, x4, x5, x6, x7, x8, x9, x10, x11, x12, x13, x14, x15, x16, x17, x18, x19, x20, x21, x22, x23, x24, x25, x26, x27, x28, x29, x30, x31, x32, x33, x34, x35, x36, x37, x38, x39, x40, x41, x42, x43, x44, x45, x46, x47, x48, x49, x50, x51, x52, x53, x54, x55, x56, x57, x58, x59], h⟩ r m k =
obH (gdH (wt x47 true) h (evC Try.prog 66 #[x50] h)) fun t51_56 h57 =>
regD Try.prog (evC Try.prog) d15_0 13 ⟨#[x0, x1, x2, x3, x4, x5, x6, x7, x8, x9, x10, x11, x12, x13, x14, x15, x16, x17, x18, x19, x20, x21, x22, x23, x24, x25, x26, x27, x28, x29, x30, x31, x32, x33, x34, x35, x36, x37, x38, x39, x40, x41, x42, x43, x44, x45, x46, x47, x48, x49, x50, t51_56, x52, x53, x54, x55, x56, x57, x58, x59], h57⟩ r m k := (regD_step _ _ d15_0 12 (by kernel_rfl) _ _ _ _).trans (by kernel_rfl)
theorem d15_0_13 {β : Type} (x0 x1 x2 x3 x4 x5 x6 x7 x8 x9 x10 x11 x12 x13 x14 x15 x16 x17 x18 x19 x20 x21 x22 x23 x24 x25 x26 x27 x28 x29 x30 x31 x32 x33 x34 x35 x36 x37 x38 x39 x40 x41 x42 x43 x44 x45 x46 x47 x48 x49 x50 x51 x52 x53 x54 x55 x56 x57 x58 x59 : Value) (h : Heap) (r m : List Nat) (k : St → Option β) : regD Try.prog (evC Try.prog) d15_0 13 ⟨#[x0, x1, x2, x3, x4, x5, x6, x7, x8, x9, x10, x11, x12, x13, x14, x15, x16, x17, x18, x19, x20, x21, x22, x23, x24, x25, x26, x27, x28, x29, x30, x31, x32, x33, x34, x35, x36, x37, x38, x39, x40, x41, x42, x43, x44, x45, x46, x47, x48, x49, x50, x51, x52, x53, x54, x55, x56, x57, x58, x59], h⟩ r m k =
(gd (wt x47 true) (lenV Try.prog 23 x51 h)).bind fun t52_58 =>
regD Try.prog (evC Try.prog) d15_0 14 ⟨#[x0, x1, x2, x3, x4, x5, x6, x7, x8, x9, x10, x11, x12, x13, x14, x15, x16, x17, x18, x19, x20, x21, x22, x23, x24, x25, x26, x27, x28, x29, x30, x31, x32, x33, x34, x35, x36, x37, x38, x39, x40, x41, x42, x43, x44, x45, x46, x47, x48, x49, x50, x51, t52_58, x53, x54, x55, x56, x57, x58, x59], h⟩ r m k := (regD_step _ _ d15_0 13 (by kernel_rfl) _ _ _ _).trans (by kernel_rfl)
theorem d15_0_14 {β : Type} (x0 x1 x2 x3 x4 x5 x6 x7 x8 x9 x10 x11 x12 x13 x14 x15 x16 x17 x18 x19 x20 x21 x22 x23 x24 x25 x26 x27 x28 x29 x30 x31 x32 x33 x34 x35 x36 x37 x38 x39 x40 x41 x42 x43 x44 x45 x46 x47 x48 x49 x50 x51 x52 x53 x54 x55 x56 x57 x58 x59 : Value) (h : Heap) (r m : List Nat) (k : St → Option β) : regD Try.prog (evC Try.prog) d15_0 14 ⟨#[x0, x1, x2, x3, x4, x5, x6, x7, x8, x9, x10, x11, x12, x13, x14, x15, x16, x17, x18, x19, x20, x21, x22, x23, x24, x25, x26, x27, x28, x29, x30, x31, x32, x33, x34, x35, x36, x37, x38, x39, x40, x41, x42, x43, x44, x45, x46, x47, x48, x49, x50, x51, x52, x53, x54, x55, x56, x57, x58, x59], h⟩ r m k =
(gd (wt x47 true) (binV Try.prog .eql 3 (.tmp 49) (.tmp 52) x49 x52)).bind fun t53_59 =>
regD Try.prog (evC Try.prog) d15_0 15 ⟨#[x0, x1, x2, x3, x4, x5, x6, x7, x8, x9, x10, x11, x12, x13, x14, x15, x16, x17, x18, x19, x20, x21, x22, x23, x24, x25, x26, x27, x28, x29, x30, x31, x32, x33, x34, x35, x36, x37, x38, x39, x40, x41, x42, x43, x44, x45, x46, x47, x48, x49, x50, x51, x52, t53_59, x54, x55, x56, x57, x58, x59], h⟩ r m k := (regD_step _ _ d15_0 14 (by kernel_rfl) _ _ _ _).trans (by kernel_rfl)
theorem d15_0_15 {β : Type} (x0 x1 x2 x3 x4 x5 x6 x7 x8 x9 x10 x11 x12 x13 x14 x15 x16 x17 x18 x19 x20 x21 x22 x23 x24 x25 x26 x27 x28 x29 x30 x31 x32 x33 x34 x35 x36 x37 x38 x39 x40 x41 x42 x43 x44 x45 x46 x47 x48 x49 x50 x51 x52 x53 x54 x55 x56 x57 x58 x59 : Value) (h : Heap) (r m : List Nat) (k : St → Option β) : regD Try.prog (evC Try.prog) d15_0 15 ⟨#[x0, x1, x2, x3, x4, x5, x6, x7, x8, x9, x10, x11, x12, x13, x14, x15, x16, x17, x18, x19, x20, x21, x22, x23, x24, x25, x26, x27, x28, x29, x30, x31, x32, x33, x34, x35, x36, x37, x38, x39, x40, x41, x42, x43, x44, x45, x46, x47, x48, x49, x50, x51, x52, x53, x54, x55, x56, x57, x58, x59], h⟩ r m k =
(pickV x47 x53 (Go.Value.bool Bool.false)).bind fun t54_60 =>
regD Try.prog (evC Try.prog) d15_0 16 ⟨#[x0, x1, x2, x3, x4, x5, x6, x7, x8, x9, x10, x11, x12, x13, x14, x15, x16, x17, x18, x19, x20, x21, x22, x23, x24, x25, x26, x27, x28, x29, x30, x31, x32, x33, x34, x35, x36, x37, x38, x39, x40, x41, x42, x43, x44, x45, x46, x47, x48, x49, x50, x51, x52, x53, t54_60, x55, x56, x57, x58, x59], h⟩ r m k := (regD_step _ _ d15_0 15 (by kernel_rfl) _ _ _ _).trans (by kernel_rfl)
theorem d15_0_16 {β : Type} (x0 x1 x2 x3 x4 x5 x6 x7 x8 x9 x10 x11 x12 x13 x14 x15 x16 x17 x18 x19 x20 x21 x22 x23 x24 x25 x26 x27 x28 x29 x30 x31 x32 x33 x34 x35 x36 x37 x38 x39 x40 x41 x42 x43 x44 x45 x46 x47 x48 x49 x50 x51 x52 x53 x54 x55 x56 x57 x58 x59 : Value) (h : Heap) (r m : List Nat) (k : St → Option β) : regD Try.prog (evC Try.prog) d15_0 16 ⟨#[x0, x1, x2, x3, x4, x5, x6, x7, x8, x9, x10, x11, x12, x13, x14, x15, x16, x17, x18, x19, x20, x21, x22, x23, x24, x25, x26, x27, x28, x29, x30, x31, x32, x33, x34, x35, x36, x37, x38, x39, x40, x41, x42, x43, x44, x45, x46, x47, x48, x49, x50, x51, x52, x53, x54, x55, x56, x57, x58, x59], h⟩ r m k =
regD Try.prog (evC Try.prog) d15_0 17 ⟨#[x0, x1, x2, x3, x4, x5, x6, x7, x8, x9, x10, x11, x12, x13, x14, x15, x16, x17, x18, x19, x20, x21, x22, x23, x24, x25, x26, x27, x28, x29, x30, x31, x32, x33, x34, x35, x36, x37, x38, x39, x40, x41, x42, x43, x44, x45, x46, x47, x48, x49, x50, x51, x52, x53, x54, x54, x56, x57, x58, x59], h⟩ r m k := regD_move _ _ d15_0 16 (by kernel_rfl) (by kernel_rfl) (by kernel_rfl) _ _ _ _ _ _ (by kernel_rfl) (by kernel_rfl)
theorem d15_0_17 {β : Type} (x0 x1 x2 x3 x4 x5 x6 x7 x8 x9 x10 x11 x12 x13 x14 x15 x16 x17 x18 x19 x20 x21 x22 x23 x24 x25 x26 x27 x28 x29 x30 x31 x32 x33 x34 x35 x36 x37 x38 x39 x40 x41 x42 x43 x44 x45 x46 x47 x48 x49 x50 x51 x52 x53 x54 x55 x56 x57 x58 x59 : Value) (h : Heap) (r m : List Nat) (k : St → Option β) : regD Try.prog (evC Try.prog) d15_0 17 ⟨#[x0, x1, x2, x3, x4, x5, x6, x7, x8, x9, x10, x11, x12, x13, x14, x15, x16, x17, x18, x19, x20, x21, x22, x23, x24, x25, x26, x27, x28, x29, x30, x31, x32, x33, x34, x35, x36, x37, x38, x39, x40, x41, x42, x43, x44, x45, x46, x47, x48, x49, x50, x51, x52, x53, x54, x55, x56, x57, x58, x59], h⟩ r m k =
(gd (wt x55 true) (loadV Try.prog 104 x1 h)).bind fun t56_61 =>
regD Try.prog (evC Try.prog) d15_0 18 ⟨#[x0, x1, x2, x3, x4, x5, x6, x7, x8, x9, x10, x11, x12, x13, x14, x15, x16, x17, x18, x19, x20, x21, x22, x23, x24, x25, x26, x27, x28, x29, x30, x31, x32, x33, x34, x35, x36, x37, x38, x39, x40, x41, x42, x43, x44, x45, x46, x47, x48, x49, x50, x51, x52, x53, x54, x55, t56_61, x57, x58, x59], h⟩ r m k := (regD_step _ _ d15_0 17 (by kernel_rfl) _ _ _ _).trans (by kernel_rfl)
theorem d15_0_18 {β : Type} (x0 x1 x2 x3 x4 x5 x6 x7 x8 x9 x10 x11 x12 x13 x14 x15 x16 x17 x18 x19 x20 x21 x22 x23 x24 x25 x26 x27 x28 x29 x30 x31 x32 x33 x34 x35 x36 x37 x38 x39 x40 x41 x42 x43 x44 x45 x46 x47 x48 x49 x50 x51 x52 x53 x54 x55 x56 x57 x58 x59 : Value) (h : Heap) (r m : List Nat) (k : St → Option β) : regD Try.prog (evC Try.prog) d15_0 18 ⟨#[x0, x1, x2, x3, x4, x5, x6, x7, x8, x9, x10, x11, x12, x13, x14, x15, x16, x17, x18, x19, x20, x21, x22, x23, x24, x25, x26, x27, x28, x29, x30, x31, x32, x33, x34, x35, x36, x37, x38, x39, x40, x41, x42, x43, x44, x45, x46, x47, x48, x49, x50, x51, x52, x53, x54, x55, x56, x57, x58, x59], h⟩ r m k =
obH (gdH (wt x55 true) h (evC Try.prog 73 #[x56] h)) fun t57_62 h63 =>
regD Try.prog (evC Try.prog) d15_0 19 ⟨#[x0, x1, x2, x3, x4, x5, x6, x7, x8, x9, x10, x11, x12, x13, x14, x15, x16, x17, x18, x19, x20, x21, x22, x23, x24, x25, x26, x27, x28, x29, x30, x31, x32, x33, x34, x35, x36, x37, x38, x39, x40, x41, x42, x43, x44, x45, x46, x47, x48, x49, x50, x51, x52, x53, x54, x55, x56, t57_62, x58, x59], h63⟩ r m k := (regD_step _ _ d15_0 18 (by kernel_rfl) _ _ _ _).trans (by kernel_rfl)
theorem d15_0_19 {β : Type} (x0 x1 x2 x3 x4 x5 x6 x7 x8 x9 x10 x11 x12 x13 x14 x15 x16 x17 x18 x19 x20 x21 x22 x23 x24 x25 x26 x27 x28 x29 x30 x31 x32 x33 x34 x35 x36 x37 x38 x39 x40 x41 x42 x43 x44 x45 x46 x47 x48 x49 x50 x51 x52 x53 x54 x55 x56 x57 x58 x59 : Value) (h : Heap) (r m : List Nat) (k : St → Option β) : regD Try.prog (evC Try.prog) d15_0 19 ⟨#[x0, x1, x2, x3, x4, x5, x6, x7, x8, x9, x10, x11, x12, x13, x14, x15, x16, x17, x18, x19, x20, x21, x22, x23, x24, x25, x26, x27, x28, x29, x30, x31, x32, x33, x34, x35, x36, x37, x38, x39, x40, x41, x42, x43, x44, x45, x46, x47, x48, x49, x50, x51, x52, x53, x54, x55, x56, x57, x58, x59], h⟩ r m k =
(gd (wt x55 true) (binV Try.prog .gtr 3 (.tmp 57) (.const (Go.Value.int Go.IntKind.i64 5)) x57 (Go.Value.int Go.IntKind.i64 5))).bind fun t58_64 =>
regD Try.prog (evC Try.prog) d15_0 20 ⟨#[x0, x1, x2, x3, x4, x5, x6, x7, x8, x9, x10, x11, x12, x13, x14, x15, x16, x17, x18, x19, x20, x21, x22, x23, x24, x25, x26, x27, x28, x29, x30, x31, x32, x33, x34, x35, x36, x37, x38, x39, x40, x41, x42, x43, x44, x45, x46, x47, x48, x49, x50, x51, x52, x53, x54, x55, x56, x57, t58_64, x59], h⟩ r m k := (regD_step _ _ d15_0 19 (by kernel_rfl) _ _ _ _).trans (by kernel_rfl)
theorem d15_0_20 {β : Type} (x0 x1 x2 x3 x4 x5 x6 x7 x8 x9 x10 x11 x12 x13 x14 x15 x16 x17 x18 x19 x20 x21 x22 x23 x24 x25 x26 x27 x28 x29 x30 x31 x32 x33 x34 x35 x36 x37 x38 x39 x40 x41 x42 x43 x44 x45 x46 x47 x48 x49 x50 x51 x52 x53 x54 x55 x56 x57 x58 x59 : Value) (h : Heap) (r m : List Nat) (k : St → Option β) : regD Try.prog (evC Try.prog) d15_0 20 ⟨#[x0, x1, x2, x3, x4, x5, x6, x7, x8, x9, x10, x11, x12, x13, x14, x15, x16, x17, x18, x19, x20, x21, x22, x23, x24, x25, x26, x27, x28, x29, x30, x31, x32, x33, x34, x35, x36, x37, x38, x39, x40, x41, x42, x43, x44, x45, x46, x47, x48, x49, x50, x51, x52, x53, x54, x55, x56, x57, x58, x59], h⟩ r m k =
(pickV x55 x58 (Go.Value.bool Bool.false)).bind fun t59_65 =>
regD Try.prog (evC Try.prog) d15_0 21 ⟨#[x0, x1, x2, x3, x4, x5, x6, x7, x8, x9, x10, x11, x12, x13, x14, x15, x16, x17, x18, x19, x20, x21, x22, x23, x24, x25, x26, x27, x28, x29, x30, x31, x32, x33, x34, x35, x36, x37, x38, x39, x40, x41, x42, x43, x44, x45, x46, x47, x48, x49, x50, x51, x52, x53, x54, x55, x56, x57, x58, t59_65], h⟩ r m k := (regD_step _ _ d15_0 20 (by kernel_rfl) _ _ _ _).trans (by kernel_rfl)
theorem d15_0_21 {β : Type} (x0 x1 x2 x3 x4 x5 x6 x7 x8 x9 x10 x11 x12 x13 x14 x15 x16 x17 x18 x19 x20 x21 x22 x23 x24 x25 x26 x27 x28 x29 x30 x31 x32 x33 x34 x35 x36 x37 x38 x39 x40 x41 x42 x43 x44 x45 x46 x47 x48 x49 x50 x51 x52 x53 x54 x55 x56 x57 x58 x59 : Value) (h : Heap) (r m : List Nat) (k : St → Option β) : regD Try.prog (evC Try.prog) d15_0 21 ⟨#[x0, x1, x2, x3, x4, x5, x6, x7, x8, x9, x10, x11, x12, x13, x14, x15, x16, x17, x18, x19, x20, x21, x22, x23, x24, x25, x26, x27, x28, x29, x30, x31, x32, x33, x34, x35, x36, x37, x38, x39, x40, x41, x42, x43, x44, x45, x46, x47, x48, x49, x50, x51, x52, x53, x54, x55, x56, x57, x58, x59], h⟩ r m k =
regD Try.prog (evC Try.prog) d15_0 22 ⟨#[x0, x1, x59, x3, x4, x5, x6, x7, x8, x9, x10, x11, x12, x13, x14, x15, x16, x17, x18, x19, x20, x21, x22, x23, x24, x25, x26, x27, x28, x29, x30, x31, x32, x33, x34, x35, x36, x37, x38, x39, x40, x41, x42, x43, x44, x45, x46, x47, x48, x49, x50, x51, x52, x53, x54, x55, x56, x57, x58, x59], h⟩ r m k := regD_move _ _ d15_0 21 (by kernel_rfl) (by kernel_rfl) (by kernel_rfl) _ _ _ _ _ _ (by kernel_rfl) (by kernel_rfl)
theorem d15_0_22 {β : Type} (x0 x1 x2 x3 x4 x5 x6 x7 x8 x9 x10 x11 x12 x13 x14 x15 x16 x17 x18 x19 x20 x21 x22 x23 x24 x25 x26 x27 x28 x29 x30 x31 x32 x33 x34 x35 x36 x37 x38 x39 x40 x41 x42 x43 x44 x45 x46 x47 x48 x49 x50 x51 x52 x53 x54 x55 x56 x57 x58 x59 : Value) (h : Heap) (r m : List Nat) (k : St → Option β) : regD Try.prog (evC Try.prog) d15_0 22 ⟨#[x0, x1, x2, x3, x4, x5, x6, x7, x8, x9, x10, x11, x12, x13, x14, x15, x16, x17, x18, x19, x20, x21, x22, x23, x24, x25, x26, x27, x28, x29, x30, x31, x32, x33, x34, x35, x36, x37, x38, x39, x40, x41, x42, x43, x44, x45, x46, x47, x48, x49, x50, x51, x52, x53, x54, x55, x56, x57, x58, x59], h⟩ r m k =
chk r m (k ⟨#[x0, x1, x2, x3, x4, x5, x6, x7, x8, x9, x10, x11, x12, x13, x14, x15, x16, x17, x18, x19, x20, x21, x22, x23, x24, x25, x26, x27, x28, x29, x30, x31, x32, x33, x34, x35, x36, x37, x38, x39, x40, x41, x42, x43, x44, x45, x46, x47, x48, x49, x50, x51, x52, x53, x54, x55, x56, x57, x58, x59], h⟩) := by kernel_rfl
theorem c15_11_eq {β : Type} (x0 x1 x2 x3 x4 x5 x6 x7 x8 x9 x10 x11 x12 x13 x14 x15 x16 x17 x18 x19 x20 x21 x22 x23 x24 x25 x26 x27 x28 x29 x30 x31 x32 x33 x34 x35 x36 x37 x38 x39 x40 x41 x42 x43 x44 x45 x46 x47 x48 x49 x50 x51 x52 x53 x54 x55 x56 x57 x58 x59 : Value) (h : Heap) (k : Ex → St → Option β) : codeK Try.prog (evC Try.prog) loopL c15_11 ⟨#[x0, x1, x2, x3, x4, x5, x6, x7, x8, x9, x10, x11, x12, x13, x14, x15, x16, x17, x18, x19, x20, x21, x22, x23, x24, x25, x26, x27, x28, x29, x30, x31, x32, x33, x34, x35, x36, x37, x38, x39, x40, x41, x42, x43, x44, x45, x46, x47, x48, x49, x50, x51, x52, x53, x54, x55, x56, x57, x58, x59], h⟩ k =
regD Try.prog (evC Try.prog) d15_0 0 ⟨#[x0, x1, x2, x3, x4, x5, x6, x7, x8, x9, x10, x11, x12, x13, x14, x15, x16, x17, x18, x19, x20, x21, x22, x23, x24, x25, x26, x27, x28, x29, x30, x31, x32, x33, x34, x35, x36, x37, x38, x39, x40, x41, x42, x43, x44, x45, x46, x47, x48, x49, x50, x51, x52, x53, x54, x55, x56, x57, x58, x59], h⟩ [] [] (fun s => k .normal s) := by kernel_rfl
theorem c15_12_eq {β : Type} (x0 x1 x2 x3 x4 x5 x6 x7 x8 x9 x10 x11 x12 x13 x14 x15 x16 x17 x18 x19 x20 x21 x22 x23 x24 x25 x26 x27 x28 x29 x30 x31 x32 x33 x34 x35 x36 x37 x38 x39 x40 x41 x42 x43 x44 x45 x46 x47 x48 x49 x50 x51 x52 x53 x54 x55 x56 x57 x58 x59 : Value) (h : Heap) (k : Ex → St → Option β) : codeK Try.prog (evC Try.prog) loopL c15_12 ⟨#[x0, x1, x2, x3, x4, x5, x6, x7, x8, x9, x10, x11, x12, x13, x14, x15, x16, x17, x18, x19, x20, x21, x22, x23, x24, x25, x26, x27, x28, x29, x30, x31, x32, x33, x34, x35, x36, x37, x38, x39, x40, x41, x42, x43, x44, x45, x46, x47, x48, x49, x50, x51, x52, x53, x54, x55, x56, x57, x58, x59], h⟩ k =
k .ret ⟨#[x0, x1, x2, x3, x4, x5, x6, x7, x8, x9, x10, x11, x12, x13, x14, x15, x16, x17, x18, x19, x20, x21, x22, x23, x24, x25, x26, x27, x28, x29, x30, x31, x32, x33, x34, x35, x36, x37, x38, x39, x40, x41, x42, x43, x44, x45, x46, x47, x48, x49, x50, x51, x52, x53, x54, x55, x56, x57, x58, x59], h⟩ := by kernel_rfl
theorem call15 (x0 : Value) (h : Heap) : evC Try.prog 15 #[x0] h = codeK Try.prog (evC Try.prog) loopL c15_0 ⟨#[x0, undef, undef, undef, undef, undef, undef, undef, undef, undef, undef, undef, undef, undef, undef, undef, undef, undef, undef, undef, undef, undef, undef, undef, undef, undef, undef, undef, undef, undef, undef, undef, undef, undef, undef, undef, undef, undef, undef, undef, undef, undef, undef, undef, undef, undef, undef, undef, undef, undef, undef, undef, undef, undef, undef, undef, undef, undef, undef, undef], nm h⟩ (retK Try.f15 Try.prog h) :=
  (evC_call 15 Try.f15 c15_0 Try.func15 (by kernel_rfl) #[x0] h).trans (by kernel_rfl)
theorem ret15 (x0 x1 x2 x3 x4 x5 x6 x7 x8 x9 x10 x11 x12 x13 x14 x15 x16 x17 x18 x19 x20 x21 x22 x23 x24 x25 x26 x27 x28 x29 x30 x31 x32 x33 x34 x35 x36 x37 x38 x39 x40 x41 x42 x43 x44 x45 x46 x47 x48 x49 x50 x51 x52 x53 x54 x55 x56 x57 x58 x59 : Value) (h0 h : Heap) : retK Try.f15 Try.prog h0 .ret ⟨#[x0, x1, x2, x3, x4, x5, x6, x7, x8, x9, x10, x11, x12, x13, x14, x15, x16, x17, x18, x19, x20, x21, x22, x23, x24, x25, x26, x27, x28, x29, x30, x31, x32, x33, x34, x35, x36, x37, x38, x39, x40, x41, x42, x43, x44, x45, x46, x47, x48, x49, x50, x51, x52, x53, x54, x55, x56, x57, x58, x59], h⟩ = fin h0 (some x2) h := by kernel_rfl
theorem retn15 (x0 x1 x2 x3 x4 x5 x6 x7 x8 x9 x10 x11 x12 x13 x14 x15 x16 x17 x18 x19 x20 x21 x22 x23 x24 x25 x26 x27 x28 x29 x30 x31 x32 x33 x34 x35 x36 x37 x38 x39 x40 x41 x42 x43 x44 x45 x46 x47 x48 x49 x50 x51 x52 x53 x54 x55 x56 x57 x58 x59 : Value) (h0 h : Heap) : retK Try.f15 Try.prog h0 .normal ⟨#[x0, x1, x2, x3, x4, x5, x6, x7, x8, x9, x10, x11, x12, x13, x14, x15, x16, x17, x18, x19, x20, x21, x22, x23, x24, x25, x26, x27, x28, x29, x30, x31, x32, x33, x34, x35, x36, x37, x38, x39, x40, x41, x42, x43, x44, x45, x46, x47, x48, x49, x50, x51, x52, x53, x54, x55, x56, x57, x58, x59], h⟩ = fin h0 (some x2) h := by kernel_rfl
end Go.Am
