/- Printed by a program of this seat (AmP): what the texts of functions come to. Lean checks it. -/
import Derived.Test.YtkiigdhlnfpebaaAm20
import Derived.Test.YtkiigdhlnfpebaaChecked
import Derived.KernelRfl
namespace Go.Am
open Go.Proofs
set_option maxRecDepth 100000
noncomputable def c20_0 : Code := bodyC Try.f20 []
noncomputable def c20_1 : Code := bodyC Try.f20 [true, true, false, false, false]
noncomputable def c20_2 : Code := bodyC Try.f20 [true, true, true]
theorem c20_0_eq {β : Type} (x0 x1 x2 x3 x4 x5 x6 x7 x8 x9 x10 x11 x12 x13 x14 x15 x16 x17 x18 x19 x20 x21 x22 : Value) (h : Heap) (k : Ex → St → Option β) : codeK Try.prog (evC Try.prog) loopL c20_0 ⟨#[x0, x1, x2, x3, x4, x5, x6, x7, x8, x9, x10, x11, x12, x13, x14, x15, x16, x17, x18, x19, x20, x21, x22], h⟩ k =
obH (appendV Try.prog 31 (some 31) (Go.Value.slice Option.none 0 0) x0 h) fun t7_0 h1 =>
loopK Try.prog (evC Try.prog) c20_1 ⟨#[x0, x1, x2, x3, (Go.Value.slice Option.none 0 0), t7_0, x0, t7_0, x8, x9, x10, x11, x12, x13, x14, x15, x16, x17, x18, x19, x20, x21, x22], h1⟩ (blockK 0 (seqK Try.prog (evC Try.prog) c20_2 k)) := by kernel_rfl
theorem c20_1_eq {β : Type} (x0 x1 x2 x3 x4 x5 x6 x7 x8 x9 x10 x11 x12 x13 x14 x15 x16 x17 x18 x19 x20 x21 x22 : Value) (h : Heap) (k : Ex → St → Option β) : codeK Try.prog (evC Try.prog) loopL c20_1 ⟨#[x0, x1, x2, x3, x4, x5, x6, x7, x8, x9, x10, x11, x12, x13, x14, x15, x16, x17, x18, x19, x20, x21, x22], h⟩ k =
(binV Try.prog .geq 22 (.tmp 8) (.const (Go.Value.int Go.IntKind.u64 128)) x1 (Go.Value.int Go.IntKind.u64 128)).bind fun t9_2 =>
cnd t9_2 (
obH (convV Try.prog 22 5 x1 h) fun t12_3 h4 =>
(binV Try.prog .or 5 (.tmp 12) (.const (Go.Value.int Go.IntKind.u8 128)) t12_3 (Go.Value.int Go.IntKind.u8 128)).bind fun t13_5 =>
obH (buildSliceV Try.prog 31 1 #[(0, t13_5)] h4) fun t14_6 h7 =>
obH (appendV Try.prog 31 (some 31) x5 t14_6 h7) fun t15_8 h9 =>
(binV Try.prog .shr 22 (.tmp 16) (.const (Go.Value.int Go.IntKind.u64 7)) x1 (Go.Value.int Go.IntKind.u64 7)).bind fun t17_10 =>
k .normal ⟨#[x0, t17_10, x2, x3, x4, t15_8, x6, x7, x1, t9_2, x5, x1, t12_3, t13_5, t14_6, t15_8, x1, t17_10, x18, x19, x20, x21, x22], h9⟩) (
k (.exit 0) ⟨#[x0, x1, x2, x3, x4, x5, x6, x7, x1, t9_2, x10, x11, x12, x13, x14, x15, x16, x17, x18, x19, x20, x21, x22], h⟩) := by kernel_rfl
theorem c20_2_eq {β : Type} (x0 x1 x2 x3 x4 x5 x6 x7 x8 x9 x10 x11 x12 x13 x14 x15 x16 x17 x18 x19 x20 x21 x22 : Value) (h : Heap) (k : Ex → St → Option β) : codeK Try.prog (evC Try.prog) loopL c20_2 ⟨#[x0, x1, x2, x3, x4, x5, x6, x7, x8, x9, x10, x11, x12, x13, x14, x15, x16, x17, x18, x19, x20, x21, x22], h⟩ k =
obH (convV Try.prog 22 5 x1 h) fun t20_11 h12 =>
obH (buildSliceV Try.prog 31 1 #[(0, t20_11)] h12) fun t21_13 h14 =>
obH (appendV Try.prog 31 (some 31) x5 t21_13 h14) fun t22_15 h16 =>
k .ret ⟨#[x0, x1, x2, x3, t22_15, x5, x6, x7, x8, x9, x10, x11, x12, x13, x14, x15, x16, x17, x5, x1, t20_11, t21_13, t22_15], h16⟩ := by kernel_rfl
theorem call20 (x0 x1 : Value) (h : Heap) : evC Try.prog 20 #[x0, x1] h = codeK Try.prog (evC Try.prog) loopL c20_0 ⟨#[x0, x1, undef, undef, undef, undef, undef, undef, undef, undef, undef, undef, undef, undef, undef, undef, undef, undef, undef, undef, undef, undef, undef], nm h⟩ (retK Try.f20 Try.prog h) :=
  (evC_call 20 Try.f20 c20_0 Try.func20 (by kernel_rfl) #[x0, x1] h).trans (by kernel_rfl)
theorem ret20 (x0 x1 x2 x3 x4 x5 x6 x7 x8 x9 x10 x11 x12 x13 x14 x15 x16 x17 x18 x19 x20 x21 x22 : Value) (h0 h : Heap) : retK Try.f20 Try.prog h0 .ret ⟨#[x0, x1, x2, x3, x4, x5, x6, x7, x8, x9, x10, x11, x12, x13, x14, x15, x16, x17, x18, x19, x20, x21, x22], h⟩ = fin h0 (some x4) h := by kernel_rfl
theorem retn20 (x0 x1 x2 x3 x4 x5 x6 x7 x8 x9 x10 x11 x12 x13 x14 x15 x16 x17 x18 x19 x20 x21 x22 : Value) (h0 h : Heap) : retK Try.f20 Try.prog h0 .normal ⟨#[x0, x1, x2, x3, x4, x5, x6, x7, x8, x9, x10, x11, x12, x13, x14, x15, x16, x17, x18, x19, x20, x21, x22], h⟩ = fin h0 (some x4) h := by kernel_rfl
end Go.Am
