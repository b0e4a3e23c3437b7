/- Printed by a program of this seat (AmP): what the texts of functions come to. Lean checks it. -/
import Derived.Test.YtkiigdhlnfpebaaAm20
import Derived.Test.YtkiigdhlnfpebaaChecked
import Derived.KernelRfl
namespace Go.Am
open Go.Proofs
set_option maxRecDepth 100000
noncomputable def c22_0 : Code := bodyC Try.f22 []
noncomputable def c22_1 : Code := bodyC Try.f22 [true, true, false, false, false]
noncomputable def c22_2 : Code := bodyC Try.f22 [true, true, true]
theorem c22_0_eq {β : Type} (x0 x1 x2 x3 x4 x5 x6 x7 x8 x9 x10 x11 x12 x13 x14 x15 x16 x17 x18 x19 x20 x21 x22 x23 x24 : Value) (h : Heap) (k : Ex → St → Option β) : codeK Try.prog (evC Try.prog) loopL c22_0 ⟨#[x0, x1, x2, x3, x4, x5, x6, x7, x8, x9, x10, x11, x12, x13, x14, x15, x16, x17, x18, x19, x20, x21, x22, x23, x24], h⟩ k =
loopK Try.prog (evC Try.prog) c22_1 ⟨#[x0, x1, (Go.Value.slice Option.none 0 0), (Go.Value.bool Bool.false), (Go.Value.slice Option.none 0 0), x5, x6, x7, x8, x9, x10, x11, x12, x13, x14, x15, x16, x17, x18, x19, x20, x21, x22, x23, x24], h⟩ (blockK 0 (seqK Try.prog (evC Try.prog) c22_2 k)) := by kernel_rfl
theorem c22_1_eq {β : Type} (x0 x1 x2 x3 x4 x5 x6 x7 x8 x9 x10 x11 x12 x13 x14 x15 x16 x17 x18 x19 x20 x21 x22 x23 x24 : Value) (h : Heap) (k : Ex → St → Option β) : codeK Try.prog (evC Try.prog) loopL c22_1 ⟨#[x0, x1, x2, x3, x4, x5, x6, x7, x8, x9, x10, x11, x12, x13, x14, x15, x16, x17, x18, x19, x20, x21, x22, x23, x24], h⟩ k =
(lenV Try.prog 31 x0 h).bind fun t8_0 =>
(binV Try.prog .gtr 3 (.tmp 8) (.const (Go.Value.int Go.IntKind.i64 0)) t8_0 (Go.Value.int Go.IntKind.i64 0)).bind fun t9_1 =>
cnd t9_1 (
obH (evC Try.prog 21 #[x0] h) fun t12_2 h3 =>
(extractV t12_2 0).bind fun t13_4 =>
(extractV t12_2 1).bind fun t14_5 =>
(binV Try.prog .eql 3 (.tmp 15) (.const (Go.Value.int Go.IntKind.i64 0)) t14_5 (Go.Value.int Go.IntKind.i64 0)).bind fun t16_6 =>
cnd t16_6 (
k .ret ⟨#[x0, x1, (Go.Value.slice Option.none 0 0), (Go.Value.bool Bool.false), x4, t13_4, t14_5, x0, t8_0, t9_1, t12_2, x0, t12_2, t13_4, t14_5, t14_5, t16_6, x17, x18, x19, x20, x21, x22, x23, x24], h3⟩) (
obH (buildSliceV Try.prog 41 1 #[(0, t13_4)] h3) fun t19_7 h8 =>
obH (appendV Try.prog 41 (some 41) x4 t19_7 h8) fun t20_9 h10 =>
(sliceV Try.prog 31 x0 (some t14_5) none none h10).bind fun t23_11 =>
k .normal ⟨#[t23_11, x1, x2, x3, t20_9, t13_4, t14_5, x0, t8_0, t9_1, t12_2, x0, t12_2, t13_4, t14_5, t14_5, t16_6, x4, t13_4, t19_7, t20_9, x0, t14_5, t23_11, x24], h10⟩)) (
k (.exit 0) ⟨#[x0, x1, x2, x3, x4, x5, x6, x0, t8_0, t9_1, x10, x11, x12, x13, x14, x15, x16, x17, x18, x19, x20, x21, x22, x23, x24], h⟩) := by kernel_rfl
theorem c22_2_eq {β : Type} (x0 x1 x2 x3 x4 x5 x6 x7 x8 x9 x10 x11 x12 x13 x14 x15 x16 x17 x18 x19 x20 x21 x22 x23 x24 : Value) (h : Heap) (k : Ex → St → Option β) : codeK Try.prog (evC Try.prog) loopL c22_2 ⟨#[x0, x1, x2, x3, x4, x5, x6, x7, x8, x9, x10, x11, x12, x13, x14, x15, x16, x17, x18, x19, x20, x21, x22, x23, x24], h⟩ k =
k .ret ⟨#[x0, x1, x4, (Go.Value.bool Bool.true), x4, x5, x6, x7, x8, x9, x10, x11, x12, x13, x14, x15, x16, x17, x18, x19, x20, x21, x22, x23, x4], h⟩ := by kernel_rfl
theorem call22 (x0 : Value) (h : Heap) : evC Try.prog 22 #[x0] h = codeK Try.prog (evC Try.prog) loopL c22_0 ⟨#[x0, undef, undef, undef, undef, undef, undef, undef, undef, undef, undef, undef, undef, undef, undef, undef, undef, undef, undef, undef, undef, undef, undef, undef, undef], nm h⟩ (retK Try.f22 Try.prog h) :=
  (evC_call 22 Try.f22 c22_0 Try.func22 (by kernel_rfl) #[x0] h).trans (by kernel_rfl)
theorem ret22 (x0 x1 x2 x3 x4 x5 x6 x7 x8 x9 x10 x11 x12 x13 x14 x15 x16 x17 x18 x19 x20 x21 x22 x23 x24 : Value) (h0 h : Heap) : retK Try.f22 Try.prog h0 .ret ⟨#[x0, x1, x2, x3, x4, x5, x6, x7, x8, x9, x10, x11, x12, x13, x14, x15, x16, x17, x18, x19, x20, x21, x22, x23, x24], h⟩ = fin h0 (some (.tuple #[x2, x3])) h := by kernel_rfl
theorem retn22 (x0 x1 x2 x3 x4 x5 x6 x7 x8 x9 x10 x11 x12 x13 x14 x15 x16 x17 x18 x19 x20 x21 x22 x23 x24 : Value) (h0 h : Heap) : retK Try.f22 Try.prog h0 .normal ⟨#[x0, x1, x2, x3, x4, x5, x6, x7, x8, x9, x10, x11, x12, x13, x14, x15, x16, x17, x18, x19, x20, x21, x22, x23, x24], h⟩ = fin h0 (some (.tuple #[x2, x3])) h := by kernel_rfl
end Go.Am
