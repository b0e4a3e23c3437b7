/- Printed by a program of this seat (AmP): what the texts of functions come to. Lean checks it. -/
import Derived.Test.YtkiigdhlnfpebaaAm20
import Derived.Test.YtkiigdhlnfpebaaChecked
import Derived.KernelRfl
namespace Go.Am
open Go.Proofs
set_option maxRecDepth 100000
noncomputable def c19_0 : Code := bodyC Try.f19 []
noncomputable def c19_1 : Code := bodyC Try.f19 [true, true, false, false, false]
noncomputable def c19_2 : Code := bodyC Try.f19 [true, true, true]
theorem c19_0_eq {β : Type} (x0 x1 x2 x3 x4 x5 x6 x7 x8 x9 x10 : Value) (h : Heap) (k : Ex → St → Option β) : codeK Try.prog (evC Try.prog) loopL c19_0 ⟨#[x0, x1, x2, x3, x4, x5, x6, x7, x8, x9, x10], h⟩ k =
loopK Try.prog (evC Try.prog) c19_1 ⟨#[x0, x1, (Go.Value.int Go.IntKind.i64 0), (Go.Value.int Go.IntKind.i64 1), x4, x5, x6, x7, x8, x9, x10], h⟩ (blockK 0 (seqK Try.prog (evC Try.prog) c19_2 k)) := by kernel_rfl
theorem c19_1_eq {β : Type} (x0 x1 x2 x3 x4 x5 x6 x7 x8 x9 x10 : Value) (h : Heap) (k : Ex → St → Option β) : codeK Try.prog (evC Try.prog) loopL c19_1 ⟨#[x0, x1, x2, x3, x4, x5, x6, x7, x8, x9, x10], h⟩ k =
(binV Try.prog .geq 22 (.tmp 4) (.const (Go.Value.int Go.IntKind.u64 128)) x0 (Go.Value.int Go.IntKind.u64 128)).bind fun t5_0 =>
cnd t5_0 (
(binV Try.prog .shr 22 (.tmp 6) (.const (Go.Value.int Go.IntKind.u64 7)) x0 (Go.Value.int Go.IntKind.u64 7)).bind fun t7_1 =>
(binV Try.prog .add 3 (.tmp 8) (.const (Go.Value.int Go.IntKind.i64 1)) x3 (Go.Value.int Go.IntKind.i64 1)).bind fun t9_2 =>
k .normal ⟨#[t7_1, x1, x2, t9_2, x0, t5_0, x0, t7_1, x3, t9_2, x10], h⟩) (
k (.exit 0) ⟨#[x0, x1, x2, x3, x0, t5_0, x6, x7, x8, x9, x10], h⟩) := by kernel_rfl
theorem c19_2_eq {β : Type} (x0 x1 x2 x3 x4 x5 x6 x7 x8 x9 x10 : Value) (h : Heap) (k : Ex → St → Option β) : codeK Try.prog (evC Try.prog) loopL c19_2 ⟨#[x0, x1, x2, x3, x4, x5, x6, x7, x8, x9, x10], h⟩ k =
k .ret ⟨#[x0, x1, x3, x3, x4, x5, x6, x7, x8, x9, x3], h⟩ := by kernel_rfl
theorem call19 (x0 : Value) (h : Heap) : evC Try.prog 19 #[x0] h = codeK Try.prog (evC Try.prog) loopL c19_0 ⟨#[x0, undef, undef, undef, undef, undef, undef, undef, undef, undef, undef], nm h⟩ (retK Try.f19 Try.prog h) :=
  (evC_call 19 Try.f19 c19_0 Try.func19 (by kernel_rfl) #[x0] h).trans (by kernel_rfl)
theorem ret19 (x0 x1 x2 x3 x4 x5 x6 x7 x8 x9 x10 : Value) (h0 h : Heap) : retK Try.f19 Try.prog h0 .ret ⟨#[x0, x1, x2, x3, x4, x5, x6, x7, x8, x9, x10], h⟩ = fin h0 (some x2) h := by kernel_rfl
theorem retn19 (x0 x1 x2 x3 x4 x5 x6 x7 x8 x9 x10 : Value) (h0 h : Heap) : retK Try.f19 Try.prog h0 .normal ⟨#[x0, x1, x2, x3, x4, x5, x6, x7, x8, x9, x10], h⟩ = fin h0 (some x2) h := by kernel_rfl
end Go.Am
