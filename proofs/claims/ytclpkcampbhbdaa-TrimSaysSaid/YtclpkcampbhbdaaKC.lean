/- What the texts of functions come to in the machine (printed by a program of this seat; Lean checks it). -/
import Derived.Test.YtclpkcampbhbdaaKB
import Derived.Test.YtclpkcampbhbdaaChecked
import Derived.KernelRfl
set_option linter.all false
namespace Go.Am
open Go.Proofs
set_option maxRecDepth 100000
variable (Aa Ab Ac Ad Ae Af : Value)
noncomputable def c85_0 : Code := bodyC Try.f85 []
theorem c85_0_eq {β : Type} (h : Heap) (k : Ex → St → Option β) : codeK Try.prog (evC Try.prog) loopL c85_0 ⟨#[Aa,Ab,Ac,Ad,Ae,Af], h⟩ k =
(binV Try.prog .neq 3 (.tmp 3) (.tmp 4) Aa Aa).bind fun t5_0 =>
k .ret ⟨#[Aa,Ab, t5_0,Aa,Aa, t5_0], h⟩ := by kernel_rfl
theorem call85 (h : Heap) : evC Try.prog 85 #[Aa] h = codeK Try.prog (evC Try.prog) loopL c85_0 ⟨#[Aa, undef, undef, undef, undef, undef], nm h⟩ (retK Try.f85 Try.prog h) :=
  (evC_call 85 Try.f85 c85_0 Try.func85 (by kernel_rfl) #[Aa] h).trans (by kernel_rfl)
theorem ret85 (h0 h : Heap) : retK Try.f85 Try.prog h0 .ret ⟨#[Aa,Ab,Ac,Ad,Ae,Af], h⟩ = fin h0 (some Ac) h := by kernel_rfl
end Go.Am
namespace Go.Am
open Go.Proofs
set_option maxRecDepth 100000
variable (Aa Ab Ac Ad Ae Af : Value)
noncomputable def c86_0 : Code := bodyC Try.f86 []
theorem c86_0_eq {β : Type} (h : Heap) (k : Ex → St → Option β) : codeK Try.prog (evC Try.prog) loopL c86_0 ⟨#[Aa,Ab,Ac,Ad,Ae,Af], h⟩ k =
(binV Try.prog .neq 35 (.tmp 3) (.tmp 4) Aa Aa).bind fun t5_0 =>
k .ret ⟨#[Aa,Ab, t5_0,Aa,Aa, t5_0], h⟩ := by kernel_rfl
theorem call86 (h : Heap) : evC Try.prog 86 #[Aa] h = codeK Try.prog (evC Try.prog) loopL c86_0 ⟨#[Aa, undef, undef, undef, undef, undef], nm h⟩ (retK Try.f86 Try.prog h) :=
  (evC_call 86 Try.f86 c86_0 Try.func86 (by kernel_rfl) #[Aa] h).trans (by kernel_rfl)
theorem ret86 (h0 h : Heap) : retK Try.f86 Try.prog h0 .ret ⟨#[Aa,Ab,Ac,Ad,Ae,Af], h⟩ = fin h0 (some Ac) h := by kernel_rfl
end Go.Am
namespace Go.Am
open Go.Proofs
set_option maxRecDepth 100000
variable (Aa Ab Ac Ad Ae Af Ag Ah Ai Aj Ak Al An Ao Ap Aq Ar As At Au : Value)
noncomputable def c71_0 : Code := bodyC Try.f71 []
theorem c71_0_eq {β : Type} (h : Heap) (k : Ex → St → Option β) : codeK Try.prog (evC Try.prog) loopL c71_0 ⟨#[Aa,Ab,Ac,Ad,Ae,Af,Ag,Ah,Ai,Aj,Ak,Al,An,Ao,Ap,Aq,Ar,As,At,Au], h⟩ k =
obH (evC Try.prog 85 #[Aa] h) fun t8_0 h1 =>
obH (evC Try.prog 85 #[Ab] h1) fun t10_2 h3 =>
cnd t8_0 (
cnd t10_2 (
k .ret ⟨#[Aa,Ab,Ac,Ad, (Go.Value.int Go.IntKind.i64 0), t8_0, t10_2,Aa, t8_0,Ab, t10_2, t8_0, t10_2,Ao,Ap,Aq,Ar,As,At,Au], h3⟩) (
k .ret ⟨#[Aa,Ab,Ac,Ad, (Go.Value.int Go.IntKind.i64 (-1)), t8_0, t10_2,Aa, t8_0,Ab, t10_2, t8_0, t10_2,Ao,Ap,Aq,Ar,As,At,Au], h3⟩)) (
cnd t10_2 (
k .ret ⟨#[Aa,Ab,Ac,Ad, (Go.Value.int Go.IntKind.i64 1), t8_0, t10_2,Aa, t8_0,Ab, t10_2, t8_0,An, t10_2,Ap,Aq,Ar,As,At,Au], h3⟩) (
(binV Try.prog .lss 3 (.tmp 14) (.tmp 15) Aa Ab).bind fun t16_4 =>
cnd t16_4 (
k .ret ⟨#[Aa,Ab,Ac,Ad, (Go.Value.int Go.IntKind.i64 (-1)), t8_0, t10_2,Aa, t8_0,Ab, t10_2, t8_0,An, t10_2,Aa,Ab, t16_4,As,At,Au], h3⟩) (
(binV Try.prog .gtr 3 (.tmp 17) (.tmp 18) Aa Ab).bind fun t19_5 =>
cnd t19_5 (
k .ret ⟨#[Aa,Ab,Ac,Ad, (Go.Value.int Go.IntKind.i64 1), t8_0, t10_2,Aa, t8_0,Ab, t10_2, t8_0,An, t10_2,Aa,Ab, t16_4,Aa,Ab, t19_5], h3⟩) (
k .ret ⟨#[Aa,Ab,Ac,Ad, (Go.Value.int Go.IntKind.i64 0), t8_0, t10_2,Aa, t8_0,Ab, t10_2, t8_0,An, t10_2,Aa,Ab, t16_4,Aa,Ab, t19_5], h3⟩)))) := by kernel_rfl
theorem call71 (h : Heap) : evC Try.prog 71 #[Aa,Ab] h = codeK Try.prog (evC Try.prog) loopL c71_0 ⟨#[Aa,Ab, undef, undef, undef, undef, undef, undef, undef, undef, undef, undef, undef, undef, undef, undef, undef, undef, undef, undef], nm h⟩ (retK Try.f71 Try.prog h) :=
  (evC_call 71 Try.f71 c71_0 Try.func71 (by kernel_rfl) #[Aa,Ab] h).trans (by kernel_rfl)
theorem ret71 (h0 h : Heap) : retK Try.f71 Try.prog h0 .ret ⟨#[Aa,Ab,Ac,Ad,Ae,Af,Ag,Ah,Ai,Aj,Ak,Al,An,Ao,Ap,Aq,Ar,As,At,Au], h⟩ = fin h0 (some Ae) h := by kernel_rfl
end Go.Am
namespace Go.Am
open Go.Proofs
set_option maxRecDepth 100000
variable (Aa Ab Ac Ad Ae Af Ag Ah Ai Aj Ak Al An Ao Ap Aq Ar As At Au : Value)
noncomputable def c72_0 : Code := bodyC Try.f72 []
theorem c72_0_eq {β : Type} (h : Heap) (k : Ex → St → Option β) : codeK Try.prog (evC Try.prog) loopL c72_0 ⟨#[Aa,Ab,Ac,Ad,Ae,Af,Ag,Ah,Ai,Aj,Ak,Al,An,Ao,Ap,Aq,Ar,As,At,Au], h⟩ k =
obH (evC Try.prog 86 #[Aa] h) fun t8_0 h1 =>
obH (evC Try.prog 86 #[Ab] h1) fun t10_2 h3 =>
cnd t8_0 (
cnd t10_2 (
k .ret ⟨#[Aa,Ab,Ac,Ad, (Go.Value.int Go.IntKind.i64 0), t8_0, t10_2,Aa, t8_0,Ab, t10_2, t8_0, t10_2,Ao,Ap,Aq,Ar,As,At,Au], h3⟩) (
k .ret ⟨#[Aa,Ab,Ac,Ad, (Go.Value.int Go.IntKind.i64 (-1)), t8_0, t10_2,Aa, t8_0,Ab, t10_2, t8_0, t10_2,Ao,Ap,Aq,Ar,As,At,Au], h3⟩)) (
cnd t10_2 (
k .ret ⟨#[Aa,Ab,Ac,Ad, (Go.Value.int Go.IntKind.i64 1), t8_0, t10_2,Aa, t8_0,Ab, t10_2, t8_0,An, t10_2,Ap,Aq,Ar,As,At,Au], h3⟩) (
(binV Try.prog .lss 35 (.tmp 14) (.tmp 15) Aa Ab).bind fun t16_4 =>
cnd t16_4 (
k .ret ⟨#[Aa,Ab,Ac,Ad, (Go.Value.int Go.IntKind.i64 (-1)), t8_0, t10_2,Aa, t8_0,Ab, t10_2, t8_0,An, t10_2,Aa,Ab, t16_4,As,At,Au], h3⟩) (
(binV Try.prog .gtr 35 (.tmp 17) (.tmp 18) Aa Ab).bind fun t19_5 =>
cnd t19_5 (
k .ret ⟨#[Aa,Ab,Ac,Ad, (Go.Value.int Go.IntKind.i64 1), t8_0, t10_2,Aa, t8_0,Ab, t10_2, t8_0,An, t10_2,Aa,Ab, t16_4,Aa,Ab, t19_5], h3⟩) (
k .ret ⟨#[Aa,Ab,Ac,Ad, (Go.Value.int Go.IntKind.i64 0), t8_0, t10_2,Aa, t8_0,Ab, t10_2, t8_0,An, t10_2,Aa,Ab, t16_4,Aa,Ab, t19_5], h3⟩)))) := by kernel_rfl
theorem call72 (h : Heap) : evC Try.prog 72 #[Aa,Ab] h = codeK Try.prog (evC Try.prog) loopL c72_0 ⟨#[Aa,Ab, undef, undef, undef, undef, undef, undef, undef, undef, undef, undef, undef, undef, undef, undef, undef, undef, undef, undef], nm h⟩ (retK Try.f72 Try.prog h) :=
  (evC_call 72 Try.f72 c72_0 Try.func72 (by kernel_rfl) #[Aa,Ab] h).trans (by kernel_rfl)
theorem ret72 (h0 h : Heap) : retK Try.f72 Try.prog h0 .ret ⟨#[Aa,Ab,Ac,Ad,Ae,Af,Ag,Ah,Ai,Aj,Ak,Al,An,Ao,Ap,Aq,Ar,As,At,Au], h⟩ = fin h0 (some Ae) h := by kernel_rfl
end Go.Am
namespace Go.Am
open Go.Proofs
set_option maxRecDepth 100000
variable (Aa Ab Ac Ad Ae Af Ag Ah Ai Aj Ak Al An Ao Ap Aq Ar As : Value)
noncomputable def c70_0 : Code := bodyC Try.f70 []
noncomputable def c70_1 : Code := bodyC Try.f70 [true, true, false, true, false, false]
noncomputable def c70_2 : Code := bodyC Try.f70 [true, true, true]
theorem c70_0_eq {β : Type} (h : Heap) (k : Ex → St → Option β) : codeK Try.prog (evC Try.prog) loopL c70_0 ⟨#[Aa,Ab,Ac,Ad,Ae,Af,Ag,Ah,Ai,Aj,Ak,Al,An,Ao,Ap,Aq,Ar,As], h⟩ k =
(lenV Try.prog 43 Aa h).bind fun t7_0 =>
loopK Try.prog (evC Try.prog) c70_1 ⟨#[Aa,Ab, (Go.Value.int Go.IntKind.i64 0), (Go.Value.int Go.IntKind.i64 0),Ae,Af,Aa, t7_0, (Go.Value.int Go.IntKind.i64 0),Aj,Ak,Al,An,Ao,Ap,Aq,Ar,As], h⟩ (blockK 0 (seqK Try.prog (evC Try.prog) c70_2 k)) := by kernel_rfl
theorem c70_1_eq {β : Type} (h : Heap) (k : Ex → St → Option β) : codeK Try.prog (evC Try.prog) loopL c70_1 ⟨#[Aa,Ab,Ac,Ad,Ae,Af,Ag,Ah,Ai,Aj,Ak,Al,An,Ao,Ap,Aq,Ar,As], h⟩ k =
(binV Try.prog .lss 3 (.tmp 8) (.tmp 7) Ai Ah).bind fun t9_1 =>
cnd t9_1 (
(indexAddrV Try.prog 43 Ag Ai).bind fun t10_2 =>
(loadV Try.prog 3 t10_2 h).bind fun t11_3 =>
(binV Try.prog .neq 3 (.tmp 12) (.tmp 13) t11_3 Ad).bind fun t14_4 =>
cnd t14_4 (
k .ret ⟨#[Aa,Ab, t11_3,Ad,Ae, t11_3,Ag,Ah,Ai, t9_1, t10_2, t11_3, t11_3,Ad, t14_4, t11_3,Ar,As], h⟩) (
(binV Try.prog .add 3 (.tmp 8) (.const (Go.Value.int Go.IntKind.i64 1)) Ai (Go.Value.int Go.IntKind.i64 1)).bind fun t16_5 =>
k .normal ⟨#[Aa,Ab,Ac,Ad,Ae, t11_3,Ag,Ah, t16_5, t9_1, t10_2, t11_3, t11_3,Ad, t14_4,Aq, t16_5,As], h⟩)) (
k (.exit 0) ⟨#[Aa,Ab,Ac,Ad,Ae,Af,Ag,Ah,Ai, t9_1,Ak,Al,An,Ao,Ap,Aq,Ar,As], h⟩) := by kernel_rfl
theorem c70_2_eq {β : Type} (h : Heap) (k : Ex → St → Option β) : codeK Try.prog (evC Try.prog) loopL c70_2 ⟨#[Aa,Ab,Ac,Ad,Ae,Af,Ag,Ah,Ai,Aj,Ak,Al,An,Ao,Ap,Aq,Ar,As], h⟩ k =
k .ret ⟨#[Aa,Ab,Ad,Ad,Ae,Af,Ag,Ah,Ai,Aj,Ak,Al,An,Ao,Ap,Aq,Ar,Ad], h⟩ := by kernel_rfl
theorem call70 (h : Heap) : evC Try.prog 70 #[Aa] h = codeK Try.prog (evC Try.prog) loopL c70_0 ⟨#[Aa, undef, undef, undef, undef, undef, undef, undef, undef, undef, undef, undef, undef, undef, undef, undef, undef, undef], nm h⟩ (retK Try.f70 Try.prog h) :=
  (evC_call 70 Try.f70 c70_0 Try.func70 (by kernel_rfl) #[Aa] h).trans (by kernel_rfl)
theorem ret70 (h0 h : Heap) : retK Try.f70 Try.prog h0 .ret ⟨#[Aa,Ab,Ac,Ad,Ae,Af,Ag,Ah,Ai,Aj,Ak,Al,An,Ao,Ap,Aq,Ar,As], h⟩ = fin h0 (some Ac) h := by kernel_rfl
end Go.Am
namespace Go.Am
open Go.Proofs
set_option maxRecDepth 100000
variable (Aa Ab Ac Ad Ae Af Ag Ah Ai Aj Ak Al An Ao Ap Aq Ar : Value)
noncomputable def c48_0 : Code := bodyC Try.f48 []
theorem c48_0_eq {β : Type} (h : Heap) (k : Ex → St → Option β) : codeK Try.prog (evC Try.prog) loopL c48_0 ⟨#[Aa,Ab,Ac,Ad,Ae,Af,Ag,Ah,Ai,Aj,Ak,Al,An,Ao,Ap,Aq,Ar], h⟩ k =
obH (boxV Try.prog 57 Aa h) fun t2_0 h1 =>
obH (boxV Try.prog 57 Ab h1) fun t3_2 h3 =>
(fieldAddrV Try.prog 57 t2_0 0).bind fun t5_4 =>
(loadV Try.prog 3 t5_4 h3).bind fun t6_5 =>
(fieldAddrV Try.prog 57 t3_2 0).bind fun t7_6 =>
(loadV Try.prog 3 t7_6 h3).bind fun t8_7 =>
obH (evC Try.prog 71 #[t6_5, t8_7] (nm h3)) fun t9_8 h9 =>
(fieldAddrV Try.prog 57 t2_0 1).bind fun t10_10 =>
(loadV Try.prog 35 t10_10 (am h9 h3)).bind fun t11_11 =>
(fieldAddrV Try.prog 57 t3_2 1).bind fun t12_12 =>
(loadV Try.prog 35 t12_12 (am h9 h3)).bind fun t13_13 =>
obH (evC Try.prog 72 #[t11_11, t13_13] (am h9 h3)) fun t14_14 h15 =>
obH (buildSliceV Try.prog 43 2 #[(0, t9_8), (1, t14_14)] h15) fun t15_16 h17 =>
obH (evC Try.prog 70 #[t15_16] h17) fun t16_18 h19 =>
chk ((rb t12_12) ++ ((rb t10_10) ++ [])) (h9.mods ++ []) (
k .ret ⟨#[Aa,Ab, t2_0, t3_2, t16_18, t5_4, t6_5, t7_6, t8_7, t9_8, t10_10, t11_11, t12_12, t13_13, t14_14, t15_16, t16_18], h19⟩) := by kernel_rfl
theorem call48 (h : Heap) : evC Try.prog 48 #[Aa,Ab] h = codeK Try.prog (evC Try.prog) loopL c48_0 ⟨#[Aa,Ab, undef, undef, undef, undef, undef, undef, undef, undef, undef, undef, undef, undef, undef, undef, undef], nm h⟩ (retK Try.f48 Try.prog h) :=
  (evC_call 48 Try.f48 c48_0 Try.func48 (by kernel_rfl) #[Aa,Ab] h).trans (by kernel_rfl)
theorem ret48 (h0 h : Heap) : retK Try.f48 Try.prog h0 .ret ⟨#[Aa,Ab,Ac,Ad,Ae,Af,Ag,Ah,Ai,Aj,Ak,Al,An,Ao,Ap,Aq,Ar], h⟩ = fin h0 (some Ae) h := by kernel_rfl
end Go.Am
namespace Go.Am
open Go.Proofs
set_option maxRecDepth 100000
variable (Aa Ab Ac Ad Ae Af Ag Ah Ai Aj Ak : Value)
end Go.Am
namespace Go.Am
open Go.Proofs
set_option maxRecDepth 100000
variable (Aa Ab Ac Ad Ae Af Ag Ah Ai Aj Ak Al An Ao Ap Aq Ar As At Au Av Aw Ax : Value)
noncomputable def c68_0 : Code := bodyC Try.f68 []
noncomputable def c68_1 : Code := bodyC Try.f68 [true, true, false, false, false]
noncomputable def c68_2 : Code := bodyC Try.f68 [true, true, true]
theorem c68_0_eq {β : Type} (h : Heap) (k : Ex → St → Option β) : codeK Try.prog (evC Try.prog) loopL c68_0 ⟨#[Aa,Ab,Ac,Ad,Ae,Af,Ag,Ah,Ai,Aj,Ak,Al,An,Ao,Ap,Aq,Ar,As,At,Au,Av,Aw,Ax], h⟩ k =
obH (appendV Try.prog 33 (some 33) (Go.Value.slice Option.none 0 0) Aa h) fun t7_0 h1 =>
loopK Try.prog (evC Try.prog) c68_1 ⟨#[Aa,Ab,Ac,Ad, (Go.Value.slice Option.none 0 0), t7_0,Aa, t7_0,Ai,Aj,Ak,Al,An,Ao,Ap,Aq,Ar,As,At,Au,Av,Aw,Ax], h1⟩ (blockK 0 (seqK Try.prog (evC Try.prog) c68_2 k)) := by kernel_rfl
theorem c68_1_eq {β : Type} (h : Heap) (k : Ex → St → Option β) : codeK Try.prog (evC Try.prog) loopL c68_1 ⟨#[Aa,Ab,Ac,Ad,Ae,Af,Ag,Ah,Ai,Aj,Ak,Al,An,Ao,Ap,Aq,Ar,As,At,Au,Av,Aw,Ax], h⟩ k =
(binV Try.prog .geq 35 (.tmp 8) (.const (Go.Value.int Go.IntKind.u64 128)) Ab (Go.Value.int Go.IntKind.u64 128)).bind fun t9_2 =>
cnd t9_2 (
obH (convV Try.prog 35 5 Ab h) fun t12_3 h4 =>
(binV Try.prog .or 5 (.tmp 12) (.const (Go.Value.int Go.IntKind.u8 128)) t12_3 (Go.Value.int Go.IntKind.u8 128)).bind fun t13_5 =>
obH (buildSliceV Try.prog 33 1 #[(0, t13_5)] h4) fun t14_6 h7 =>
obH (appendV Try.prog 33 (some 33) Af t14_6 h7) fun t15_8 h9 =>
(binV Try.prog .shr 35 (.tmp 16) (.const (Go.Value.int Go.IntKind.u64 7)) Ab (Go.Value.int Go.IntKind.u64 7)).bind fun t17_10 =>
k .normal ⟨#[Aa, t17_10,Ac,Ad,Ae, t15_8,Ag,Ah,Ab, t9_2,Af,Ab, t12_3, t13_5, t14_6, t15_8,Ab, t17_10,At,Au,Av,Aw,Ax], h9⟩) (
k (.exit 0) ⟨#[Aa,Ab,Ac,Ad,Ae,Af,Ag,Ah,Ab, t9_2,Ak,Al,An,Ao,Ap,Aq,Ar,As,At,Au,Av,Aw,Ax], h⟩) := by kernel_rfl
theorem c68_2_eq {β : Type} (h : Heap) (k : Ex → St → Option β) : codeK Try.prog (evC Try.prog) loopL c68_2 ⟨#[Aa,Ab,Ac,Ad,Ae,Af,Ag,Ah,Ai,Aj,Ak,Al,An,Ao,Ap,Aq,Ar,As,At,Au,Av,Aw,Ax], h⟩ k =
obH (convV Try.prog 35 5 Ab h) fun t20_11 h12 =>
obH (buildSliceV Try.prog 33 1 #[(0, t20_11)] h12) fun t21_13 h14 =>
obH (appendV Try.prog 33 (some 33) Af t21_13 h14) fun t22_15 h16 =>
k .ret ⟨#[Aa,Ab,Ac,Ad, t22_15,Af,Ag,Ah,Ai,Aj,Ak,Al,An,Ao,Ap,Aq,Ar,As,Af,Ab, t20_11, t21_13, t22_15], h16⟩ := by kernel_rfl
theorem call68 (h : Heap) : evC Try.prog 68 #[Aa,Ab] h = codeK Try.prog (evC Try.prog) loopL c68_0 ⟨#[Aa,Ab, undef, undef, undef, undef, undef, undef, undef, undef, undef, undef, undef, undef, undef, undef, undef, undef, undef, undef, undef, undef, undef], nm h⟩ (retK Try.f68 Try.prog h) :=
  (evC_call 68 Try.f68 c68_0 Try.func68 (by kernel_rfl) #[Aa,Ab] h).trans (by kernel_rfl)
theorem ret68 (h0 h : Heap) : retK Try.f68 Try.prog h0 .ret ⟨#[Aa,Ab,Ac,Ad,Ae,Af,Ag,Ah,Ai,Aj,Ak,Al,An,Ao,Ap,Aq,Ar,As,At,Au,Av,Aw,Ax], h⟩ = fin h0 (some Ae) h := by kernel_rfl
end Go.Am
namespace Go.Am
open Go.Proofs
set_option maxRecDepth 100000
variable (Aa Ab Ac Ad Ae Af Ag Ah Ai Aj Ak Al An Ao Ap Aq Ar As At Au Av Aw Ax Ay Az Ba Bb Bc Bd Be Bf Bg Bh Bi Bj Bk Bl Bm Bn Bo Bp Bq : Value)
end Go.Am
namespace Go.Am
open Go.Proofs
set_option maxRecDepth 100000
variable (Aa Ab Ac Ad Ae Af Ag Ah : Value)
noncomputable def c69_0 : Code := bodyC Try.f69 []
theorem c69_0_eq {β : Type} (h : Heap) (k : Ex → St → Option β) : codeK Try.prog (evC Try.prog) loopL c69_0 ⟨#[Aa,Ab,Ac,Ad,Ae,Af,Ag,Ah], h⟩ k =
(binV Try.prog .eql 33 (.tmp 3) (.const (Go.Value.slice Option.none 0 0)) Aa (Go.Value.slice Option.none 0 0)).bind fun t4_0 =>
cnd t4_0 (
k .ret ⟨#[Aa,Ab, (Go.Value.slice Option.none 0 0),Aa, t4_0,Af,Ag,Ah], h⟩) (
obH (buildSliceV Try.prog 33 0 #[] h) fun t5_1 h2 =>
obH (appendV Try.prog 33 (some 33) t5_1 Aa h2) fun t7_3 h4 =>
k .ret ⟨#[Aa,Ab, t7_3,Aa, t4_0, t5_1,Aa, t7_3], h4⟩) := by kernel_rfl
theorem call69 (h : Heap) : evC Try.prog 69 #[Aa] h = codeK Try.prog (evC Try.prog) loopL c69_0 ⟨#[Aa, undef, undef, undef, undef, undef, undef, undef], nm h⟩ (retK Try.f69 Try.prog h) :=
  (evC_call 69 Try.f69 c69_0 Try.func69 (by kernel_rfl) #[Aa] h).trans (by kernel_rfl)
theorem ret69 (h0 h : Heap) : retK Try.f69 Try.prog h0 .ret ⟨#[Aa,Ab,Ac,Ad,Ae,Af,Ag,Ah], h⟩ = fin h0 (some Ac) h := by kernel_rfl
end Go.Am
namespace Go.Am
open Go.Proofs
set_option maxRecDepth 100000
variable (Aa Ab Ac : Value)
noncomputable def c44_0 : Code := bodyC Try.f44 []
theorem c44_0_eq {β : Type} (h : Heap) (k : Ex → St → Option β) : codeK Try.prog (evC Try.prog) loopL c44_0 ⟨#[Aa,Ab,Ac], h⟩ k =
(buildV Try.prog 126 #[]).bind fun t1_0 =>
obH (boxV Try.prog 126 t1_0 h) fun t2_1 h2 =>
k .ret ⟨#[t2_1, t1_0, t2_1], h2⟩ := by kernel_rfl
theorem call44 (h : Heap) : evC Try.prog 44 #[] h = codeK Try.prog (evC Try.prog) loopL c44_0 ⟨#[undef, undef, undef], nm h⟩ (retK Try.f44 Try.prog h) :=
  (evC_call 44 Try.f44 c44_0 Try.func44 (by kernel_rfl) #[] h).trans (by kernel_rfl)
theorem ret44 (h0 h : Heap) : retK Try.f44 Try.prog h0 .ret ⟨#[Aa,Ab,Ac], h⟩ = fin h0 (some Aa) h := by kernel_rfl
end Go.Am
namespace Go.Am
open Go.Proofs
set_option maxRecDepth 100000
variable (Aa Ab Ac Ad Ae Af Ag Ah Ai Aj Ak Al An : Value)
noncomputable def c45_0 : Code := bodyC Try.f45 []
theorem c45_0_eq {β : Type} (h : Heap) (k : Ex → St → Option β) : codeK Try.prog (evC Try.prog) loopL c45_0 ⟨#[Aa,Ab,Ac,Ad,Ae,Af,Ag,Ah,Ai,Aj,Ak,Al,An], h⟩ k =
(nilCheckV Try.prog Aa).bind fun t6_0 =>
(fieldAddrV Try.prog 126 t6_0 0).bind fun t7_1 =>
(loadV Try.prog 33 t7_1 h).bind fun t8_2 =>
obH (evC Try.prog 68 #[t8_2,Ab] h) fun t10_3 h4 =>
(nilCheckV Try.prog Aa).bind fun t11_5 =>
(fieldAddrV Try.prog 126 t11_5 0).bind fun t12_6 =>
(storeV Try.prog 33 t12_6 t10_3 h4).bind fun h7 =>
k .normal ⟨#[Aa,Ab,Ac,Ad,Aa,Aa, t6_0, t7_1, t8_2,Ab, t10_3, t11_5, t12_6], h7⟩ := by kernel_rfl
theorem call45 (h : Heap) : evC Try.prog 45 #[Aa,Ab] h = codeK Try.prog (evC Try.prog) loopL c45_0 ⟨#[Aa,Ab, undef, undef, undef, undef, undef, undef, undef, undef, undef, undef, undef], nm h⟩ (retK Try.f45 Try.prog h) :=
  (evC_call 45 Try.f45 c45_0 Try.func45 (by kernel_rfl) #[Aa,Ab] h).trans (by kernel_rfl)
theorem retn45 (h0 h : Heap) : retK Try.f45 Try.prog h0 .normal ⟨#[Aa,Ab,Ac,Ad,Ae,Af,Ag,Ah,Ai,Aj,Ak,Al,An], h⟩ = fin h0 (some (.tuple #[])) h := by kernel_rfl
end Go.Am
namespace Go.Am
open Go.Proofs
set_option maxRecDepth 100000
variable (Aa Ab Ac Ad Ae Af Ag Ah : Value)
noncomputable def c46_0 : Code := bodyC Try.f46 []
theorem c46_0_eq {β : Type} (h : Heap) (k : Ex → St → Option β) : codeK Try.prog (evC Try.prog) loopL c46_0 ⟨#[Aa,Ab,Ac,Ad,Ae,Af,Ag,Ah], h⟩ k =
(nilCheckV Try.prog Aa).bind fun t4_0 =>
(fieldAddrV Try.prog 126 t4_0 0).bind fun t5_1 =>
(loadV Try.prog 33 t5_1 h).bind fun t6_2 =>
obH (evC Try.prog 69 #[t6_2] h) fun t7_3 h4 =>
k .ret ⟨#[Aa,Ab, t7_3,Aa, t4_0, t5_1, t6_2, t7_3], h4⟩ := by kernel_rfl
theorem call46 (h : Heap) : evC Try.prog 46 #[Aa] h = codeK Try.prog (evC Try.prog) loopL c46_0 ⟨#[Aa, undef, undef, undef, undef, undef, undef, undef], nm h⟩ (retK Try.f46 Try.prog h) :=
  (evC_call 46 Try.f46 c46_0 Try.func46 (by kernel_rfl) #[Aa] h).trans (by kernel_rfl)
theorem ret46 (h0 h : Heap) : retK Try.f46 Try.prog h0 .ret ⟨#[Aa,Ab,Ac,Ad,Ae,Af,Ag,Ah], h⟩ = fin h0 (some Ac) h := by kernel_rfl
end Go.Am
namespace Go.Am
open Go.Proofs
set_option maxRecDepth 100000
variable (Aa Ab Ac Ad Ae Af Ag : Value)
end Go.Am
namespace Go.Am
open Go.Proofs
set_option maxRecDepth 100000
variable (Aa Ab Ac Ad Ae Af Ag Ah Ai Aj Ak Al An Ao Ap Aq Ar As At Au Av Aw Ax Ay Az Ba Bb Bc Bd Be Bf Bg Bh Bi : Value)
end Go.Am
namespace Go.Am
open Go.Proofs
set_option maxRecDepth 100000
variable (Aa Ab Ac Ad Ae Af Ag Ah Ai Aj Ak Al An Ao Ap Aq : Value)
end Go.Am
namespace Go.Am
open Go.Proofs
set_option maxRecDepth 100000
variable (Aa Ab Ac Ad Ae Af Ag Ah Ai Aj Ak Al An Ao Ap Aq : Value)
end Go.Am
namespace Go.Am
open Go.Proofs
set_option maxRecDepth 100000
variable (Aa Ab Ac Ad Ae Af Ag Ah Ai Aj Ak Al An Ao Ap Aq Ar As At Au Av Aw Ax Ay : Value)
noncomputable def c83_0 : Code := bodyC Try.f83 []
noncomputable def c83_1 : Code := bodyC Try.f83 [true, true, false, false, false]
noncomputable def c83_2 : Code := bodyC Try.f83 [true, true, true]
theorem c83_0_eq {β : Type} (h : Heap) (k : Ex → St → Option β) : codeK Try.prog (evC Try.prog) loopL c83_0 ⟨#[Aa,Ab,Ac,Ad,Ae,Af,Ag,Ah,Ai,Aj,Ak,Al,An,Ao,Ap,Aq,Ar,As,At,Au,Av,Aw,Ax,Ay], h⟩ k =
obH (buildSliceV Try.prog 33 0 #[] h) fun t5_0 h1 =>
obH (appendV Try.prog 33 (some 33) t5_0 Aa h1) fun t7_2 h3 =>
loopK Try.prog (evC Try.prog) c83_1 ⟨#[t7_2,Ab,Ac,Ad, (Go.Value.slice Option.none 0 0), t5_0,Aa, t7_2,Ai,Aj,Ak,Al,An,Ao,Ap,Aq,Ar,As,At,Au,Av,Aw,Ax,Ay], h3⟩ (blockK 0 (seqK Try.prog (evC Try.prog) c83_2 k)) := by kernel_rfl
theorem c83_1_eq {β : Type} (h : Heap) (k : Ex → St → Option β) : codeK Try.prog (evC Try.prog) loopL c83_1 ⟨#[Aa,Ab,Ac,Ad,Ae,Af,Ag,Ah,Ai,Aj,Ak,Al,An,Ao,Ap,Aq,Ar,As,At,Au,Av,Aw,Ax,Ay], h⟩ k =
(binV Try.prog .geq 35 (.tmp 8) (.const (Go.Value.int Go.IntKind.u64 128)) Ab (Go.Value.int Go.IntKind.u64 128)).bind fun t9_4 =>
cnd t9_4 (
(binV Try.prog .rem 35 (.tmp 11) (.const (Go.Value.int Go.IntKind.u64 128)) Ab (Go.Value.int Go.IntKind.u64 128)).bind fun t12_5 =>
obH (convV Try.prog 35 5 t12_5 h) fun t13_6 h7 =>
(binV Try.prog .add 5 (.tmp 13) (.const (Go.Value.int Go.IntKind.u8 128)) t13_6 (Go.Value.int Go.IntKind.u8 128)).bind fun t14_8 =>
obH (buildSliceV Try.prog 33 1 #[(0, t14_8)] h7) fun t15_9 h10 =>
obH (appendV Try.prog 33 (some 33) Aa t15_9 h10) fun t16_11 h12 =>
(binV Try.prog .quo 35 (.tmp 17) (.const (Go.Value.int Go.IntKind.u64 128)) Ab (Go.Value.int Go.IntKind.u64 128)).bind fun t18_13 =>
k .normal ⟨#[t16_11, t18_13,Ac,Ad,Ae,Af,Ag,Ah,Ab, t9_4,Aa,Ab, t12_5, t13_6, t14_8, t15_9, t16_11,Ab, t18_13,Au,Av,Aw,Ax,Ay], h12⟩) (
k (.exit 0) ⟨#[Aa,Ab,Ac,Ad,Ae,Af,Ag,Ah,Ab, t9_4,Ak,Al,An,Ao,Ap,Aq,Ar,As,At,Au,Av,Aw,Ax,Ay], h⟩) := by kernel_rfl
theorem c83_2_eq {β : Type} (h : Heap) (k : Ex → St → Option β) : codeK Try.prog (evC Try.prog) loopL c83_2 ⟨#[Aa,Ab,Ac,Ad,Ae,Af,Ag,Ah,Ai,Aj,Ak,Al,An,Ao,Ap,Aq,Ar,As,At,Au,Av,Aw,Ax,Ay], h⟩ k =
obH (convV Try.prog 35 5 Ab h) fun t21_14 h15 =>
obH (buildSliceV Try.prog 33 1 #[(0, t21_14)] h15) fun t22_16 h17 =>
obH (appendV Try.prog 33 (some 33) Aa t22_16 h17) fun t23_18 h19 =>
k .ret ⟨#[Aa,Ab,Ac,Ad, t23_18,Af,Ag,Ah,Ai,Aj,Ak,Al,An,Ao,Ap,Aq,Ar,As,At,Aa,Ab, t21_14, t22_16, t23_18], h19⟩ := by kernel_rfl
theorem call83 (h : Heap) : evC Try.prog 83 #[Aa,Ab] h = codeK Try.prog (evC Try.prog) loopL c83_0 ⟨#[Aa,Ab, undef, undef, undef, undef, undef, undef, undef, undef, undef, undef, undef, undef, undef, undef, undef, undef, undef, undef, undef, undef, undef, undef], nm h⟩ (retK Try.f83 Try.prog h) :=
  (evC_call 83 Try.f83 c83_0 Try.func83 (by kernel_rfl) #[Aa,Ab] h).trans (by kernel_rfl)
theorem ret83 (h0 h : Heap) : retK Try.f83 Try.prog h0 .ret ⟨#[Aa,Ab,Ac,Ad,Ae,Af,Ag,Ah,Ai,Aj,Ak,Al,An,Ao,Ap,Aq,Ar,As,At,Au,Av,Aw,Ax,Ay], h⟩ = fin h0 (some Ae) h := by kernel_rfl
end Go.Am
namespace Go.Am
open Go.Proofs
set_option maxRecDepth 100000
variable (Aa Ab Ac Ad Ae Af Ag Ah Ai Aj Ak Al An Ao Ap Aq Ar As At Au Av Aw Ax Ay Az Ba Bb Bc Bd Be Bf Bg Bh Bi Bj Bk Bl Bm Bn Bo Bp Bq Br Bs Bt Bu Bv : Value)
end Go.Am
namespace Go.Am
open Go.Proofs
set_option maxRecDepth 100000
variable (Aa Ab Ac Ad Ae Af Ag Ah Ai Aj Ak Al An : Value)
noncomputable def c65_0 : Code := bodyC Try.f65 []
theorem c65_0_eq {β : Type} (h : Heap) (k : Ex → St → Option β) : codeK Try.prog (evC Try.prog) loopL c65_0 ⟨#[Aa,Ab,Ac,Ad,Ae,Af,Ag,Ah,Ai,Aj,Ak,Al,An], h⟩ k =
(nilCheckV Try.prog Aa).bind fun t6_0 =>
(fieldAddrV Try.prog 118 t6_0 0).bind fun t7_1 =>
(loadV Try.prog 33 t7_1 h).bind fun t8_2 =>
obH (evC Try.prog 83 #[t8_2,Ab] h) fun t10_3 h4 =>
(nilCheckV Try.prog Aa).bind fun t11_5 =>
(fieldAddrV Try.prog 118 t11_5 0).bind fun t12_6 =>
(storeV Try.prog 33 t12_6 t10_3 h4).bind fun h7 =>
k .normal ⟨#[Aa,Ab,Ac,Ad,Aa,Aa, t6_0, t7_1, t8_2,Ab, t10_3, t11_5, t12_6], h7⟩ := by kernel_rfl
theorem call65 (h : Heap) : evC Try.prog 65 #[Aa,Ab] h = codeK Try.prog (evC Try.prog) loopL c65_0 ⟨#[Aa,Ab, undef, undef, undef, undef, undef, undef, undef, undef, undef, undef, undef], nm h⟩ (retK Try.f65 Try.prog h) :=
  (evC_call 65 Try.f65 c65_0 Try.func65 (by kernel_rfl) #[Aa,Ab] h).trans (by kernel_rfl)
theorem retn65 (h0 h : Heap) : retK Try.f65 Try.prog h0 .normal ⟨#[Aa,Ab,Ac,Ad,Ae,Af,Ag,Ah,Ai,Aj,Ak,Al,An], h⟩ = fin h0 (some (.tuple #[])) h := by kernel_rfl
end Go.Am
namespace Go.Am
open Go.Proofs
set_option maxRecDepth 100000
variable (Aa Ab Ac Ad Ae Af Ag Ah Ai Aj Ak Al An Ao Ap Aq Ar As At Au Av Aw Ax Ay Az Ba Bb Bc Bd Be Bf Bg Bh Bi Bj Bk Bl Bm Bn Bo : Value)
end Go.Am
namespace Go.Am
open Go.Proofs
set_option maxRecDepth 100000
variable (Aa Ab Ac Ad Ae Af Ag Ah Ai Aj Ak Al An Ao Ap Aq : Value)
end Go.Am
namespace Go.Am
open Go.Proofs
set_option maxRecDepth 100000
variable (Aa Ab Ac Ad Ae Af Ag Ah : Value)
end Go.Am
namespace Go.Am
open Go.Proofs
set_option maxRecDepth 100000
variable (Aa Ab Ac Ad Ae Af Ag Ah Ai Aj Ak Al An Ao Ap Aq Ar As At Au Av Aw Ax Ay Az Ba Bb Bc Bd Be Bf Bg Bh Bi Bj : Value)
end Go.Am
namespace Go.Am
open Go.Proofs
set_option maxRecDepth 100000
variable (Aa Ab Ac Ad Ae Af Ag : Value)
noncomputable def c60_0 : Code := bodyC Try.f60 []
theorem c60_0_eq {β : Type} (h : Heap) (k : Ex → St → Option β) : codeK Try.prog (evC Try.prog) loopL c60_0 ⟨#[Aa,Ab,Ac,Ad,Ae,Af,Ag], h⟩ k =
obH (evC Try.prog 45 #[Aa,Ab] h) fun t6_0 h1 =>
k .normal ⟨#[Aa,Ab,Ac,Ad,Aa,Ab, t6_0], h1⟩ := by kernel_rfl
theorem call60 (h : Heap) : evC Try.prog 60 #[Aa,Ab] h = codeK Try.prog (evC Try.prog) loopL c60_0 ⟨#[Aa,Ab, undef, undef, undef, undef, undef], nm h⟩ (retK Try.f60 Try.prog h) :=
  (evC_call 60 Try.f60 c60_0 Try.func60 (by kernel_rfl) #[Aa,Ab] h).trans (by kernel_rfl)
theorem retn60 (h0 h : Heap) : retK Try.f60 Try.prog h0 .normal ⟨#[Aa,Ab,Ac,Ad,Ae,Af,Ag], h⟩ = fin h0 (some (.tuple #[])) h := by kernel_rfl
end Go.Am
namespace Go.Am
open Go.Proofs
set_option maxRecDepth 100000
variable (Aa Ab Ac Ad Ae Af Ag Ah Ai : Value)
noncomputable def c28_0 : Code := bodyC Try.f28 []
theorem c28_0_eq {β : Type} (h : Heap) (k : Ex → St → Option β) : codeK Try.prog (evC Try.prog) loopL c28_0 ⟨#[Aa,Ab,Ac,Ad,Ae,Af,Ag,Ah,Ai], h⟩ k =
(binV Try.prog .andNot 55 (.tmp 5) (.tmp 6) Aa Ab).bind fun t7_0 =>
(binV Try.prog .eql 55 (.tmp 7) (.const (Go.Value.int Go.IntKind.u64 0)) t7_0 (Go.Value.int Go.IntKind.u64 0)).bind fun t8_1 =>
k .ret ⟨#[Aa,Ab,Ac,Ad, t8_1,Aa,Ab, t7_0, t8_1], h⟩ := by kernel_rfl
theorem call28 (h : Heap) : evC Try.prog 28 #[Aa,Ab] h = codeK Try.prog (evC Try.prog) loopL c28_0 ⟨#[Aa,Ab, undef, undef, undef, undef, undef, undef, undef], nm h⟩ (retK Try.f28 Try.prog h) :=
  (evC_call 28 Try.f28 c28_0 Try.func28 (by kernel_rfl) #[Aa,Ab] h).trans (by kernel_rfl)
theorem ret28 (h0 h : Heap) : retK Try.f28 Try.prog h0 .ret ⟨#[Aa,Ab,Ac,Ad,Ae,Af,Ag,Ah,Ai], h⟩ = fin h0 (some Ae) h := by kernel_rfl
end Go.Am
namespace Go.Am
open Go.Proofs
set_option maxRecDepth 100000
variable (Aa Ab Ac Ad Ae Af Ag Ah Ai : Value)
noncomputable def c56_0 : Code := bodyC Try.f56 []
theorem c56_0_eq {β : Type} (h : Heap) (k : Ex → St → Option β) : codeK Try.prog (evC Try.prog) loopL c56_0 ⟨#[Aa,Ab,Ac,Ad,Ae,Af,Ag,Ah,Ai], h⟩ k =
obH (builtinV Try.prog .max #[3, 3] #[Aa, (Go.Value.int Go.IntKind.i64 0)] h) fun t4_0 h1 =>
obH (builtinV Try.prog .min #[3, 3] #[t4_0, (Go.Value.int Go.IntKind.i64 64)] h1) fun t5_2 h3 =>
(binV Try.prog .shl 55 (.const (Go.Value.int Go.IntKind.u64 1)) (.tmp 6) (Go.Value.int Go.IntKind.u64 1) t5_2).bind fun t7_4 =>
(binV Try.prog .sub 55 (.tmp 7) (.const (Go.Value.int Go.IntKind.u64 1)) t7_4 (Go.Value.int Go.IntKind.u64 1)).bind fun t8_5 =>
k .ret ⟨#[t5_2,Ab, t8_5,Aa, t4_0, t5_2, t5_2, t7_4, t8_5], h3⟩ := by kernel_rfl
theorem call56 (h : Heap) : evC Try.prog 56 #[Aa] h = codeK Try.prog (evC Try.prog) loopL c56_0 ⟨#[Aa, undef, undef, undef, undef, undef, undef, undef, undef], nm h⟩ (retK Try.f56 Try.prog h) :=
  (evC_call 56 Try.f56 c56_0 Try.func56 (by kernel_rfl) #[Aa] h).trans (by kernel_rfl)
theorem ret56 (h0 h : Heap) : retK Try.f56 Try.prog h0 .ret ⟨#[Aa,Ab,Ac,Ad,Ae,Af,Ag,Ah,Ai], h⟩ = fin h0 (some Ac) h := by kernel_rfl
end Go.Am
namespace Go.Am
open Go.Proofs
set_option maxRecDepth 100000
variable (Aa Ab Ac Ad Ae Af Ag Ah Ai Aj Ak Al An Ao Ap Aq Ar As : Value)
end Go.Am
namespace Go.Am
open Go.Proofs
set_option maxRecDepth 100000
variable {β : Type} (x : Nat → Value) (h : Heap) (k : Ex → St → Option β) (r m : List Nat) (g : Heap)
noncomputable def c47_0 : Code := bodyC Try.f47 []
noncomputable def c47_1 : Code := bodyC Try.f47 [false]
noncomputable def c47_2 : Code := bodyC Try.f47 [true]
noncomputable def d47_0 : Array Oper := opsC (bodyC Try.f47 [true, false])
noncomputable def c47_3 : Code := bodyC Try.f47 [true, false]
noncomputable def c47_4 : Code := bodyC Try.f47 [true, true]
theorem c47_0_eq : cK c47_0 22 x h k =
cK c47_1 22 x h (sK c47_2 k) := codeK_seq _ _ _ _ _ (by kernel_rfl) _ _
theorem c47_1_eq : cK c47_1 22 x h k =
obH (boxV Try.prog 57 (x 0) h) fun v0 h1 =>
k .normal ⟨ar 22 (up x [(1,v0),(2,(.bool false))]), h1⟩ := by kernel_rfl
theorem c47_2_eq : cK c47_2 22 x h k =
cK c47_3 22 x h (sK c47_4 k) := codeK_seq _ _ _ _ _ (by kernel_rfl) _ _
theorem d47_0_0 (k : St → Option β) : rD d47_0 0 22 x h r m k =
(fa 57 (x 1) 0).bind fun v2 =>
rD d47_0 1 22 (up x [(3,v2)]) h r m k := (regD_step _ _ d47_0 0 (by kernel_rfl) _ _ _ _).trans (by kernel_rfl)
theorem d47_0_1 (k : St → Option β) : rD d47_0 1 22 x h r m k =
(ld 3 (x 3) h).bind fun v3 =>
rD d47_0 2 22 (up x [(4,v3)]) h r m k := (regD_step _ _ d47_0 1 (by kernel_rfl) _ _ _ _).trans (by kernel_rfl)
theorem d47_0_2 (k : St → Option β) : rD d47_0 2 22 x h r m k =
(bn .geq 3 (x 4) (.int .i64 0)).bind fun v4 =>
rD d47_0 3 22 (up x [(5,v4)]) h r m k := (regD_step _ _ d47_0 2 (by kernel_rfl) _ _ _ _).trans (by kernel_rfl)
theorem d47_0_3 (k : St → Option β) : rD d47_0 3 22 x h r m k =
rD d47_0 4 22 (up x [(6,(x 5))]) h r m k := regD_move _ _ d47_0 3 (by kernel_rfl) (by kernel_rfl) (by kernel_rfl) _ _ _ _ _ _ (by kernel_rfl) (by kernel_rfl)
theorem d47_0_4 (k : St → Option β) : rD d47_0 4 22 x h r m k =
(gd (wt (x 6) true) (fa 57 (x 1) 0)).bind fun v5 =>
rD d47_0 5 22 (up x [(7,v5)]) h r m k := (regD_step _ _ d47_0 4 (by kernel_rfl) _ _ _ _).trans (by kernel_rfl)
theorem d47_0_5 (k : St → Option β) : rD d47_0 5 22 x h r m k =
(gd (wt (x 6) true) (ld 3 (x 7) h)).bind fun v6 =>
rD d47_0 6 22 (up x [(8,v6)]) h r m k := (regD_step _ _ d47_0 5 (by kernel_rfl) _ _ _ _).trans (by kernel_rfl)
theorem d47_0_6 (k : St → Option β) : rD d47_0 6 22 x h r m k =
(gd (wt (x 6) true) (bn .lss 3 (x 8) (.int .i64 16))).bind fun v7 =>
rD d47_0 7 22 (up x [(9,v7)]) h r m k := (regD_step _ _ d47_0 6 (by kernel_rfl) _ _ _ _).trans (by kernel_rfl)
theorem d47_0_7 (k : St → Option β) : rD d47_0 7 22 x h r m k =
(pickV (x 6) (x 9) (.bool false)).bind fun v8 =>
rD d47_0 8 22 (up x [(10,v8)]) h r m k := (regD_step _ _ d47_0 7 (by kernel_rfl) _ _ _ _).trans (by kernel_rfl)
theorem d47_0_8 (k : St → Option β) : rD d47_0 8 22 x h r m k =
rD d47_0 9 22 (up x [(11,(x 10))]) h r m k := regD_move _ _ d47_0 8 (by kernel_rfl) (by kernel_rfl) (by kernel_rfl) _ _ _ _ _ _ (by kernel_rfl) (by kernel_rfl)
theorem d47_0_9 (k : St → Option β) : rD d47_0 9 22 x h r m k =
(gd (wt (x 11) true) (fa 57 (x 1) 1)).bind fun v9 =>
rD d47_0 10 22 (up x [(12,v9)]) h r m k := (regD_step _ _ d47_0 9 (by kernel_rfl) _ _ _ _).trans (by kernel_rfl)
theorem d47_0_10 (k : St → Option β) : rD d47_0 10 22 x h r m k =
(gd (wt (x 11) true) (ld 35 (x 12) h)).bind fun v10 =>
rD d47_0 11 22 (up x [(13,v10)]) h r m k := (regD_step _ _ d47_0 10 (by kernel_rfl) _ _ _ _).trans (by kernel_rfl)
theorem d47_0_11 (k : St → Option β) : rD d47_0 11 22 x h r m k =
(gd (wt (x 11) true) (bn .gtr 35 (x 13) (.int .u64 0))).bind fun v11 =>
rD d47_0 12 22 (up x [(14,v11)]) h r m k := (regD_step _ _ d47_0 11 (by kernel_rfl) _ _ _ _).trans (by kernel_rfl)
theorem d47_0_12 (k : St → Option β) : rD d47_0 12 22 x h r m k =
(pickV (x 11) (x 14) (.bool false)).bind fun v12 =>
rD d47_0 13 22 (up x [(15,v12)]) h r m k := (regD_step _ _ d47_0 12 (by kernel_rfl) _ _ _ _).trans (by kernel_rfl)
theorem d47_0_13 (k : St → Option β) : rD d47_0 13 22 x h r m k =
rD d47_0 14 22 (up x [(16,(x 15))]) h r m k := regD_move _ _ d47_0 13 (by kernel_rfl) (by kernel_rfl) (by kernel_rfl) _ _ _ _ _ _ (by kernel_rfl) (by kernel_rfl)
theorem d47_0_14 (k : St → Option β) : rD d47_0 14 22 x h r m k =
(gd (wt (x 16) true) (fa 57 (x 1) 2)).bind fun v13 =>
rD d47_0 15 22 (up x [(17,v13)]) h r m k := (regD_step _ _ d47_0 14 (by kernel_rfl) _ _ _ _).trans (by kernel_rfl)
theorem d47_0_15 (k : St → Option β) : rD d47_0 15 22 x h r m k =
(gd (wt (x 16) true) (ld 55 (x 17) h)).bind fun v14 =>
rD d47_0 16 22 (up x [(18,v14)]) h (rdL (wt (x 16) true) (rb (x 17)) ++ r) m k := (regD_step _ _ d47_0 15 (by kernel_rfl) _ _ _ _).trans (by kernel_rfl)
theorem d47_0_16 (k : St → Option β) : rD d47_0 16 22 x h r m k =
obH (gdH (wt (x 16) true) (nm h) (ev 56 #[(.int .i64 16)] (nm h))) fun v15 h16 =>
rD d47_0 17 22 (up x [(19,v15)]) (am h16 h) r (h16.mods ++ m) k := (regD_step _ _ d47_0 16 (by kernel_rfl) _ _ _ _).trans (by kernel_rfl)
theorem d47_0_17 (k : St → Option β) : rD d47_0 17 22 x h r m k =
obH (gdH (wt (x 16) true) h (ev 28 #[x 18,x 19] h)) fun v17 h18 =>
rD d47_0 18 22 (up x [(20,v17)]) h18 r m k := (regD_step _ _ d47_0 17 (by kernel_rfl) _ _ _ _).trans (by kernel_rfl)
theorem d47_0_18 (k : St → Option β) : rD d47_0 18 22 x h r m k =
(pickV (x 16) (x 20) (.bool false)).bind fun v19 =>
rD d47_0 19 22 (up x [(21,v19)]) h r m k := (regD_step _ _ d47_0 18 (by kernel_rfl) _ _ _ _).trans (by kernel_rfl)
theorem d47_0_19 (k : St → Option β) : rD d47_0 19 22 x h r m k =
rD d47_0 20 22 (up x [(2,(x 21))]) h r m k := regD_move _ _ d47_0 19 (by kernel_rfl) (by kernel_rfl) (by kernel_rfl) _ _ _ _ _ _ (by kernel_rfl) (by kernel_rfl)
theorem d47_0_20 (k : St → Option β) : rD d47_0 20 22 x h r m k =
chk r m (k ⟨ar 22 x, h⟩) := by kernel_rfl
theorem c47_3_eq : cK c47_3 22 x h k =
rD d47_0 0 22 x h [] [] (fun s => k .normal s) := by kernel_rfl
theorem c47_4_eq : cK c47_4 22 x h k =
k .ret ⟨ar 22 x, h⟩ := by kernel_rfl
theorem call47 (a0 : Value) : evC Try.prog 47 #[a0] h = cK c47_0 22 (up un [(0,a0)]) (nm h) (retK Try.f47 Try.prog h) :=
  (evC_call 47 Try.f47 c47_0 Try.func47 (by kernel_rfl) #[a0] h).trans (by kernel_rfl)
theorem ret47 : retK Try.f47 Try.prog g .ret ⟨ar 22 x, h⟩ = fin g (some (x 2)) h := by kernel_rfl
end Go.Am
namespace Go.Am
open Go.Proofs
set_option maxRecDepth 100000
variable {β : Type} (x : Nat → Value) (h : Heap) (k : Ex → St → Option β) (r m : List Nat) (g : Heap)
noncomputable def c19_0 : Code := bodyC Try.f19 []
noncomputable def c19_1 : Code := bodyC Try.f19 [true, false, true, false, false]
noncomputable def c19_2 : Code := bodyC Try.f19 [true, true]
theorem c19_0_eq : cK c19_0 32 x h k =
obH (boxV Try.prog 47 (x 0) h) fun v0 h1 =>
(fa 47 v0 0).bind fun v2 =>
(ld 45 v2 h1).bind fun v3 =>
(ln 45 v3 h1).bind fun v4 =>
lK c19_1 32 (up x [(1,v0),(2,(.bool false)),(5,v2),(6,v3),(7,v4),(8,(.int .i64 0))]) h1 (blockK 0 (sK c19_2 k)) := by kernel_rfl
theorem c19_1_eq : cK c19_1 32 x h k =
(bn .lss 3 (x 8) (x 7)).bind fun v5 =>
cnd v5 (
(ia 45 (x 6) (x 8)).bind fun v6 =>
(ld 57 v6 h).bind fun v7 =>
obH (allocV Try.prog 57 h) fun v8 h9 =>
(sto 57 v8 v7 h9).bind fun h10 =>
(ld 57 v8 h10).bind fun v11 =>
obH (ev 47 #[v11] h10) fun v12 h13 =>
(unV Try.prog .not v12).bind fun v14 =>
(gd (wt v14 false) (bn .gtr 3 (gdV (wt v14 false) (x 8)) (.int .i64 0))).bind fun v15 =>
(gd (wt (gdV (wt v14 false) v15) true) (fa 47 (x 1) 0)).bind fun v16 =>
(gd (wt (gdV (wt v14 false) v15) true) (ld 45 v16 h13)).bind fun v17 =>
(gd (wt (gdV (wt v14 false) v15) true) (bn .sub 3 (gdV (wt (gdV (wt v14 false) v15) true) (x 8)) (.int .i64 1))).bind fun v18 =>
(gd (wt (gdV (wt v14 false) v15) true) (ia 45 v17 v18)).bind fun v19 =>
(gd (wt (gdV (wt v14 false) v15) true) (ld 57 v19 h13)).bind fun v20 =>
(gd (wt (gdV (wt v14 false) v15) true) (ld 57 v8 h13)).bind fun v21 =>
obH (gdH (wt (gdV (wt v14 false) v15) true) h13 (ev 48 #[v20,v21] h13)) fun v22 h23 =>
(gd (wt (gdV (wt v14 false) v15) true) (bn .geq 3 v22 (.int .i64 0))).bind fun v24 =>
(gd (wt v14 false) (pickV (gdV (wt v14 false) v15) v24 (.bool false))).bind fun v25 =>
(pickV v14 (.bool true) v25).bind fun v26 =>
cnd v26 (
k .ret ⟨ar 32 (up x [(2,(.bool false)),(3,(x 8)),(4,v8),(9,v5),(10,(x 8)),(11,v6),(12,v7),(13,v11),(14,v12),(15,v14),(16,v14),(17,(gdV (wt v14 false) (x 8))),(18,v15),(19,(gdV (wt v14 false) v15)),(20,v16),(21,v17),(22,(gdV (wt (gdV (wt v14 false) v15) true) (x 8))),(23,v18),(24,v19),(25,v20),(26,v21),(27,v22),(28,v24),(29,v25),(30,v26)]), h23⟩) (
(bn .add 3 (x 8) (.int .i64 1)).bind fun v27 =>
k .normal ⟨ar 32 (up x [(3,(x 8)),(4,v8),(8,v27),(9,v5),(10,(x 8)),(11,v6),(12,v7),(13,v11),(14,v12),(15,v14),(16,v14),(17,(gdV (wt v14 false) (x 8))),(18,v15),(19,(gdV (wt v14 false) v15)),(20,v16),(21,v17),(22,(gdV (wt (gdV (wt v14 false) v15) true) (x 8))),(23,v18),(24,v19),(25,v20),(26,v21),(27,v22),(28,v24),(29,v25),(30,v26),(31,v27)]), h23⟩)) (
k (.exit 0) ⟨ar 32 (up x [(9,v5)]), h⟩) := by kernel_rfl
theorem c19_2_eq : cK c19_2 32 x h k =
k .ret ⟨ar 32 (up x [(2,(.bool true))]), h⟩ := by kernel_rfl
theorem call19 (a0 : Value) : evC Try.prog 19 #[a0] h = cK c19_0 32 (up un [(0,a0)]) (nm h) (retK Try.f19 Try.prog h) :=
  (evC_call 19 Try.f19 c19_0 Try.func19 (by kernel_rfl) #[a0] h).trans (by kernel_rfl)
theorem ret19 : retK Try.f19 Try.prog g .ret ⟨ar 32 x, h⟩ = fin g (some (x 2)) h := by kernel_rfl
end Go.Am
namespace Go.Am
open Go.Proofs
set_option maxRecDepth 100000
variable {β : Type} (x : Nat → Value) (h : Heap) (k : Ex → St → Option β) (r m : List Nat) (g : Heap)
noncomputable def c49_0 : Code := bodyC Try.f49 []
theorem c49_0_eq : cK c49_0 7 x h k =
obH (boxV Try.prog 47 (x 0) h) fun v0 h1 =>
obH (allocV Try.prog 47 h1) fun v2 h3 =>
(fa 47 v0 0).bind fun v4 =>
(ld 45 v4 h3).bind fun v5 =>
obH (ev 73 #[v5] h3) fun v6 h7 =>
(buildV Try.prog 47 #[(0, v6)]).bind fun v8 =>
(sto 47 v2 v8 h7).bind fun h9 =>
k .ret ⟨ar 7 (up x [(1,v0),(2,v2),(3,v4),(4,v5),(5,v6),(6,v8)]), h9⟩ := by kernel_rfl
theorem call49 (a0 : Value) : evC Try.prog 49 #[a0] h = cK c49_0 7 (up un [(0,a0)]) (nm h) (retK Try.f49 Try.prog h) :=
  (evC_call 49 Try.f49 c49_0 Try.func49 (by kernel_rfl) #[a0] h).trans (by kernel_rfl)
theorem ret49 : retK Try.f49 Try.prog g .ret ⟨ar 7 x, h⟩ = fin g (rvals ((ld 47 (x 2) h).bind fun r0 => some [r0])) h := by kernel_rfl
end Go.Am
namespace Go.Am
open Go.Proofs
set_option maxRecDepth 100000
variable {β : Type} (x : Nat → Value) (h : Heap) (k : Ex → St → Option β) (r m : List Nat) (g : Heap)
noncomputable def c73_0 : Code := bodyC Try.f73 []
theorem c73_0_eq : cK c73_0 8 x h k =
(bn .eql 45 (x 0) (.slice Option.none 0 0)).bind fun v0 =>
cnd v0 (
k .ret ⟨ar 8 (up x [(2,(.slice Option.none 0 0)),(3,(x 0)),(4,v0)]), h⟩) (
obH (buildSliceV Try.prog 45 0 #[] h) fun v1 h2 =>
obH (ap 45 (some 45) v1 (x 0) h2) fun v3 h4 =>
k .ret ⟨ar 8 (up x [(2,v3),(3,(x 0)),(4,v0),(5,v1),(6,(x 0)),(7,v3)]), h4⟩) := by kernel_rfl
theorem call73 (a0 : Value) : evC Try.prog 73 #[a0] h = cK c73_0 8 (up un [(0,a0)]) (nm h) (retK Try.f73 Try.prog h) :=
  (evC_call 73 Try.f73 c73_0 Try.func73 (by kernel_rfl) #[a0] h).trans (by kernel_rfl)
theorem ret73 : retK Try.f73 Try.prog g .ret ⟨ar 8 x, h⟩ = fin g (some (x 2)) h := by kernel_rfl
end Go.Am
namespace Go.Am
open Go.Proofs
set_option maxRecDepth 100000
variable {β : Type} (x : Nat → Value) (h : Heap) (k : Ex → St → Option β) (r m : List Nat) (g : Heap)
noncomputable def c22_0 : Code := bodyC Try.f22 []
noncomputable def c22_1 : Code := bodyC Try.f22 [true, true, false, true, false, false]
noncomputable def c22_2 : Code := bodyC Try.f22 [true, true, true]
theorem c22_0_eq : cK c22_0 31 x h k =
lK c22_1 31 (up x [(2,(.slice Option.none 0 0)),(3,(.slice Option.none 0 0)),(4,(.int .i64 0))]) h (blockK 0 (sK c22_2 k)) := by kernel_rfl
theorem c22_1_eq : cK c22_1 31 x h k =
(ln 45 (x 0) h).bind fun v0 =>
(bn .lss 3 (x 4) v0).bind fun v1 =>
cnd v1 (
(ia 45 (x 0) (x 4)).bind fun v2 =>
(fa 57 v2 0).bind fun v3 =>
(ld 3 v3 h).bind fun v4 =>
(ia 45 (x 0) (x 4)).bind fun v5 =>
(fa 57 v5 1).bind fun v6 =>
(ld 35 v6 h).bind fun v7 =>
(ia 45 (x 0) (x 4)).bind fun v8 =>
(fa 57 v8 2).bind fun v9 =>
(ld 55 v9 h).bind fun v10 =>
(buildV Try.prog 72 #[(0, v4), (1, v7), (2, v10)]).bind fun v11 =>
obH (buildSliceV Try.prog 51 1 #[(0, v11)] h) fun v12 h13 =>
obH (ap 51 (some 51) (x 3) v12 h13) fun v14 h15 =>
(bn .add 3 (x 4) (.int .i64 1)).bind fun v16 =>
k .normal ⟨ar 31 (up x [(3,v14),(4,v16),(5,(x 4)),(6,(x 0)),(7,v0),(8,v1),(9,(x 4)),(10,v16),(11,(x 3)),(12,(x 0)),(13,(x 4)),(14,v2),(15,v3),(16,v4),(17,(x 0)),(18,(x 4)),(19,v5),(20,v6),(21,v7),(22,(x 0)),(23,(x 4)),(24,v8),(25,v9),(26,v10),(27,v11),(28,v12),(29,v14)]), h15⟩) (
k (.exit 0) ⟨ar 31 (up x [(5,(x 4)),(6,(x 0)),(7,v0),(8,v1)]), h⟩) := by kernel_rfl
theorem c22_2_eq : cK c22_2 31 x h k =
k .ret ⟨ar 31 (up x [(2,(x 3)),(30,(x 3))]), h⟩ := by kernel_rfl
theorem call22 (a0 : Value) : evC Try.prog 22 #[a0] h = cK c22_0 31 (up un [(0,a0)]) (nm h) (retK Try.f22 Try.prog h) :=
  (evC_call 22 Try.f22 c22_0 Try.func22 (by kernel_rfl) #[a0] h).trans (by kernel_rfl)
theorem ret22 : retK Try.f22 Try.prog g .ret ⟨ar 31 x, h⟩ = fin g (some (x 2)) h := by kernel_rfl
end Go.Am
namespace Go.Am
open Go.Proofs
set_option maxRecDepth 100000
variable {β : Type} (x : Nat → Value) (h : Heap) (k : Ex → St → Option β) (r m : List Nat) (g : Heap)
noncomputable def c21_0 : Code := bodyC Try.f21 []
noncomputable def c21_1 : Code := bodyC Try.f21 [true, true, false, true, false, false]
noncomputable def c21_2 : Code := bodyC Try.f21 [true, true, true]
theorem c21_0_eq : cK c21_0 26 x h k =
(ln 51 (x 0) h).bind fun v0 =>
(ln 51 (x 1) h).bind fun v1 =>
(bn .neq 3 v0 v1).bind fun v2 =>
cnd v2 (
k .ret ⟨ar 26 (up x [(4,(.bool false)),(6,(x 0)),(7,v0),(8,(x 1)),(9,v1),(10,v2)]), h⟩) (
lK c21_1 26 (up x [(4,(.bool false)),(5,(.int .i64 0)),(6,(x 0)),(7,v0),(8,(x 1)),(9,v1),(10,v2)]) h (blockK 0 (sK c21_2 k))) := by kernel_rfl
theorem c21_1_eq : cK c21_1 26 x h k =
(ln 51 (x 0) h).bind fun v3 =>
(bn .lss 3 (x 5) v3).bind fun v4 =>
cnd v4 (
(ia 51 (x 0) (x 5)).bind fun v5 =>
(ld 72 v5 h).bind fun v6 =>
(ia 51 (x 1) (x 5)).bind fun v7 =>
(ld 72 v7 h).bind fun v8 =>
(bn .neq 72 v6 v8).bind fun v9 =>
cnd v9 (
k .ret ⟨ar 26 (up x [(4,(.bool false)),(11,(x 5)),(12,(x 0)),(13,v3),(14,v4),(17,(x 0)),(18,(x 5)),(19,v5),(20,v6),(21,(x 1)),(22,(x 5)),(23,v7),(24,v8),(25,v9)]), h⟩) (
(bn .add 3 (x 5) (.int .i64 1)).bind fun v10 =>
k .normal ⟨ar 26 (up x [(5,v10),(11,(x 5)),(12,(x 0)),(13,v3),(14,v4),(15,(x 5)),(16,v10),(17,(x 0)),(18,(x 5)),(19,v5),(20,v6),(21,(x 1)),(22,(x 5)),(23,v7),(24,v8),(25,v9)]), h⟩)) (
k (.exit 0) ⟨ar 26 (up x [(11,(x 5)),(12,(x 0)),(13,v3),(14,v4)]), h⟩) := by kernel_rfl
theorem c21_2_eq : cK c21_2 26 x h k =
k .ret ⟨ar 26 (up x [(4,(.bool true))]), h⟩ := by kernel_rfl
theorem call21 (a0 a1 : Value) : evC Try.prog 21 #[a0,a1] h = cK c21_0 26 (up un [(0,a0),(1,a1)]) (nm h) (retK Try.f21 Try.prog h) :=
  (evC_call 21 Try.f21 c21_0 Try.func21 (by kernel_rfl) #[a0,a1] h).trans (by kernel_rfl)
theorem ret21 : retK Try.f21 Try.prog g .ret ⟨ar 26 x, h⟩ = fin g (some (x 4)) h := by kernel_rfl
end Go.Am
namespace Go.Am
open Go.Proofs
set_option maxRecDepth 100000
variable {β : Type} (x : Nat → Value) (h : Heap) (k : Ex → St → Option β) (r m : List Nat) (g : Heap)
noncomputable def c51_0 : Code := bodyC Try.f51 []
noncomputable def c51_1 : Code := bodyC Try.f51 [true, true, true, false, false, false]
noncomputable def c51_2 : Code := bodyC Try.f51 [true, true, true, true]
theorem c51_0_eq : cK c51_0 49 x h k =
obH (boxV Try.prog 57 (x 1) h) fun v0 h1 =>
(ln 45 (x 0) h1).bind fun v2 =>
lK c51_1 49 (up x [(4,v0),(6,(.int .i64 0)),(7,(.bool false)),(8,v2),(9,(.int .i64 0)),(10,v2),(12,(x 0)),(13,v2),(14,v2)]) h1 (blockK 0 (sK c51_2 k)) := by kernel_rfl
theorem c51_1_eq : cK c51_1 49 x h k =
(bn .lss 3 (x 9) (x 10)).bind fun v3 =>
cnd v3 (
(bn .add 3 (x 9) (x 10)).bind fun v4 =>
obH (cv 3 114 v4 h) fun v5 h6 =>
(bn .shr 114 v5 (.int .u64 1)).bind fun v7 =>
obH (cv 114 3 v7 h6) fun v8 h9 =>
(ia 45 (x 0) v8).bind fun v10 =>
(ld 57 v10 h9).bind fun v11 =>
(ld 57 (x 4) h9).bind fun v12 =>
obH (callV Try.prog (evC Try.prog) (x 2) #[v11,v12] h9) fun v13 h14 =>
(bn .lss 3 v13 (.int .i64 0)).bind fun v15 =>
cnd v15 (
(bn .add 3 v8 (.int .i64 1)).bind fun v16 =>
k .normal ⟨ar 49 (up x [(9,v16),(11,v8),(15,(x 9)),(16,(x 10)),(17,v3),(18,(x 9)),(19,(x 10)),(20,v4),(21,v5),(22,v7),(23,v8),(24,(x 2)),(25,(x 0)),(26,v8),(27,v10),(28,v11),(29,v12),(30,v13),(31,v15),(32,v8),(33,v16)]), h14⟩) (
k .normal ⟨ar 49 (up x [(10,v8),(11,v8),(15,(x 9)),(16,(x 10)),(17,v3),(18,(x 9)),(19,(x 10)),(20,v4),(21,v5),(22,v7),(23,v8),(24,(x 2)),(25,(x 0)),(26,v8),(27,v10),(28,v11),(29,v12),(30,v13),(31,v15),(34,v8)]), h14⟩)) (
k (.exit 0) ⟨ar 49 (up x [(15,(x 9)),(16,(x 10)),(17,v3)]), h⟩) := by kernel_rfl
theorem c51_2_eq : cK c51_2 49 x h k =
(bn .lss 3 (x 9) (x 8)).bind fun v17 =>
(gd (wt v17 true) (ia 45 (gdV (wt v17 true) (x 0)) (gdV (wt v17 true) (x 9)))).bind fun v18 =>
(gd (wt v17 true) (ld 57 v18 h)).bind fun v19 =>
(gd (wt v17 true) (ld 57 (x 4) h)).bind fun v20 =>
obH (gdH (wt v17 true) h (callV Try.prog (evC Try.prog) (gdV (wt v17 true) (x 2)) #[v19,v20] h)) fun v21 h22 =>
(gd (wt v17 true) (bn .eql 3 v21 (.int .i64 0))).bind fun v23 =>
(pickV v17 v23 (.bool false)).bind fun v24 =>
k .ret ⟨ar 49 (up x [(6,(x 9)),(7,v24),(35,(x 9)),(36,(x 9)),(37,(x 8)),(38,v17),(39,v17),(40,(gdV (wt v17 true) (x 2))),(41,(gdV (wt v17 true) (x 0))),(42,(gdV (wt v17 true) (x 9))),(43,v18),(44,v19),(45,v20),(46,v21),(47,v23),(48,v24)]), h22⟩ := by kernel_rfl
theorem call51 (a0 a1 a2 : Value) : evC Try.prog 51 #[a0,a1,a2] h = cK c51_0 49 (up un [(0,a0),(1,a1),(2,a2)]) (nm h) (retK Try.f51 Try.prog h) :=
  (evC_call 51 Try.f51 c51_0 Try.func51 (by kernel_rfl) #[a0,a1,a2] h).trans (by kernel_rfl)
theorem ret51 : retK Try.f51 Try.prog g .ret ⟨ar 49 x, h⟩ = fin g (some (.tuple #[x 6, (x 7)])) h := by kernel_rfl
end Go.Am
namespace Go.Am
open Go.Proofs
set_option maxRecDepth 100000
variable {β : Type} (x : Nat → Value) (h : Heap) (k : Ex → St → Option β) (r m : List Nat) (g : Heap)
noncomputable def c74_0 : Code := bodyC Try.f74 []
noncomputable def c74_1 : Code := bodyC Try.f74 [true, true, false, true, false, false]
noncomputable def c74_2 : Code := bodyC Try.f74 [true, true, true]
theorem c74_0_eq : cK c74_0 21 x h k =
obH (boxV Try.prog 47 (x 0) h) fun v0 h1 =>
obH (some (makeMapV h1)) fun v2 h3 =>
(fa 47 v0 0).bind fun v4 =>
(ld 45 v4 h3).bind fun v5 =>
(ln 45 v5 h3).bind fun v6 =>
lK c74_1 21 (up x [(1,v0),(2,(.map Option.none)),(3,v2),(6,v2),(7,v4),(8,v5),(9,v6),(10,(.int .i64 0))]) h3 (blockK 0 (sK c74_2 k)) := by kernel_rfl
theorem c74_1_eq : cK c74_1 21 x h k =
(bn .lss 3 (x 10) (x 9)).bind fun v7 =>
cnd v7 (
(ia 45 (x 8) (x 10)).bind fun v8 =>
(ld 57 v8 h).bind fun v9 =>
obH (allocV Try.prog 57 h) fun v10 h11 =>
(sto 57 v10 v9 h11).bind fun h12 =>
(fa 57 v10 0).bind fun v13 =>
(ld 3 v13 h12).bind fun v14 =>
(fa 57 v10 1).bind fun v15 =>
(ld 35 v15 h12).bind fun v16 =>
(mapUpdateV Try.prog 133 (x 3) v14 v16 h12).bind fun h17 =>
(bn .add 3 (x 10) (.int .i64 1)).bind fun v18 =>
k .normal ⟨ar 21 (up x [(5,v10),(10,v18),(11,v7),(12,v8),(13,v9),(14,(x 3)),(15,v13),(16,v14),(17,v15),(18,v16),(19,v18)]), h17⟩) (
k (.exit 0) ⟨ar 21 (up x [(11,v7)]), h⟩) := by kernel_rfl
theorem c74_2_eq : cK c74_2 21 x h k =
k .ret ⟨ar 21 (up x [(2,(x 3)),(20,(x 3))]), h⟩ := by kernel_rfl
theorem call74 (a0 : Value) : evC Try.prog 74 #[a0] h = cK c74_0 21 (up un [(0,a0)]) (nm h) (retK Try.f74 Try.prog h) :=
  (evC_call 74 Try.f74 c74_0 Try.func74 (by kernel_rfl) #[a0] h).trans (by kernel_rfl)
theorem ret74 : retK Try.f74 Try.prog g .ret ⟨ar 21 x, h⟩ = fin g (some (x 2)) h := by kernel_rfl
end Go.Am
namespace Go.Am
open Go.Proofs
set_option maxRecDepth 100000
variable {β : Type} (x : Nat → Value) (h : Heap) (k : Ex → St → Option β) (r m : List Nat) (g : Heap)
noncomputable def c50_0 : Code := bodyC Try.f50 []
noncomputable def c50_1 : Code := bodyC Try.f50 [true, true, true, false, true, false, false]
noncomputable def c50_2 : Code := bodyC Try.f50 [true, true, true, true]
theorem c50_0_eq : cK c50_0 44 x h k =
obH (boxV Try.prog 47 (x 0) h) fun v0 h1 =>
obH (boxV Try.prog 47 (x 1) h1) fun v2 h3 =>
(ld 47 v2 h3).bind fun v4 =>
obH (ev 74 #[v4] h3) fun v5 h6 =>
(fa 47 v0 0).bind fun v7 =>
(ld 45 v7 h6).bind fun v8 =>
(ln 45 v8 h6).bind fun v9 =>
lK c50_1 44 (up x [(2,v0),(3,v2),(4,(.slice Option.none 0 0)),(5,v5),(6,(.slice Option.none 0 0)),(11,v4),(12,v5),(13,v7),(14,v8),(15,v9),(16,(.int .i64 0))]) h6 (blockK 0 (sK c50_2 k)) := by kernel_rfl
theorem c50_1_eq : cK c50_1 44 x h k =
(bn .lss 3 (x 16) (x 15)).bind fun v10 =>
cnd v10 (
(ia 45 (x 14) (x 16)).bind fun v11 =>
(ld 57 v11 h).bind fun v12 =>
obH (allocV Try.prog 57 h) fun v13 h14 =>
(sto 57 v13 v12 h14).bind fun h15 =>
(fa 47 (x 3) 0).bind fun v16 =>
(ld 45 v16 h15).bind fun v17 =>
(ld 57 v13 h15).bind fun v18 =>
obH (ev 51 #[v17,v18,(.func (.func 48) #[] #[])] h15) fun v19 h20 =>
(extractV v19 0).bind fun v21 =>
(extractV v19 1).bind fun v22 =>
(unV Try.prog .not v22).bind fun v23 =>
(gd (wt v23 true) (fa 57 v13 0)).bind fun v24 =>
(gd (wt v23 true) (ld 3 v24 h20)).bind fun v25 =>
(gd (wt v23 true) (lookupV Try.prog 133 (gdV (wt v23 true) (x 5)) v25 false h20)).bind fun v26 =>
(gd (wt v23 true) (fa 57 v13 1)).bind fun v27 =>
(gd (wt v23 true) (ld 35 v27 h20)).bind fun v28 =>
(gd (wt v23 true) (bn .lss 35 v26 v28)).bind fun v29 =>
(pickV v23 v29 (.bool false)).bind fun v30 =>
cnd v30 (
(ld 57 v13 h20).bind fun v31 =>
obH (buildSliceV Try.prog 45 1 #[(0, v31)] h20) fun v32 h33 =>
obH (ap 45 (some 45) (x 6) v32 h33) fun v34 h35 =>
(bn .add 3 (x 16) (.int .i64 1)).bind fun v36 =>
k .normal ⟨ar 44 (up x [(6,v34),(8,v13),(9,v21),(10,v22),(16,v36),(17,v10),(18,v11),(19,v12),(20,v19),(21,v16),(22,v17),(23,v18),(24,v19),(25,v21),(26,v22),(27,v22),(28,v23),(29,v23),(30,(gdV (wt v23 true) (x 5))),(31,v24),(32,v25),(33,v26),(34,v27),(35,v28),(36,v29),(37,v30),(38,(x 6)),(39,v31),(40,v32),(41,v34),(42,v36)]), h35⟩) (
(bn .add 3 (x 16) (.int .i64 1)).bind fun v37 =>
k .normal ⟨ar 44 (up x [(8,v13),(9,v21),(10,v22),(16,v37),(17,v10),(18,v11),(19,v12),(20,v19),(21,v16),(22,v17),(23,v18),(24,v19),(25,v21),(26,v22),(27,v22),(28,v23),(29,v23),(30,(gdV (wt v23 true) (x 5))),(31,v24),(32,v25),(33,v26),(34,v27),(35,v28),(36,v29),(37,v30),(42,v37)]), h20⟩)) (
k (.exit 0) ⟨ar 44 (up x [(17,v10)]), h⟩) := by kernel_rfl
theorem c50_2_eq : cK c50_2 44 x h k =
k .ret ⟨ar 44 (up x [(4,(x 6)),(43,(x 6))]), h⟩ := by kernel_rfl
theorem call50 (a0 a1 : Value) : evC Try.prog 50 #[a0,a1] h = cK c50_0 44 (up un [(0,a0),(1,a1)]) (nm h) (retK Try.f50 Try.prog h) :=
  (evC_call 50 Try.f50 c50_0 Try.func50 (by kernel_rfl) #[a0,a1] h).trans (by kernel_rfl)
theorem ret50 : retK Try.f50 Try.prog g .ret ⟨ar 44 x, h⟩ = fin g (some (x 4)) h := by kernel_rfl
end Go.Am
namespace Go.Am
open Go.Proofs
set_option maxRecDepth 100000
variable {β : Type} (x : Nat → Value) (h : Heap) (k : Ex → St → Option β) (r m : List Nat) (g : Heap)
noncomputable def c23_0 : Code := bodyC Try.f23 []
noncomputable def c23_1 : Code := bodyC Try.f23 [true, true, true, false, true, false, false]
noncomputable def c23_2 : Code := bodyC Try.f23 [true, true, true, true]
theorem c23_0_eq : cK c23_0 61 x h k =
obH (boxV Try.prog 47 (x 0) h) fun v0 h1 =>
obH (boxV Try.prog 47 (x 1) h1) fun v2 h3 =>
obH (allocV Try.prog 47 h3) fun v4 h5 =>
(ld 47 v0 h5).bind fun v6 =>
obH (ev 19 #[v6] h5) fun v7 h8 =>
(unV Try.prog .not v7).bind fun v9 =>
(gd (wt v9 false) (ld 47 v2 h8)).bind fun v10 =>
obH (gdH (wt v9 false) h8 (ev 19 #[v10] h8)) fun v11 h12 =>
(gd (wt v9 false) (unV Try.prog .not v11)).bind fun v13 =>
(pickV v9 (.bool true) v13).bind fun v14 =>
cnd v14 (
(ld 47 v0 h12).bind fun v15 =>
obH (ev 49 #[v15] h12) fun v16 h17 =>
(sto 47 v4 v16 h17).bind fun h18 =>
k .ret ⟨ar 61 (up x [(2,v0),(3,v2),(4,v4),(10,v6),(11,v7),(12,v9),(13,v9),(14,v10),(15,v11),(16,v13),(17,v14),(18,v15),(19,v16)]), h18⟩) (
(ld 47 v0 h12).bind fun v19 =>
(ld 47 v2 h12).bind fun v20 =>
obH (ev 50 #[v19,v20] (nm h12)) fun v21 h22 =>
(ld 47 v2 (am h22 h12)).bind fun v23 =>
(ld 47 v0 (am h22 h12)).bind fun v24 =>
obH (ev 50 #[v23,v24] (am h22 h12)) fun v25 h26 =>
obH (ap 45 (some 45) v21 v25 h26) fun v27 h28 =>
chk ((rb v0) ++ ((rb v2) ++ [])) (h22.mods ++ []) (
(fa 47 v0 0).bind fun v29 =>
(ld 45 v29 h28).bind fun v30 =>
(ln 45 v30 h28).bind fun v31 =>
lK c23_1 61 (up x [(2,v0),(3,v2),(4,v4),(5,v27),(10,v6),(11,v7),(12,v9),(13,v9),(14,v10),(15,v11),(16,v13),(17,v14),(20,v19),(21,v20),(22,v21),(23,v23),(24,v24),(25,v25),(26,v27),(27,v29),(28,v30),(29,v31),(30,(.int .i64 0))]) h28 (blockK 0 (sK c23_2 k)))) := by kernel_rfl
theorem c23_1_eq : cK c23_1 61 x h k =
(bn .lss 3 (x 30) (x 29)).bind fun v32 =>
cnd v32 (
(ia 45 (x 28) (x 30)).bind fun v33 =>
(ld 57 v33 h).bind fun v34 =>
obH (allocV Try.prog 57 h) fun v35 h36 =>
(sto 57 v35 v34 h36).bind fun h37 =>
(fa 47 (x 3) 0).bind fun v38 =>
(ld 45 v38 h37).bind fun v39 =>
(ld 57 v35 h37).bind fun v40 =>
obH (ev 51 #[v39,v40,(.func (.func 48) #[] #[])] h37) fun v41 h42 =>
(extractV v41 0).bind fun v43 =>
(extractV v41 1).bind fun v44 =>
cnd v44 (
(fa 57 v35 2).bind fun v45 =>
(ld 55 v45 h42).bind fun v46 =>
(fa 47 (x 3) 0).bind fun v47 =>
(ld 45 v47 h42).bind fun v48 =>
(ia 45 v48 v43).bind fun v49 =>
(fa 57 v49 2).bind fun v50 =>
(ld 55 v50 h42).bind fun v51 =>
(bn .and 55 v46 v51).bind fun v52 =>
(fa 57 v35 2).bind fun v53 =>
(sto 55 v53 v52 h42).bind fun h54 =>
(ld 57 v35 h54).bind fun v55 =>
obH (buildSliceV Try.prog 45 1 #[(0, v55)] h54) fun v56 h57 =>
obH (ap 45 (some 45) (x 5) v56 h57) fun v58 h59 =>
(bn .add 3 (x 30) (.int .i64 1)).bind fun v60 =>
k .normal ⟨ar 61 (up x [(5,v58),(7,v35),(8,v43),(9,v44),(30,v60),(31,v32),(32,v33),(33,v34),(34,v41),(35,v38),(36,v39),(37,v40),(38,v41),(39,v43),(40,v44),(41,v44),(42,v45),(43,v46),(44,v47),(45,v48),(46,v43),(47,v49),(48,v50),(49,v51),(50,v52),(51,v53),(52,(x 5)),(53,v55),(54,v56),(55,v58),(56,v60)]), h59⟩) (
(bn .add 3 (x 30) (.int .i64 1)).bind fun v61 =>
k .normal ⟨ar 61 (up x [(7,v35),(8,v43),(9,v44),(30,v61),(31,v32),(32,v33),(33,v34),(34,v41),(35,v38),(36,v39),(37,v40),(38,v41),(39,v43),(40,v44),(41,v44),(56,v61)]), h42⟩)) (
k (.exit 0) ⟨ar 61 (up x [(31,v32)]), h⟩) := by kernel_rfl
theorem c23_2_eq : cK c23_2 61 x h k =
obH (ev 52 #[x 5,(.func (.func 48) #[] #[])] h) fun v62 h63 =>
(buildV Try.prog 47 #[(0, (x 5))]).bind fun v64 =>
(sto 47 (x 4) v64 h63).bind fun h65 =>
k .ret ⟨ar 61 (up x [(57,(x 5)),(58,v62),(59,(x 5)),(60,v64)]), h65⟩ := by kernel_rfl
theorem call23 (a0 a1 : Value) : evC Try.prog 23 #[a0,a1] h = cK c23_0 61 (up un [(0,a0),(1,a1)]) (nm h) (retK Try.f23 Try.prog h) :=
  (evC_call 23 Try.f23 c23_0 Try.func23 (by kernel_rfl) #[a0,a1] h).trans (by kernel_rfl)
theorem ret23 : retK Try.f23 Try.prog g .ret ⟨ar 61 x, h⟩ = fin g (rvals ((ld 47 (x 4) h).bind fun r0 => some [r0])) h := by kernel_rfl
end Go.Am
namespace Go.Am
open Go.Proofs
set_option maxRecDepth 100000
variable {β : Type} (x : Nat → Value) (h : Heap) (k : Ex → St → Option β) (r m : List Nat) (g : Heap)
noncomputable def c24_0 : Code := bodyC Try.f24 []
noncomputable def c24_1 : Code := bodyC Try.f24 [true, true, true, false, true, false, false]
noncomputable def c24_2 : Code := bodyC Try.f24 [true, true, true, true]
theorem c24_0_eq : cK c24_0 30 x h k =
obH (boxV Try.prog 47 (x 0) h) fun v0 h1 =>
obH (allocV Try.prog 47 h1) fun v2 h3 =>
(ld 47 v0 h3).bind fun v4 =>
obH (ev 49 #[v4] h3) fun v5 h6 =>
(sto 47 v0 v5 h6).bind fun h7 =>
(ld 47 v0 h7).bind fun v8 =>
obH (ev 19 #[v8] h7) fun v9 h10 =>
(unV Try.prog .not v9).bind fun v11 =>
cnd v11 (
(ld 47 v0 h10).bind fun v12 =>
(sto 47 v2 v12 h10).bind fun h13 =>
k .ret ⟨ar 30 (up x [(2,v0),(4,v2),(6,v4),(7,v5),(8,v8),(9,v9),(10,v11),(11,v12)]), h13⟩) (
(fa 47 v0 0).bind fun v14 =>
(ld 45 v14 h10).bind fun v15 =>
(ln 45 v15 h10).bind fun v16 =>
lK c24_1 30 (up x [(2,v0),(4,v2),(6,v4),(7,v5),(8,v8),(9,v9),(10,v11),(12,v14),(13,v15),(14,v16),(15,(.int .i64 0))]) h10 (blockK 0 (sK c24_2 k))) := by kernel_rfl
theorem c24_1_eq : cK c24_1 30 x h k =
(bn .lss 3 (x 15) (x 14)).bind fun v17 =>
cnd v17 (
(fa 47 (x 2) 0).bind fun v18 =>
(ld 45 v18 h).bind fun v19 =>
(ia 45 v19 (x 15)).bind fun v20 =>
(fa 57 v20 2).bind fun v21 =>
(ld 55 v21 h).bind fun v22 =>
(bn .andNot 55 v22 (x 1)).bind fun v23 =>
(ia 45 v19 (x 15)).bind fun v24 =>
(fa 57 v24 2).bind fun v25 =>
(sto 55 v25 v23 h).bind fun h26 =>
(bn .add 3 (x 15) (.int .i64 1)).bind fun v27 =>
k .normal ⟨ar 30 (up x [(5,(x 15)),(15,v27),(16,v17),(17,(x 15)),(18,v18),(19,v19),(20,(x 15)),(21,v20),(22,v21),(23,v22),(24,(x 1)),(25,v23),(26,v24),(27,v25),(28,v27)]), h26⟩) (
k (.exit 0) ⟨ar 30 (up x [(16,v17)]), h⟩) := by kernel_rfl
theorem c24_2_eq : cK c24_2 30 x h k =
(ld 47 (x 2) h).bind fun v28 =>
(sto 47 (x 4) v28 h).bind fun h29 =>
k .ret ⟨ar 30 (up x [(29,v28)]), h29⟩ := by kernel_rfl
theorem call24 (a0 a1 : Value) : evC Try.prog 24 #[a0,a1] h = cK c24_0 30 (up un [(0,a0),(1,a1)]) (nm h) (retK Try.f24 Try.prog h) :=
  (evC_call 24 Try.f24 c24_0 Try.func24 (by kernel_rfl) #[a0,a1] h).trans (by kernel_rfl)
theorem ret24 : retK Try.f24 Try.prog g .ret ⟨ar 30 x, h⟩ = fin g (rvals ((ld 47 (x 4) h).bind fun r0 => some [r0])) h := by kernel_rfl
end Go.Am
namespace Go.Am
open Go.Proofs
set_option maxRecDepth 100000
variable {β : Type} (x : Nat → Value) (h : Heap) (k : Ex → St → Option β) (r m : List Nat) (g : Heap)
noncomputable def c25_0 : Code := bodyC Try.f25 []
theorem c25_0_eq : cK c25_0 14 x h k =
obH (boxV Try.prog 47 (x 0) h) fun v0 h1 =>
obH (allocV Try.prog 47 h1) fun v2 h3 =>
(ld 47 v0 h3).bind fun v4 =>
obH (buildSliceV Try.prog 43 1 #[(0, (x 2))] h3) fun v5 h6 =>
obH (ev 26 #[v5] (nm h6)) fun v7 h8 =>
(bn .andNot 55 (x 1) v7).bind fun v9 =>
obH (ev 24 #[v4,v9] (am h8 h6)) fun v10 h11 =>
(sto 47 v2 v10 h11).bind fun h12 =>
chk ((rb v0) ++ []) (h8.mods ++ []) (
k .ret ⟨ar 14 (up x [(3,v0),(6,v2),(7,v4),(8,(x 1)),(9,(x 2)),(10,v5),(11,v7),(12,v9),(13,v10)]), h12⟩) := by kernel_rfl
theorem call25 (a0 a1 a2 : Value) : evC Try.prog 25 #[a0,a1,a2] h = cK c25_0 14 (up un [(0,a0),(1,a1),(2,a2)]) (nm h) (retK Try.f25 Try.prog h) :=
  (evC_call 25 Try.f25 c25_0 Try.func25 (by kernel_rfl) #[a0,a1,a2] h).trans (by kernel_rfl)
theorem ret25 : retK Try.f25 Try.prog g .ret ⟨ar 14 x, h⟩ = fin g (rvals ((ld 47 (x 6) h).bind fun r0 => some [r0])) h := by kernel_rfl
end Go.Am
namespace Go.Am
open Go.Proofs
set_option maxRecDepth 100000
variable {β : Type} (x : Nat → Value) (h : Heap) (k : Ex → St → Option β) (r m : List Nat) (g : Heap)
noncomputable def c26_0 : Code := bodyC Try.f26 []
noncomputable def c26_1 : Code := bodyC Try.f26 [true, true, false, true, false, false]
noncomputable def c26_2 : Code := bodyC Try.f26 [true, true, true]
theorem c26_0_eq : cK c26_0 24 x h k =
(ln 43 (x 0) h).bind fun v0 =>
lK c26_1 24 (up x [(2,(.int .u64 0)),(3,(.int .u64 0)),(6,(x 0)),(7,v0),(8,(.int .i64 0))]) h (blockK 0 (sK c26_2 k)) := by kernel_rfl
theorem c26_1_eq : cK c26_1 24 x h k =
(bn .lss 3 (x 8) (x 7)).bind fun v1 =>
cnd v1 (
(ia 43 (x 6) (x 8)).bind fun v2 =>
(ld 3 v2 h).bind fun v3 =>
(bn .geq 3 v3 (.int .i64 0)).bind fun v4 =>
(gd (wt v4 true) (bn .lss 3 (gdV (wt v4 true) v3) (.int .i64 64))).bind fun v5 =>
(pickV v4 v5 (.bool false)).bind fun v6 =>
cnd v6 (
(bn .shl 55 (.int .u64 1) v3).bind fun v7 =>
(bn .or 55 (x 3) v7).bind fun v8 =>
(bn .add 3 (x 8) (.int .i64 1)).bind fun v9 =>
k .normal ⟨ar 24 (up x [(3,v8),(5,v3),(8,v9),(9,v1),(10,v2),(11,v3),(12,v3),(13,v4),(14,v4),(15,(gdV (wt v4 true) v3)),(16,v5),(17,v6),(18,(x 3)),(19,v3),(20,v7),(21,v8),(22,v9)]), h⟩) (
(bn .add 3 (x 8) (.int .i64 1)).bind fun v10 =>
k .normal ⟨ar 24 (up x [(5,v3),(8,v10),(9,v1),(10,v2),(11,v3),(12,v3),(13,v4),(14,v4),(15,(gdV (wt v4 true) v3)),(16,v5),(17,v6),(22,v10)]), h⟩)) (
k (.exit 0) ⟨ar 24 (up x [(9,v1)]), h⟩) := by kernel_rfl
theorem c26_2_eq : cK c26_2 24 x h k =
k .ret ⟨ar 24 (up x [(2,(x 3)),(23,(x 3))]), h⟩ := by kernel_rfl
theorem call26 (a0 : Value) : evC Try.prog 26 #[a0] h = cK c26_0 24 (up un [(0,a0)]) (nm h) (retK Try.f26 Try.prog h) :=
  (evC_call 26 Try.f26 c26_0 Try.func26 (by kernel_rfl) #[a0] h).trans (by kernel_rfl)
theorem ret26 : retK Try.f26 Try.prog g .ret ⟨ar 24 x, h⟩ = fin g (some (x 2)) h := by kernel_rfl
end Go.Am
namespace Go.Am
open Go.Proofs
set_option maxRecDepth 100000
variable {β : Type} (x : Nat → Value) (h : Heap) (k : Ex → St → Option β) (r m : List Nat) (g : Heap)
noncomputable def c20_0 : Code := bodyC Try.f20 []
noncomputable def c20_1 : Code := bodyC Try.f20 [true, true, true, true, false, true, false, false]
noncomputable def c20_2 : Code := bodyC Try.f20 [true, true, true, true, true]
theorem c20_0_eq : cK c20_0 50 x h k =
obH (boxV Try.prog 47 (x 0) h) fun v0 h1 =>
obH (allocV Try.prog 47 h1) fun v2 h3 =>
(ld 47 v0 h3).bind fun v4 =>
obH (ev 49 #[v4] h3) fun v5 h6 =>
(sto 47 v0 v5 h6).bind fun h7 =>
(ld 47 v0 h7).bind fun v8 =>
obH (ev 19 #[v8] h7) fun v9 h10 =>
(unV Try.prog .not v9).bind fun v11 =>
cnd v11 (
(ld 47 v0 h10).bind fun v12 =>
(sto 47 v2 v12 h10).bind fun h13 =>
k .ret ⟨ar 50 (up x [(1,v0),(2,v2),(6,v4),(7,v5),(8,v8),(9,v9),(10,v11),(11,v12)]), h13⟩) (
(fa 47 v0 0).bind fun v14 =>
(ld 45 v14 h10).bind fun v15 =>
(ln 45 v15 h10).bind fun v16 =>
lK c20_1 50 (up x [(1,v0),(2,v2),(3,(.slice Option.none 0 0)),(6,v4),(7,v5),(8,v8),(9,v9),(10,v11),(12,v14),(13,v15),(14,v16),(15,(.int .i64 0))]) h10 (blockK 0 (sK c20_2 k))) := by kernel_rfl
theorem c20_1_eq : cK c20_1 50 x h k =
(bn .lss 3 (x 15) (x 14)).bind fun v17 =>
cnd v17 (
(ia 45 (x 13) (x 15)).bind fun v18 =>
(ld 57 v18 h).bind fun v19 =>
obH (allocV Try.prog 57 h) fun v20 h21 =>
(sto 57 v20 v19 h21).bind fun h22 =>
(fa 57 v20 2).bind fun v23 =>
(ld 55 v23 h22).bind fun v24 =>
(bn .neq 55 v24 (.int .u64 0)).bind fun v25 =>
(gd (wt v25 false) (fa 47 (x 1) 0)).bind fun v26 =>
(gd (wt v25 false) (ld 45 v26 h22)).bind fun v27 =>
(gd (wt v25 false) (ln 45 v27 h22)).bind fun v28 =>
(gd (wt v25 false) (bn .sub 3 v28 (.int .i64 1))).bind fun v29 =>
(gd (wt v25 false) (bn .eql 3 (gdV (wt v25 false) (x 15)) v29)).bind fun v30 =>
(pickV v25 (.bool true) v30).bind fun v31 =>
(gd (wt v31 false) (fa 47 (x 1) 0)).bind fun v32 =>
(gd (wt v31 false) (ld 45 v32 h22)).bind fun v33 =>
(gd (wt v31 false) (bn .add 3 (gdV (wt v31 false) (x 15)) (.int .i64 1))).bind fun v34 =>
(gd (wt v31 false) (ia 45 v33 v34)).bind fun v35 =>
(gd (wt v31 false) (fa 57 v35 0)).bind fun v36 =>
(gd (wt v31 false) (ld 3 v36 h22)).bind fun v37 =>
(gd (wt v31 false) (fa 57 v20 0)).bind fun v38 =>
(gd (wt v31 false) (ld 3 v38 h22)).bind fun v39 =>
(gd (wt v31 false) (bn .neq 3 v37 v39)).bind fun v40 =>
(pickV v31 (.bool true) v40).bind fun v41 =>
cnd v41 (
(ld 57 v20 h22).bind fun v42 =>
obH (buildSliceV Try.prog 45 1 #[(0, v42)] h22) fun v43 h44 =>
obH (ap 45 (some 45) (x 3) v43 h44) fun v45 h46 =>
(bn .add 3 (x 15) (.int .i64 1)).bind fun v47 =>
k .normal ⟨ar 50 (up x [(3,v45),(4,(x 15)),(5,v20),(15,v47),(16,v17),(17,(x 15)),(18,v18),(19,v19),(20,v23),(21,v24),(22,v25),(23,v25),(24,(gdV (wt v25 false) (x 15))),(25,v26),(26,v27),(27,v28),(28,v29),(29,v30),(30,v31),(31,v31),(32,v32),(33,v33),(34,(gdV (wt v31 false) (x 15))),(35,v34),(36,v35),(37,v36),(38,v37),(39,v38),(40,v39),(41,v40),(42,v41),(43,(x 3)),(44,v42),(45,v43),(46,v45),(47,v47)]), h46⟩) (
(bn .add 3 (x 15) (.int .i64 1)).bind fun v48 =>
k .normal ⟨ar 50 (up x [(4,(x 15)),(5,v20),(15,v48),(16,v17),(17,(x 15)),(18,v18),(19,v19),(20,v23),(21,v24),(22,v25),(23,v25),(24,(gdV (wt v25 false) (x 15))),(25,v26),(26,v27),(27,v28),(28,v29),(29,v30),(30,v31),(31,v31),(32,v32),(33,v33),(34,(gdV (wt v31 false) (x 15))),(35,v34),(36,v35),(37,v36),(38,v37),(39,v38),(40,v39),(41,v40),(42,v41),(47,v48)]), h22⟩)) (
k (.exit 0) ⟨ar 50 (up x [(16,v17)]), h⟩) := by kernel_rfl
theorem c20_2_eq : cK c20_2 50 x h k =
(buildV Try.prog 47 #[(0, (x 3))]).bind fun v49 =>
(sto 47 (x 2) v49 h).bind fun h50 =>
k .ret ⟨ar 50 (up x [(48,(x 3)),(49,v49)]), h50⟩ := by kernel_rfl
theorem call20 (a0 : Value) : evC Try.prog 20 #[a0] h = cK c20_0 50 (up un [(0,a0)]) (nm h) (retK Try.f20 Try.prog h) :=
  (evC_call 20 Try.f20 c20_0 Try.func20 (by kernel_rfl) #[a0] h).trans (by kernel_rfl)
theorem ret20 : retK Try.f20 Try.prog g .ret ⟨ar 50 x, h⟩ = fin g (rvals ((ld 47 (x 2) h).bind fun r0 => some [r0])) h := by kernel_rfl
end Go.Am
namespace Go.Am
open Go.Proofs
set_option maxRecDepth 100000
variable {β : Type} (x : Nat → Value) (h : Heap) (k : Ex → St → Option β) (r m : List Nat) (g : Heap)
noncomputable def c18_0 : Code := bodyC Try.f18 []
noncomputable def c18_1 : Code := bodyC Try.f18 [false]
noncomputable def c18_2 : Code := bodyC Try.f18 [true]
noncomputable def c18_3 : Code := bodyC Try.f18 [true, false]
noncomputable def c18_4 : Code := bodyC Try.f18 [true, true]
noncomputable def d18_0 : Array Oper := opsC (bodyC Try.f18 [true, true, false])
noncomputable def c18_5 : Code := bodyC Try.f18 [true, true, false]
noncomputable def c18_6 : Code := bodyC Try.f18 [true, true, true]
theorem c18_0_eq : cK c18_0 22 x h k =
cK c18_1 22 x h (sK c18_2 k) := codeK_seq _ _ _ _ _ (by kernel_rfl) _ _
theorem c18_1_eq : cK c18_1 22 x h k =
k .normal ⟨ar 22 (up x [(0,(.bool false))]), h⟩ := by kernel_rfl
theorem c18_2_eq : cK c18_2 22 x h k =
cK c18_3 22 x h (sK c18_4 k) := codeK_seq _ _ _ _ _ (by kernel_rfl) _ _
theorem c18_3_eq : cK c18_3 22 x h k =
(buildV Try.prog 57 #[(0, (.int .i64 0)), (1, (.int .u64 2)), (2, (.int .u64 2))]).bind fun v0 =>
obH (buildSliceV Try.prog 45 1 #[(0, v0)] h) fun v1 h2 =>
(buildV Try.prog 47 #[(0, v1)]).bind fun v3 =>
(buildV Try.prog 57 #[(0, (.int .i64 0)), (1, (.int .u64 1)), (2, (.int .u64 8))]).bind fun v4 =>
obH (buildSliceV Try.prog 45 1 #[(0, v4)] h2) fun v5 h6 =>
(buildV Try.prog 47 #[(0, v5)]).bind fun v7 =>
obH (allocV Try.prog 47 h6) fun v8 h9 =>
obH (allocV Try.prog 47 h9) fun v10 h11 =>
(sto 47 v8 v3 h11).bind fun h12 =>
(sto 47 v10 v7 h12).bind fun h13 =>
k .normal ⟨ar 22 (up x [(1,v8),(2,v10),(3,v0),(4,v1),(5,v3),(6,v4),(7,v5),(8,v7)]), h13⟩ := by kernel_rfl
theorem c18_4_eq : cK c18_4 22 x h k =
cK c18_5 22 x h (sK c18_6 k) := codeK_seq _ _ _ _ _ (by kernel_rfl) _ _
theorem d18_0_0 (k : St → Option β) : rD d18_0 0 22 x h r m k =
(ld 47 (x 1) h).bind fun v14 =>
rD d18_0 1 22 (up x [(9,v14)]) h r m k := (regD_step _ _ d18_0 0 (by kernel_rfl) _ _ _ _).trans (by kernel_rfl)
theorem d18_0_1 (k : St → Option β) : rD d18_0 1 22 x h r m k =
obH (ev 19 #[x 9] h) fun v15 h16 =>
rD d18_0 2 22 (up x [(10,v15)]) h16 r m k := (regD_step _ _ d18_0 1 (by kernel_rfl) _ _ _ _).trans (by kernel_rfl)
theorem d18_0_2 (k : St → Option β) : rD d18_0 2 22 x h r m k =
rD d18_0 3 22 (up x [(11,(x 10))]) h r m k := regD_move _ _ d18_0 2 (by kernel_rfl) (by kernel_rfl) (by kernel_rfl) _ _ _ _ _ _ (by kernel_rfl) (by kernel_rfl)
theorem d18_0_3 (k : St → Option β) : rD d18_0 3 22 x h r m k =
(gd (wt (x 11) true) (ld 47 (x 1) h)).bind fun v17 =>
rD d18_0 4 22 (up x [(12,v17)]) h r m k := (regD_step _ _ d18_0 3 (by kernel_rfl) _ _ _ _).trans (by kernel_rfl)
theorem d18_0_4 (k : St → Option β) : rD d18_0 4 22 x h r m k =
(gd (wt (x 11) true) (ld 47 (x 2) h)).bind fun v18 =>
rD d18_0 5 22 (up x [(13,v18)]) h r m k := (regD_step _ _ d18_0 4 (by kernel_rfl) _ _ _ _).trans (by kernel_rfl)
theorem d18_0_5 (k : St → Option β) : rD d18_0 5 22 x h r m k =
obH (gdH (wt (x 11) true) (nm h) (ev 23 #[x 12,x 13] (nm h))) fun v19 h20 =>
rD d18_0 6 22 (up x [(14,v19)]) (am h20 h) r (h20.mods ++ m) k := (regD_step _ _ d18_0 5 (by kernel_rfl) _ _ _ _).trans (by kernel_rfl)
theorem d18_0_6 (k : St → Option β) : rD d18_0 6 22 x h r m k =
(gd (wt (x 11) true) (fv 47 (x 14) 0)).bind fun v21 =>
rD d18_0 7 22 (up x [(15,v21)]) h r m k := (regD_step _ _ d18_0 6 (by kernel_rfl) _ _ _ _).trans (by kernel_rfl)
theorem d18_0_7 (k : St → Option β) : rD d18_0 7 22 x h r m k =
obH (gdH (wt (x 11) true) (nm h) (ev 22 #[x 15] (nm h))) fun v22 h23 =>
rD d18_0 8 22 (up x [(16,v22)]) (am h23 h) r (h23.mods ++ m) k := (regD_step _ _ d18_0 7 (by kernel_rfl) _ _ _ _).trans (by kernel_rfl)
theorem d18_0_8 (k : St → Option β) : rD d18_0 8 22 x h r m k =
(gd (wt (x 11) true) (fa 47 (x 1) 0)).bind fun v24 =>
rD d18_0 9 22 (up x [(17,v24)]) h r m k := (regD_step _ _ d18_0 8 (by kernel_rfl) _ _ _ _).trans (by kernel_rfl)
theorem d18_0_9 (k : St → Option β) : rD d18_0 9 22 x h r m k =
(gd (wt (x 11) true) (ld 45 (x 17) h)).bind fun v25 =>
rD d18_0 10 22 (up x [(18,v25)]) h (rdL (wt (x 11) true) (rb (x 17)) ++ r) m k := (regD_step _ _ d18_0 9 (by kernel_rfl) _ _ _ _).trans (by kernel_rfl)
theorem d18_0_10 (k : St → Option β) : rD d18_0 10 22 x h r m k =
obH (gdH (wt (x 11) true) h (ev 22 #[x 18] h)) fun v26 h27 =>
rD d18_0 11 22 (up x [(19,v26)]) h27 r m k := (regD_step _ _ d18_0 10 (by kernel_rfl) _ _ _ _).trans (by kernel_rfl)
theorem d18_0_11 (k : St → Option β) : rD d18_0 11 22 x h r m k =
obH (gdH (wt (x 11) true) h (ev 21 #[x 16,x 19] h)) fun v28 h29 =>
rD d18_0 12 22 (up x [(20,v28)]) h29 r m k := (regD_step _ _ d18_0 11 (by kernel_rfl) _ _ _ _).trans (by kernel_rfl)
theorem d18_0_12 (k : St → Option β) : rD d18_0 12 22 x h r m k =
(pickV (x 11) (x 20) (.bool false)).bind fun v30 =>
rD d18_0 13 22 (up x [(21,v30)]) h r m k := (regD_step _ _ d18_0 12 (by kernel_rfl) _ _ _ _).trans (by kernel_rfl)
theorem d18_0_13 (k : St → Option β) : rD d18_0 13 22 x h r m k =
rD d18_0 14 22 (up x [(0,(x 21))]) h r m k := regD_move _ _ d18_0 13 (by kernel_rfl) (by kernel_rfl) (by kernel_rfl) _ _ _ _ _ _ (by kernel_rfl) (by kernel_rfl)
theorem d18_0_14 (k : St → Option β) : rD d18_0 14 22 x h r m k =
chk r m (k ⟨ar 22 x, h⟩) := by kernel_rfl
theorem c18_5_eq : cK c18_5 22 x h k =
rD d18_0 0 22 x h [] [] (fun s => k .normal s) := by kernel_rfl
theorem c18_6_eq : cK c18_6 22 x h k =
k .ret ⟨ar 22 x, h⟩ := by kernel_rfl
theorem call18  : evC Try.prog 18 #[] h = cK c18_0 22 un (nm h) (retK Try.f18 Try.prog h) :=
  (evC_call 18 Try.f18 c18_0 Try.func18 (by kernel_rfl) #[] h).trans (by kernel_rfl)
theorem ret18 : retK Try.f18 Try.prog g .ret ⟨ar 22 x, h⟩ = fin g (some (x 0)) h := by kernel_rfl
end Go.Am
namespace Go.Am
open Go.Proofs
set_option maxRecDepth 100000
variable {β : Type} (x : Nat → Value) (h : Heap) (k : Ex → St → Option β) (r m : List Nat) (g : Heap)
noncomputable def c31_0 : Code := bodyC Try.f31 []
noncomputable def c31_1 : Code := bodyC Try.f31 [true, true, true, true, false, true, false, false]
noncomputable def c31_2 : Code := bodyC Try.f31 [true, true, true, true, true]
theorem c31_0_eq : cK c31_0 39 x h k =
obH (boxV Try.prog 47 (x 0) h) fun v0 h1 =>
(ld 47 v0 h1).bind fun v2 =>
obH (ev 19 #[v2] h1) fun v3 h4 =>
(unV Try.prog .not v3).bind fun v5 =>
cnd v5 (
k .ret ⟨ar 39 (up x [(1,v0),(2,(.slice Option.none 0 0)),(6,v2),(7,v3),(8,v5)]), h4⟩) (
obH (ev 44 #[] h4) fun v6 h7 =>
(fa 47 v0 0).bind fun v8 =>
(ld 45 v8 h7).bind fun v9 =>
(ln 45 v9 h7).bind fun v10 =>
obH (cv 3 35 v10 h7) fun v11 h12 =>
obH (ev 45 #[v6,v11] h12) fun v13 h14 =>
(fa 47 v0 0).bind fun v15 =>
(ld 45 v15 h14).bind fun v16 =>
(ln 45 v16 h14).bind fun v17 =>
lK c31_1 39 (up x [(1,v0),(2,(.slice Option.none 0 0)),(3,v6),(6,v2),(7,v3),(8,v5),(9,v6),(10,v6),(11,v8),(12,v9),(13,v10),(14,v11),(15,v13),(16,v15),(17,v16),(18,v17),(19,(.int .i64 0))]) h14 (blockK 0 (sK c31_2 k))) := by kernel_rfl
theorem c31_1_eq : cK c31_1 39 x h k =
(bn .lss 3 (x 19) (x 18)).bind fun v18 =>
cnd v18 (
(ia 45 (x 17) (x 19)).bind fun v19 =>
(ld 57 v19 h).bind fun v20 =>
obH (allocV Try.prog 57 h) fun v21 h22 =>
(sto 57 v21 v20 h22).bind fun h23 =>
(fa 57 v21 0).bind fun v24 =>
(ld 3 v24 h23).bind fun v25 =>
obH (cv 3 35 v25 h23) fun v26 h27 =>
obH (ev 45 #[x 3,v26] h27) fun v28 h29 =>
(fa 57 v21 1).bind fun v30 =>
(ld 35 v30 h29).bind fun v31 =>
obH (ev 45 #[x 3,v31] h29) fun v32 h33 =>
(fa 57 v21 2).bind fun v34 =>
(ld 55 v34 h33).bind fun v35 =>
obH (ev 60 #[x 3,v35] h33) fun v36 h37 =>
(bn .add 3 (x 19) (.int .i64 1)).bind fun v38 =>
k .normal ⟨ar 39 (up x [(5,v21),(19,v38),(20,v18),(21,v19),(22,v20),(23,(x 3)),(24,v24),(25,v25),(26,v26),(27,v28),(28,(x 3)),(29,v30),(30,v31),(31,v32),(32,(x 3)),(33,v34),(34,v35),(35,v36),(36,v38)]), h37⟩) (
k (.exit 0) ⟨ar 39 (up x [(20,v18)]), h⟩) := by kernel_rfl
theorem c31_2_eq : cK c31_2 39 x h k =
obH (ev 46 #[x 3] h) fun v39 h40 =>
k .ret ⟨ar 39 (up x [(2,v39),(37,(x 3)),(38,v39)]), h40⟩ := by kernel_rfl
theorem call31 (a0 : Value) : evC Try.prog 31 #[a0] h = cK c31_0 39 (up un [(0,a0)]) (nm h) (retK Try.f31 Try.prog h) :=
  (evC_call 31 Try.f31 c31_0 Try.func31 (by kernel_rfl) #[a0] h).trans (by kernel_rfl)
theorem ret31 : retK Try.f31 Try.prog g .ret ⟨ar 39 x, h⟩ = fin g (some (x 2)) h := by kernel_rfl
end Go.Am
namespace Go.Am
open Go.Proofs
set_option maxRecDepth 100000
variable {β : Type} (x : Nat → Value) (h : Heap) (k : Ex → St → Option β) (r m : List Nat) (g : Heap)
end Go.Am
namespace Go.Am
open Go.Proofs
set_option maxRecDepth 100000
variable {β : Type} (x : Nat → Value) (h : Heap) (k : Ex → St → Option β) (r m : List Nat) (g : Heap)
noncomputable def c61_0 : Code := bodyC Try.f61 []
theorem c61_0_eq : cK c61_0 21 x h k =
obH (boxV Try.prog 72 (x 0) h) fun v0 h1 =>
(fa 72 v0 0).bind fun v2 =>
(ld 3 v2 h1).bind fun v3 =>
(bn .geq 3 v3 (.int .i64 0)).bind fun v4 =>
(gd (wt v4 true) (fa 72 v0 0)).bind fun v5 =>
(gd (wt v4 true) (ld 3 v5 h1)).bind fun v6 =>
(gd (wt v4 true) (bn .leq 3 v6 (.int .i64 15))).bind fun v7 =>
(pickV v4 v7 (.bool false)).bind fun v8 =>
(gd (wt v8 true) (fa 72 v0 1)).bind fun v9 =>
(gd (wt v8 true) (ld 35 v9 h1)).bind fun v10 =>
(gd (wt v8 true) (bn .geq 35 v10 (.int .u64 1))).bind fun v11 =>
(pickV v8 v11 (.bool false)).bind fun v12 =>
(gd (wt v12 true) (fa 72 v0 2)).bind fun v13 =>
(gd (wt v12 true) (ld 35 v13 h1)).bind fun v14 =>
(gd (wt v12 true) (bn .leq 35 v14 (.int .u64 65535))).bind fun v15 =>
(pickV v12 v15 (.bool false)).bind fun v16 =>
k .ret ⟨ar 21 (up x [(1,v0),(2,v16),(3,v2),(4,v3),(5,v4),(6,v4),(7,v5),(8,v6),(9,v7),(10,v8),(11,v8),(12,v9),(13,v10),(14,v11),(15,v12),(16,v12),(17,v13),(18,v14),(19,v15),(20,v16)]), h1⟩ := by kernel_rfl
theorem call61 (a0 : Value) : evC Try.prog 61 #[a0] h = cK c61_0 21 (up un [(0,a0)]) (nm h) (retK Try.f61 Try.prog h) :=
  (evC_call 61 Try.f61 c61_0 Try.func61 (by kernel_rfl) #[a0] h).trans (by kernel_rfl)
theorem ret61 : retK Try.f61 Try.prog g .ret ⟨ar 21 x, h⟩ = fin g (some (x 2)) h := by kernel_rfl
end Go.Am
namespace Go.Am
open Go.Proofs
set_option maxRecDepth 100000
variable {β : Type} (x : Nat → Value) (h : Heap) (k : Ex → St → Option β) (r m : List Nat) (g : Heap)
noncomputable def c62_0 : Code := bodyC Try.f62 []
theorem c62_0_eq : cK c62_0 24 x h k =
obH (boxV Try.prog 72 (x 0) h) fun v0 h1 =>
obH (boxV Try.prog 72 (x 1) h1) fun v2 h3 =>
(fa 72 v0 0).bind fun v4 =>
(ld 3 v4 h3).bind fun v5 =>
(fa 72 v2 0).bind fun v6 =>
(ld 3 v6 h3).bind fun v7 =>
(bn .lss 3 v5 v7).bind fun v8 =>
(gd (wt v8 false) (fa 72 v0 0)).bind fun v9 =>
(gd (wt v8 false) (ld 3 v9 h3)).bind fun v10 =>
(gd (wt v8 false) (fa 72 v2 0)).bind fun v11 =>
(gd (wt v8 false) (ld 3 v11 h3)).bind fun v12 =>
(gd (wt v8 false) (bn .eql 3 v10 v12)).bind fun v13 =>
(gd (wt (gdV (wt v8 false) v13) true) (fa 72 v0 1)).bind fun v14 =>
(gd (wt (gdV (wt v8 false) v13) true) (ld 35 v14 h3)).bind fun v15 =>
(gd (wt (gdV (wt v8 false) v13) true) (fa 72 v2 1)).bind fun v16 =>
(gd (wt (gdV (wt v8 false) v13) true) (ld 35 v16 h3)).bind fun v17 =>
(gd (wt (gdV (wt v8 false) v13) true) (bn .lss 35 v15 v17)).bind fun v18 =>
(gd (wt v8 false) (pickV (gdV (wt v8 false) v13) v18 (.bool false))).bind fun v19 =>
(pickV v8 (.bool true) v19).bind fun v20 =>
k .ret ⟨ar 24 (up x [(2,v0),(3,v2),(4,v20),(5,v4),(6,v5),(7,v6),(8,v7),(9,v8),(10,v8),(11,v9),(12,v10),(13,v11),(14,v12),(15,v13),(16,(gdV (wt v8 false) v13)),(17,v14),(18,v15),(19,v16),(20,v17),(21,v18),(22,v19),(23,v20)]), h3⟩ := by kernel_rfl
theorem call62 (a0 a1 : Value) : evC Try.prog 62 #[a0,a1] h = cK c62_0 24 (up un [(0,a0),(1,a1)]) (nm h) (retK Try.f62 Try.prog h) :=
  (evC_call 62 Try.f62 c62_0 Try.func62 (by kernel_rfl) #[a0,a1] h).trans (by kernel_rfl)
theorem ret62 : retK Try.f62 Try.prog g .ret ⟨ar 24 x, h⟩ = fin g (some (x 4)) h := by kernel_rfl
end Go.Am
namespace Go.Am
open Go.Proofs
set_option maxRecDepth 100000
variable {β : Type} (x : Nat → Value) (h : Heap) (k : Ex → St → Option β) (r m : List Nat) (g : Heap)
noncomputable def c32_0 : Code := bodyC Try.f32 []
noncomputable def c32_1 : Code := bodyC Try.f32 [true, false, true, false, false]
noncomputable def c32_2 : Code := bodyC Try.f32 [true, true]
theorem c32_0_eq : cK c32_0 33 x h k =
lK c32_1 33 (up x [(2,(.bool false)),(3,(.int .i64 0))]) h (blockK 0 (sK c32_2 k)) := by kernel_rfl
theorem c32_1_eq : cK c32_1 33 x h k =
(ln 51 (x 0) h).bind fun v0 =>
(bn .lss 3 (x 3) v0).bind fun v1 =>
cnd v1 (
(ia 51 (x 0) (x 3)).bind fun v2 =>
(ld 72 v2 h).bind fun v3 =>
obH (ev 61 #[v3] h) fun v4 h5 =>
(unV Try.prog .not v4).bind fun v6 =>
(gd (wt v6 false) (bn .gtr 3 (gdV (wt v6 false) (x 3)) (.int .i64 0))).bind fun v7 =>
(gd (wt (gdV (wt v6 false) v7) true) (bn .sub 3 (gdV (wt (gdV (wt v6 false) v7) true) (x 3)) (.int .i64 1))).bind fun v8 =>
(gd (wt (gdV (wt v6 false) v7) true) (ia 51 (gdV (wt (gdV (wt v6 false) v7) true) (x 0)) v8)).bind fun v9 =>
(gd (wt (gdV (wt v6 false) v7) true) (ld 72 v9 h5)).bind fun v10 =>
(gd (wt (gdV (wt v6 false) v7) true) (ia 51 (gdV (wt (gdV (wt v6 false) v7) true) (x 0)) (gdV (wt (gdV (wt v6 false) v7) true) (x 3)))).bind fun v11 =>
(gd (wt (gdV (wt v6 false) v7) true) (ld 72 v11 h5)).bind fun v12 =>
obH (gdH (wt (gdV (wt v6 false) v7) true) h5 (ev 62 #[v10,v12] h5)) fun v13 h14 =>
(gd (wt (gdV (wt v6 false) v7) true) (unV Try.prog .not v13)).bind fun v15 =>
(gd (wt v6 false) (pickV (gdV (wt v6 false) v7) v15 (.bool false))).bind fun v16 =>
(pickV v6 (.bool true) v16).bind fun v17 =>
cnd v17 (
k .ret ⟨ar 33 (up x [(2,(.bool false)),(4,(x 3)),(5,(x 0)),(6,v0),(7,v1),(10,(x 0)),(11,(x 3)),(12,v2),(13,v3),(14,v4),(15,v6),(16,v6),(17,(gdV (wt v6 false) (x 3))),(18,v7),(19,(gdV (wt v6 false) v7)),(20,(gdV (wt (gdV (wt v6 false) v7) true) (x 0))),(21,(gdV (wt (gdV (wt v6 false) v7) true) (x 3))),(22,v8),(23,v9),(24,v10),(25,(gdV (wt (gdV (wt v6 false) v7) true) (x 0))),(26,(gdV (wt (gdV (wt v6 false) v7) true) (x 3))),(27,v11),(28,v12),(29,v13),(30,v15),(31,v16),(32,v17)]), h14⟩) (
(bn .add 3 (x 3) (.int .i64 1)).bind fun v18 =>
k .normal ⟨ar 33 (up x [(3,v18),(4,(x 3)),(5,(x 0)),(6,v0),(7,v1),(8,(x 3)),(9,v18),(10,(x 0)),(11,(x 3)),(12,v2),(13,v3),(14,v4),(15,v6),(16,v6),(17,(gdV (wt v6 false) (x 3))),(18,v7),(19,(gdV (wt v6 false) v7)),(20,(gdV (wt (gdV (wt v6 false) v7) true) (x 0))),(21,(gdV (wt (gdV (wt v6 false) v7) true) (x 3))),(22,v8),(23,v9),(24,v10),(25,(gdV (wt (gdV (wt v6 false) v7) true) (x 0))),(26,(gdV (wt (gdV (wt v6 false) v7) true) (x 3))),(27,v11),(28,v12),(29,v13),(30,v15),(31,v16),(32,v17)]), h14⟩)) (
k (.exit 0) ⟨ar 33 (up x [(4,(x 3)),(5,(x 0)),(6,v0),(7,v1)]), h⟩) := by kernel_rfl
theorem c32_2_eq : cK c32_2 33 x h k =
k .ret ⟨ar 33 (up x [(2,(.bool true))]), h⟩ := by kernel_rfl
theorem call32 (a0 : Value) : evC Try.prog 32 #[a0] h = cK c32_0 33 (up un [(0,a0)]) (nm h) (retK Try.f32 Try.prog h) :=
  (evC_call 32 Try.f32 c32_0 Try.func32 (by kernel_rfl) #[a0] h).trans (by kernel_rfl)
theorem ret32 : retK Try.f32 Try.prog g .ret ⟨ar 33 x, h⟩ = fin g (some (x 2)) h := by kernel_rfl
end Go.Am
namespace Go.Am
open Go.Proofs
set_option maxRecDepth 100000
variable {β : Type} (x : Nat → Value) (h : Heap) (k : Ex → St → Option β) (r m : List Nat) (g : Heap)
noncomputable def c39_0 : Code := bodyC Try.f39 []
noncomputable def c39_1 : Code := bodyC Try.f39 [true, true, true, true, false, true, false, false]
noncomputable def c39_2 : Code := bodyC Try.f39 [true, true, true, true, true]
theorem c39_0_eq : cK c39_0 47 x h k =
obH (ev 32 #[x 0] h) fun v0 h1 =>
(unV Try.prog .not v0).bind fun v2 =>
cnd v2 (
k .ret ⟨ar 47 (up x [(2,(.slice Option.none 0 0)),(5,(x 0)),(6,v0),(7,v2)]), h1⟩) (
(buildV Try.prog 118 #[]).bind fun v3 =>
obH (boxV Try.prog 118 v3 h1) fun v4 h5 =>
(ln 51 (x 0) h5).bind fun v6 =>
obH (cv 3 35 v6 h5) fun v7 h8 =>
obH (ev 65 #[v4,v7] h8) fun v9 h10 =>
lK c39_1 47 (up x [(2,(.slice Option.none 0 0)),(3,v4),(4,(.int .i64 0)),(5,(x 0)),(6,v0),(7,v2),(8,v3),(9,v4),(10,v4),(11,(x 0)),(12,v6),(13,v7),(14,v9)]) h10 (blockK 0 (sK c39_2 k))) := by kernel_rfl
theorem c39_1_eq : cK c39_1 47 x h k =
(ln 51 (x 0) h).bind fun v11 =>
(bn .lss 3 (x 4) v11).bind fun v12 =>
cnd v12 (
(ia 51 (x 0) (x 4)).bind fun v13 =>
(fa 72 v13 0).bind fun v14 =>
(ld 3 v14 h).bind fun v15 =>
obH (cv 3 35 v15 h) fun v16 h17 =>
obH (ev 65 #[x 3,v16] h17) fun v18 h19 =>
(ia 51 (x 0) (x 4)).bind fun v20 =>
(fa 72 v20 1).bind fun v21 =>
(ld 35 v21 h19).bind fun v22 =>
obH (ev 65 #[x 3,v22] h19) fun v23 h24 =>
(ia 51 (x 0) (x 4)).bind fun v25 =>
(fa 72 v25 2).bind fun v26 =>
(ld 35 v26 h24).bind fun v27 =>
obH (ev 65 #[x 3,v27] h24) fun v28 h29 =>
(bn .add 3 (x 4) (.int .i64 1)).bind fun v30 =>
k .normal ⟨ar 47 (up x [(4,v30),(15,(x 4)),(16,(x 0)),(17,v11),(18,v12),(19,(x 4)),(20,v30),(21,(x 3)),(22,(x 0)),(23,(x 4)),(24,v13),(25,v14),(26,v15),(27,v16),(28,v18),(29,(x 3)),(30,(x 0)),(31,(x 4)),(32,v20),(33,v21),(34,v22),(35,v23),(36,(x 3)),(37,(x 0)),(38,(x 4)),(39,v25),(40,v26),(41,v27),(42,v28)]), h29⟩) (
k (.exit 0) ⟨ar 47 (up x [(15,(x 4)),(16,(x 0)),(17,v11),(18,v12)]), h⟩) := by kernel_rfl
theorem c39_2_eq : cK c39_2 47 x h k =
(nilCheckV Try.prog (x 3)).bind fun v31 =>
(fa 118 v31 0).bind fun v32 =>
(ld 33 v32 h).bind fun v33 =>
k .ret ⟨ar 47 (up x [(2,v33),(43,(x 3)),(44,v31),(45,v32),(46,v33)]), h⟩ := by kernel_rfl
theorem call39 (a0 : Value) : evC Try.prog 39 #[a0] h = cK c39_0 47 (up un [(0,a0)]) (nm h) (retK Try.f39 Try.prog h) :=
  (evC_call 39 Try.f39 c39_0 Try.func39 (by kernel_rfl) #[a0] h).trans (by kernel_rfl)
theorem ret39 : retK Try.f39 Try.prog g .ret ⟨ar 47 x, h⟩ = fin g (some (x 2)) h := by kernel_rfl
end Go.Am
namespace Go.Am
open Go.Proofs
set_option maxRecDepth 100000
variable {β : Type} (x : Nat → Value) (h : Heap) (k : Ex → St → Option β) (r m : List Nat) (g : Heap)
end Go.Am
namespace Go.Am
open Go.Proofs
set_option maxRecDepth 100000
variable {β : Type} (x : Nat → Value) (h : Heap) (k : Ex → St → Option β) (r m : List Nat) (g : Heap)
noncomputable def c33_0 : Code := bodyC Try.f33 []
theorem c33_0_eq : cK c33_0 39 x h k =
obH (boxV Try.prog 47 (x 0) h) fun v0 h1 =>
obH (boxV Try.prog 57 (x 1) h1) fun v2 h3 =>
obH (allocV Try.prog 47 h3) fun v4 h5 =>
(ld 47 v0 h5).bind fun v6 =>
obH (ev 49 #[v6] h5) fun v7 h8 =>
(sto 47 v0 v7 h8).bind fun h9 =>
(ld 47 v0 h9).bind fun v10 =>
obH (ev 19 #[v10] h9) fun v11 h12 =>
(unV Try.prog .not v11).bind fun v13 =>
(gd (wt v13 false) (ld 57 v2 h12)).bind fun v14 =>
obH (gdH (wt v13 false) h12 (ev 47 #[v14] h12)) fun v15 h16 =>
(gd (wt v13 false) (unV Try.prog .not v15)).bind fun v17 =>
(pickV v13 (.bool true) v17).bind fun v18 =>
cnd v18 (
(ld 47 v0 h16).bind fun v19 =>
(sto 47 v4 v19 h16).bind fun h20 =>
k .ret ⟨ar 39 (up x [(2,v0),(3,v2),(4,v4),(7,v6),(8,v7),(9,v10),(10,v11),(11,v13),(12,v13),(13,v14),(14,v15),(15,v17),(16,v18),(17,v19)]), h20⟩) (
(fa 47 v0 0).bind fun v21 =>
(ld 45 v21 h16).bind fun v22 =>
(ld 57 v2 h16).bind fun v23 =>
obH (ev 51 #[v22,v23,(.func (.func 48) #[] #[])] h16) fun v24 h25 =>
(extractV v24 0).bind fun v26 =>
(extractV v24 1).bind fun v27 =>
cnd v27 (
(fa 47 v0 0).bind fun v28 =>
(ld 45 v28 h25).bind fun v29 =>
(ld 57 v2 h25).bind fun v30 =>
(ia 45 v29 v26).bind fun v31 =>
(sto 57 v31 v30 h25).bind fun h32 =>
(ld 47 v0 h32).bind fun v33 =>
(sto 47 v4 v33 h32).bind fun h34 =>
k .ret ⟨ar 39 (up x [(2,v0),(3,v2),(4,v4),(5,v26),(6,v27),(7,v6),(8,v7),(9,v10),(10,v11),(11,v13),(12,v13),(13,v14),(14,v15),(15,v17),(16,v18),(18,v24),(19,v21),(20,v22),(21,v23),(22,v24),(23,v26),(24,v27),(25,v27),(26,v28),(27,v29),(28,v26),(29,v30),(30,v31),(38,v33)]), h34⟩) (
(fa 47 v0 0).bind fun v35 =>
(ld 45 v35 h25).bind fun v36 =>
(ld 57 v2 h25).bind fun v37 =>
obH (buildSliceV Try.prog 45 1 #[(0, v37)] h25) fun v38 h39 =>
obH (ev 63 #[v36,v26,v38] h39) fun v40 h41 =>
(fa 47 v0 0).bind fun v42 =>
(sto 45 v42 v40 h41).bind fun h43 =>
(ld 47 v0 h43).bind fun v44 =>
(sto 47 v4 v44 h43).bind fun h45 =>
k .ret ⟨ar 39 (up x [(2,v0),(3,v2),(4,v4),(5,v26),(6,v27),(7,v6),(8,v7),(9,v10),(10,v11),(11,v13),(12,v13),(13,v14),(14,v15),(15,v17),(16,v18),(18,v24),(19,v21),(20,v22),(21,v23),(22,v24),(23,v26),(24,v27),(25,v27),(31,v35),(32,v36),(33,v26),(34,v37),(35,v38),(36,v40),(37,v42),(38,v44)]), h45⟩)) := by kernel_rfl
theorem call33 (a0 a1 : Value) : evC Try.prog 33 #[a0,a1] h = cK c33_0 39 (up un [(0,a0),(1,a1)]) (nm h) (retK Try.f33 Try.prog h) :=
  (evC_call 33 Try.f33 c33_0 Try.func33 (by kernel_rfl) #[a0,a1] h).trans (by kernel_rfl)
theorem ret33 : retK Try.f33 Try.prog g .ret ⟨ar 39 x, h⟩ = fin g (rvals ((ld 47 (x 4) h).bind fun r0 => some [r0])) h := by kernel_rfl
end Go.Am
namespace Go.Am
open Go.Proofs
set_option maxRecDepth 100000
variable {β : Type} (x : Nat → Value) (h : Heap) (k : Ex → St → Option β) (r m : List Nat) (g : Heap)
noncomputable def c37_0 : Code := bodyC Try.f37 []
noncomputable def c37_1 : Code := bodyC Try.f37 [true, true, true, false, true, false, false]
noncomputable def c37_2 : Code := bodyC Try.f37 [true, true, true, true]
theorem c37_0_eq : cK c37_0 50 x h k =
obH (ev 32 #[x 0] h) fun v0 h1 =>
(unV Try.prog .not v0).bind fun v2 =>
cnd v2 (
k .ret ⟨ar 50 (up x [(2,(x 0)),(5,(x 0)),(6,v0),(7,v2),(8,(x 0))]), h1⟩) (
lK c37_1 50 (up x [(2,(.slice Option.none 0 0)),(3,(.slice Option.none 0 0)),(4,(.int .i64 0)),(5,(x 0)),(6,v0),(7,v2)]) h1 (blockK 0 (sK c37_2 k))) := by kernel_rfl
theorem c37_1_eq : cK c37_1 50 x h k =
(ln 51 (x 0) h).bind fun v3 =>
(bn .lss 3 (x 4) v3).bind fun v4 =>
cnd v4 (
(ia 51 (x 0) (x 4)).bind fun v5 =>
(fa 72 v5 2).bind fun v6 =>
(ld 35 v6 h).bind fun v7 =>
(bn .neq 35 v7 (.int .u64 0)).bind fun v8 =>
(gd (wt v8 false) (bn .add 3 (gdV (wt v8 false) (x 4)) (.int .i64 1))).bind fun v9 =>
(gd (wt v8 false) (ln 51 (gdV (wt v8 false) (x 0)) h)).bind fun v10 =>
(gd (wt v8 false) (bn .eql 3 v9 v10)).bind fun v11 =>
(pickV v8 (.bool true) v11).bind fun v12 =>
(gd (wt v12 false) (bn .add 3 (gdV (wt v12 false) (x 4)) (.int .i64 1))).bind fun v13 =>
(gd (wt v12 false) (ia 51 (gdV (wt v12 false) (x 0)) v13)).bind fun v14 =>
(gd (wt v12 false) (fa 72 v14 0)).bind fun v15 =>
(gd (wt v12 false) (ld 3 v15 h)).bind fun v16 =>
(gd (wt v12 false) (ia 51 (gdV (wt v12 false) (x 0)) (gdV (wt v12 false) (x 4)))).bind fun v17 =>
(gd (wt v12 false) (fa 72 v17 0)).bind fun v18 =>
(gd (wt v12 false) (ld 3 v18 h)).bind fun v19 =>
(gd (wt v12 false) (bn .neq 3 v16 v19)).bind fun v20 =>
(pickV v12 (.bool true) v20).bind fun v21 =>
cnd v21 (
(ia 51 (x 0) (x 4)).bind fun v22 =>
(ld 72 v22 h).bind fun v23 =>
obH (buildSliceV Try.prog 51 1 #[(0, v23)] h) fun v24 h25 =>
obH (ap 51 (some 51) (x 3) v24 h25) fun v26 h27 =>
(bn .add 3 (x 4) (.int .i64 1)).bind fun v28 =>
k .normal ⟨ar 50 (up x [(3,v26),(4,v28),(9,(x 4)),(10,(x 0)),(11,v3),(12,v4),(13,(x 4)),(14,v28),(15,(x 0)),(16,(x 4)),(17,v5),(18,v6),(19,v7),(20,v8),(21,v8),(22,(gdV (wt v8 false) (x 4))),(23,v9),(24,(gdV (wt v8 false) (x 0))),(25,v10),(26,v11),(27,v12),(28,v12),(29,(gdV (wt v12 false) (x 0))),(30,(gdV (wt v12 false) (x 4))),(31,v13),(32,v14),(33,v15),(34,v16),(35,(gdV (wt v12 false) (x 0))),(36,(gdV (wt v12 false) (x 4))),(37,v17),(38,v18),(39,v19),(40,v20),(41,v21),(42,(x 3)),(43,(x 0)),(44,(x 4)),(45,v22),(46,v23),(47,v24),(48,v26)]), h27⟩) (
(bn .add 3 (x 4) (.int .i64 1)).bind fun v29 =>
k .normal ⟨ar 50 (up x [(4,v29),(9,(x 4)),(10,(x 0)),(11,v3),(12,v4),(13,(x 4)),(14,v29),(15,(x 0)),(16,(x 4)),(17,v5),(18,v6),(19,v7),(20,v8),(21,v8),(22,(gdV (wt v8 false) (x 4))),(23,v9),(24,(gdV (wt v8 false) (x 0))),(25,v10),(26,v11),(27,v12),(28,v12),(29,(gdV (wt v12 false) (x 0))),(30,(gdV (wt v12 false) (x 4))),(31,v13),(32,v14),(33,v15),(34,v16),(35,(gdV (wt v12 false) (x 0))),(36,(gdV (wt v12 false) (x 4))),(37,v17),(38,v18),(39,v19),(40,v20),(41,v21)]), h⟩)) (
k (.exit 0) ⟨ar 50 (up x [(9,(x 4)),(10,(x 0)),(11,v3),(12,v4)]), h⟩) := by kernel_rfl
theorem c37_2_eq : cK c37_2 50 x h k =
k .ret ⟨ar 50 (up x [(2,(x 3)),(49,(x 3))]), h⟩ := by kernel_rfl
theorem call37 (a0 : Value) : evC Try.prog 37 #[a0] h = cK c37_0 50 (up un [(0,a0)]) (nm h) (retK Try.f37 Try.prog h) :=
  (evC_call 37 Try.f37 c37_0 Try.func37 (by kernel_rfl) #[a0] h).trans (by kernel_rfl)
theorem ret37 : retK Try.f37 Try.prog g .ret ⟨ar 50 x, h⟩ = fin g (some (x 2)) h := by kernel_rfl
end Go.Am
namespace Go.Am
open Go.Proofs
set_option maxRecDepth 100000
variable {β : Type} (x : Nat → Value) (h : Heap) (k : Ex → St → Option β) (r m : List Nat) (g : Heap)
noncomputable def c36_0 : Code := bodyC Try.f36 []
noncomputable def c36_1 : Code := bodyC Try.f36 [true, true, true]
noncomputable def c36_2 : Code := bodyC Try.f36 [true, true, true, true, false, true, false, false]
noncomputable def c36_3 : Code := bodyC Try.f36 [true, true, true, true, true]
theorem c36_0_eq : cK c36_0 52 x h k =
obH (ev 32 #[x 0] h) fun v0 h1 =>
(unV Try.prog .not v0).bind fun v2 =>
cnd v2 (
k .ret ⟨ar 52 (up x [(6,(x 0)),(9,(x 0)),(10,v0),(11,v2),(12,(x 0))]), h1⟩) (
(bn .geq 3 (x 2) (.int .i64 0)).bind fun v3 =>
(gd (wt v3 true) (bn .leq 3 (gdV (wt v3 true) (x 2)) (.int .i64 63))).bind fun v4 =>
(pickV v3 v4 (.bool false)).bind fun v5 =>
cnd v5 (
obH (cv 3 114 (x 2) h1) fun v6 h7 =>
(bn .shl 35 (.int .u64 1) v6).bind fun v8 =>
(bn .andNot 35 (x 1) v8).bind fun v9 =>
cK c36_1 52 (up x [(1,v9),(6,(.slice Option.none 0 0)),(9,(x 0)),(10,v0),(11,v2),(13,(x 2)),(14,v3),(15,v3),(16,(gdV (wt v3 true) (x 2))),(17,v4),(18,v5),(19,(x 1)),(20,(x 2)),(21,v6),(22,v8),(23,v9)]) h7 k) (
cK c36_1 52 (up x [(6,(.slice Option.none 0 0)),(9,(x 0)),(10,v0),(11,v2),(13,(x 2)),(14,v3),(15,v3),(16,(gdV (wt v3 true) (x 2))),(17,v4),(18,v5)]) h1 k)) := by kernel_rfl
theorem c36_1_eq : cK c36_1 52 x h k =
lK c36_2 52 (up x [(7,(.slice Option.none 0 0)),(8,(.int .i64 0))]) h (blockK 0 (sK c36_3 k)) := by kernel_rfl
theorem c36_2_eq : cK c36_2 52 x h k =
(ln 51 (x 0) h).bind fun v10 =>
(bn .lss 3 (x 8) v10).bind fun v11 =>
cnd v11 (
(ia 51 (x 0) (x 8)).bind fun v12 =>
(fa 72 v12 0).bind fun v13 =>
(ld 3 v13 h).bind fun v14 =>
(ia 51 (x 0) (x 8)).bind fun v15 =>
(fa 72 v15 1).bind fun v16 =>
(ld 35 v16 h).bind fun v17 =>
(ia 51 (x 0) (x 8)).bind fun v18 =>
(fa 72 v18 2).bind fun v19 =>
(ld 35 v19 h).bind fun v20 =>
(bn .andNot 35 v20 (x 1)).bind fun v21 =>
(buildV Try.prog 72 #[(0, v14), (1, v17), (2, v21)]).bind fun v22 =>
obH (buildSliceV Try.prog 51 1 #[(0, v22)] h) fun v23 h24 =>
obH (ap 51 (some 51) (x 7) v23 h24) fun v25 h26 =>
(bn .add 3 (x 8) (.int .i64 1)).bind fun v27 =>
k .normal ⟨ar 52 (up x [(7,v25),(8,v27),(24,(x 8)),(25,(x 0)),(26,v10),(27,v11),(28,(x 8)),(29,v27),(30,(x 7)),(31,(x 0)),(32,(x 8)),(33,v12),(34,v13),(35,v14),(36,(x 0)),(37,(x 8)),(38,v15),(39,v16),(40,v17),(41,(x 0)),(42,(x 8)),(43,v18),(44,v19),(45,v20),(46,(x 1)),(47,v21),(48,v22),(49,v23),(50,v25)]), h26⟩) (
k (.exit 0) ⟨ar 52 (up x [(24,(x 8)),(25,(x 0)),(26,v10),(27,v11)]), h⟩) := by kernel_rfl
theorem c36_3_eq : cK c36_3 52 x h k =
k .ret ⟨ar 52 (up x [(6,(x 7)),(51,(x 7))]), h⟩ := by kernel_rfl
theorem call36 (a0 a1 a2 : Value) : evC Try.prog 36 #[a0,a1,a2] h = cK c36_0 52 (up un [(0,a0),(1,a1),(2,a2)]) (nm h) (retK Try.f36 Try.prog h) :=
  (evC_call 36 Try.f36 c36_0 Try.func36 (by kernel_rfl) #[a0,a1,a2] h).trans (by kernel_rfl)
theorem ret36 : retK Try.f36 Try.prog g .ret ⟨ar 52 x, h⟩ = fin g (some (x 6)) h := by kernel_rfl
end Go.Am
namespace Go.Am
open Go.Proofs
set_option maxRecDepth 100000
variable {β : Type} (x : Nat → Value) (h : Heap) (k : Ex → St → Option β) (r m : List Nat) (g : Heap)
noncomputable def c35_0 : Code := bodyC Try.f35 []
theorem c35_0_eq : cK c35_0 8 x h k =
obH (ev 36 #[x 0,x 1,(.int .i64 (-1))] h) fun v0 h1 =>
k .ret ⟨ar 8 (up x [(4,v0),(5,(x 0)),(6,(x 1)),(7,v0)]), h1⟩ := by kernel_rfl
theorem call35 (a0 a1 : Value) : evC Try.prog 35 #[a0,a1] h = cK c35_0 8 (up un [(0,a0),(1,a1)]) (nm h) (retK Try.f35 Try.prog h) :=
  (evC_call 35 Try.f35 c35_0 Try.func35 (by kernel_rfl) #[a0,a1] h).trans (by kernel_rfl)
theorem ret35 : retK Try.f35 Try.prog g .ret ⟨ar 8 x, h⟩ = fin g (some (x 4)) h := by kernel_rfl
end Go.Am
namespace Go.Am
open Go.Proofs
set_option maxRecDepth 100000
variable {β : Type} (x : Nat → Value) (h : Heap) (k : Ex → St → Option β) (r m : List Nat) (g : Heap)
noncomputable def c64_0 : Code := bodyC Try.f64 []
noncomputable def c64_1 : Code := bodyC Try.f64 [true, true, false, true, false, false]
noncomputable def c64_2 : Code := bodyC Try.f64 [true, true, true]
theorem c64_0_eq : cK c64_0 57 x h k =
obH (boxV Try.prog 72 (x 1) h) fun v0 h1 =>
lK c64_1 57 (up x [(3,v0),(4,(.int .i64 0)),(5,(.bool false)),(6,(.int .i64 (-1))),(7,(.bool false)),(8,(.int .i64 0))]) h1 (blockK 0 (sK c64_2 k)) := by kernel_rfl
theorem c64_1_eq : cK c64_1 57 x h k =
(ln 51 (x 0) h).bind fun v2 =>
(bn .lss 3 (x 8) v2).bind fun v3 =>
cnd v3 (
(ia 51 (x 0) (x 8)).bind fun v4 =>
(fa 72 v4 0).bind fun v5 =>
(ld 3 v5 h).bind fun v6 =>
(fa 72 (x 3) 0).bind fun v7 =>
(ld 3 v7 h).bind fun v8 =>
(bn .eql 3 v6 v8).bind fun v9 =>
(gd (wt v9 true) (ia 51 (gdV (wt v9 true) (x 0)) (gdV (wt v9 true) (x 8)))).bind fun v10 =>
(gd (wt v9 true) (fa 72 v10 1)).bind fun v11 =>
(gd (wt v9 true) (ld 35 v11 h)).bind fun v12 =>
(gd (wt v9 true) (fa 72 (x 3) 1)).bind fun v13 =>
(gd (wt v9 true) (ld 35 v13 h)).bind fun v14 =>
(gd (wt v9 true) (bn .eql 35 v12 v14)).bind fun v15 =>
(pickV v9 v15 (.bool false)).bind fun v16 =>
cnd v16 (
(gd (wt (x 7) false) (ia 51 (gdV (wt (x 7) false) (x 0)) (gdV (wt (x 7) false) (x 8)))).bind fun v17 =>
(gd (wt (x 7) false) (fa 72 v17 0)).bind fun v18 =>
(gd (wt (x 7) false) (ld 3 v18 h)).bind fun v19 =>
(gd (wt (x 7) false) (fa 72 (x 3) 0)).bind fun v20 =>
(gd (wt (x 7) false) (ld 3 v20 h)).bind fun v21 =>
(gd (wt (x 7) false) (bn .eql 3 v19 v21)).bind fun v22 =>
(gd (wt (gdV (wt (x 7) false) v22) true) (ia 51 (gdV (wt (gdV (wt (x 7) false) v22) true) (x 0)) (gdV (wt (gdV (wt (x 7) false) v22) true) (x 8)))).bind fun v23 =>
(gd (wt (gdV (wt (x 7) false) v22) true) (fa 72 v23 1)).bind fun v24 =>
(gd (wt (gdV (wt (x 7) false) v22) true) (ld 35 v24 h)).bind fun v25 =>
(gd (wt (gdV (wt (x 7) false) v22) true) (fa 72 (x 3) 1)).bind fun v26 =>
(gd (wt (gdV (wt (x 7) false) v22) true) (ld 35 v26 h)).bind fun v27 =>
(gd (wt (gdV (wt (x 7) false) v22) true) (bn .gtr 35 v25 v27)).bind fun v28 =>
(gd (wt (x 7) false) (pickV (gdV (wt (x 7) false) v22) v28 (.bool false))).bind fun v29 =>
(pickV (x 7) (.bool true) v29).bind fun v30 =>
(bn .add 3 (x 8) (.int .i64 1)).bind fun v31 =>
k .normal ⟨ar 57 (up x [(6,(x 8)),(7,v30),(8,v31),(9,(x 8)),(10,(x 0)),(11,v2),(12,v3),(13,(x 8)),(14,v31),(15,(x 0)),(16,(x 8)),(17,v4),(18,v5),(19,v6),(20,v7),(21,v8),(22,v9),(23,v9),(24,(gdV (wt v9 true) (x 0))),(25,(gdV (wt v9 true) (x 8))),(26,v10),(27,v11),(28,v12),(29,v13),(30,v14),(31,v15),(32,v16),(33,(x 8)),(34,(x 7)),(35,(x 7)),(36,(gdV (wt (x 7) false) (x 0))),(37,(gdV (wt (x 7) false) (x 8))),(38,v17),(39,v18),(40,v19),(41,v20),(42,v21),(43,v22),(44,(gdV (wt (x 7) false) v22)),(45,(gdV (wt (gdV (wt (x 7) false) v22) true) (x 0))),(46,(gdV (wt (gdV (wt (x 7) false) v22) true) (x 8))),(47,v23),(48,v24),(49,v25),(50,v26),(51,v27),(52,v28),(53,v29),(54,v30)]), h⟩) (
(gd (wt (x 7) false) (ia 51 (gdV (wt (x 7) false) (x 0)) (gdV (wt (x 7) false) (x 8)))).bind fun v32 =>
(gd (wt (x 7) false) (fa 72 v32 0)).bind fun v33 =>
(gd (wt (x 7) false) (ld 3 v33 h)).bind fun v34 =>
(gd (wt (x 7) false) (fa 72 (x 3) 0)).bind fun v35 =>
(gd (wt (x 7) false) (ld 3 v35 h)).bind fun v36 =>
(gd (wt (x 7) false) (bn .eql 3 v34 v36)).bind fun v37 =>
(gd (wt (gdV (wt (x 7) false) v37) true) (ia 51 (gdV (wt (gdV (wt (x 7) false) v37) true) (x 0)) (gdV (wt (gdV (wt (x 7) false) v37) true) (x 8)))).bind fun v38 =>
(gd (wt (gdV (wt (x 7) false) v37) true) (fa 72 v38 1)).bind fun v39 =>
(gd (wt (gdV (wt (x 7) false) v37) true) (ld 35 v39 h)).bind fun v40 =>
(gd (wt (gdV (wt (x 7) false) v37) true) (fa 72 (x 3) 1)).bind fun v41 =>
(gd (wt (gdV (wt (x 7) false) v37) true) (ld 35 v41 h)).bind fun v42 =>
(gd (wt (gdV (wt (x 7) false) v37) true) (bn .gtr 35 v40 v42)).bind fun v43 =>
(gd (wt (x 7) false) (pickV (gdV (wt (x 7) false) v37) v43 (.bool false))).bind fun v44 =>
(pickV (x 7) (.bool true) v44).bind fun v45 =>
(bn .add 3 (x 8) (.int .i64 1)).bind fun v46 =>
k .normal ⟨ar 57 (up x [(7,v45),(8,v46),(9,(x 8)),(10,(x 0)),(11,v2),(12,v3),(13,(x 8)),(14,v46),(15,(x 0)),(16,(x 8)),(17,v4),(18,v5),(19,v6),(20,v7),(21,v8),(22,v9),(23,v9),(24,(gdV (wt v9 true) (x 0))),(25,(gdV (wt v9 true) (x 8))),(26,v10),(27,v11),(28,v12),(29,v13),(30,v14),(31,v15),(32,v16),(34,(x 7)),(35,(x 7)),(36,(gdV (wt (x 7) false) (x 0))),(37,(gdV (wt (x 7) false) (x 8))),(38,v32),(39,v33),(40,v34),(41,v35),(42,v36),(43,v37),(44,(gdV (wt (x 7) false) v37)),(45,(gdV (wt (gdV (wt (x 7) false) v37) true) (x 0))),(46,(gdV (wt (gdV (wt (x 7) false) v37) true) (x 8))),(47,v38),(48,v39),(49,v40),(50,v41),(51,v42),(52,v43),(53,v44),(54,v45)]), h⟩)) (
k (.exit 0) ⟨ar 57 (up x [(9,(x 8)),(10,(x 0)),(11,v2),(12,v3)]), h⟩) := by kernel_rfl
theorem c64_2_eq : cK c64_2 57 x h k =
k .ret ⟨ar 57 (up x [(4,(x 6)),(5,(x 7)),(55,(x 6)),(56,(x 7))]), h⟩ := by kernel_rfl
theorem call64 (a0 a1 : Value) : evC Try.prog 64 #[a0,a1] h = cK c64_0 57 (up un [(0,a0),(1,a1)]) (nm h) (retK Try.f64 Try.prog h) :=
  (evC_call 64 Try.f64 c64_0 Try.func64 (by kernel_rfl) #[a0,a1] h).trans (by kernel_rfl)
theorem ret64 : retK Try.f64 Try.prog g .ret ⟨ar 57 x, h⟩ = fin g (some (.tuple #[x 4, (x 5)])) h := by kernel_rfl
end Go.Am
namespace Go.Am
open Go.Proofs
set_option maxRecDepth 100000
variable {β : Type} (x : Nat → Value) (h : Heap) (k : Ex → St → Option β) (r m : List Nat) (g : Heap)
noncomputable def c34_0 : Code := bodyC Try.f34 []
noncomputable def c34_1 : Code := bodyC Try.f34 [true, true, true, false, false, false]
noncomputable def c34_2 : Code := bodyC Try.f34 [true, true, true, true]
theorem c34_0_eq : cK c34_0 66 x h k =
obH (boxV Try.prog 72 (x 1) h) fun v0 h1 =>
obH (ev 32 #[x 0] h1) fun v2 h3 =>
(unV Try.prog .not v2).bind fun v4 =>
(gd (wt v4 false) (ld 72 v0 h3)).bind fun v5 =>
obH (gdH (wt v4 false) h3 (ev 61 #[v5] h3)) fun v6 h7 =>
(gd (wt v4 false) (unV Try.prog .not v6)).bind fun v8 =>
(pickV v4 (.bool true) v8).bind fun v9 =>
cnd v9 (
k .ret ⟨ar 66 (up x [(3,v0),(4,(x 0)),(7,(x 0)),(8,v2),(9,v4),(10,v4),(11,v5),(12,v6),(13,v8),(14,v9),(15,(x 0))]), h7⟩) (
lK c34_1 66 (up x [(3,v0),(4,(.slice Option.none 0 0)),(5,(.int .i64 0)),(7,(x 0)),(8,v2),(9,v4),(10,v4),(11,v5),(12,v6),(13,v8),(14,v9)]) h7 (blockK 0 (sK c34_2 k))) := by kernel_rfl
theorem c34_1_eq : cK c34_1 66 x h k =
(ln 51 (x 0) h).bind fun v10 =>
(bn .lss 3 (x 5) v10).bind fun v11 =>
(gd (wt v11 true) (ia 51 (gdV (wt v11 true) (x 0)) (gdV (wt v11 true) (x 5)))).bind fun v12 =>
(gd (wt v11 true) (ld 72 v12 h)).bind fun v13 =>
(gd (wt v11 true) (ld 72 (x 3) h)).bind fun v14 =>
obH (gdH (wt v11 true) h (ev 62 #[v13,v14] h)) fun v15 h16 =>
(pickV v11 v15 (.bool false)).bind fun v17 =>
cnd v17 (
(bn .add 3 (x 5) (.int .i64 1)).bind fun v18 =>
k .normal ⟨ar 66 (up x [(5,v18),(16,(x 5)),(17,(x 0)),(18,v10),(19,v11),(20,v11),(21,(gdV (wt v11 true) (x 0))),(22,(gdV (wt v11 true) (x 5))),(23,v12),(24,v13),(25,v14),(26,v15),(27,v17),(28,(x 5)),(29,v18)]), h16⟩) (
k (.exit 0) ⟨ar 66 (up x [(16,(x 5)),(17,(x 0)),(18,v10),(19,v11),(20,v11),(21,(gdV (wt v11 true) (x 0))),(22,(gdV (wt v11 true) (x 5))),(23,v12),(24,v13),(25,v14),(26,v15),(27,v17)]), h16⟩) := by kernel_rfl
theorem c34_2_eq : cK c34_2 66 x h k =
(sliceV Try.prog 51 (x 0) (some (x 5)) none none h).bind fun v19 =>
(ln 51 v19 h).bind fun v20 =>
(bn .gtr 3 v20 (.int .i64 0)).bind fun v21 =>
(gd (wt v21 true) (ia 51 (gdV (wt v21 true) v19) (.int .i64 0))).bind fun v22 =>
(gd (wt v21 true) (fa 72 v22 0)).bind fun v23 =>
(gd (wt v21 true) (ld 3 v23 h)).bind fun v24 =>
(gd (wt v21 true) (fa 72 (x 3) 0)).bind fun v25 =>
(gd (wt v21 true) (ld 3 v25 h)).bind fun v26 =>
(gd (wt v21 true) (bn .eql 3 v24 v26)).bind fun v27 =>
(pickV v21 v27 (.bool false)).bind fun v28 =>
(gd (wt v28 true) (ia 51 (gdV (wt v28 true) v19) (.int .i64 0))).bind fun v29 =>
(gd (wt v28 true) (fa 72 v29 1)).bind fun v30 =>
(gd (wt v28 true) (ld 35 v30 h)).bind fun v31 =>
(gd (wt v28 true) (fa 72 (x 3) 1)).bind fun v32 =>
(gd (wt v28 true) (ld 35 v32 h)).bind fun v33 =>
(gd (wt v28 true) (bn .eql 35 v31 v33)).bind fun v34 =>
(pickV v28 v34 (.bool false)).bind fun v35 =>
cnd v35 (
(sliceV Try.prog 51 v19 (some (.int .i64 1)) none none h).bind fun v36 =>
obH (buildSliceV Try.prog 51 0 #[] h) fun v37 h38 =>
(sliceV Try.prog 51 (x 0) none (some (x 5)) none h38).bind fun v39 =>
obH (ap 51 (some 51) v37 v39 (nm h38)) fun v40 h41 =>
(ld 72 (x 3) (am h41 h38)).bind fun v42 =>
obH (buildSliceV Try.prog 51 1 #[(0, v42)] (am h41 h38)) fun v43 h44 =>
obH (ap 51 (some 51) v40 v43 h44) fun v45 h46 =>
obH (ap 51 (some 51) v45 v36 h46) fun v47 h48 =>
chk ([(am h41 h38).blks.length] ++ ((rb (x 3)) ++ [])) (h41.mods ++ []) (
k .ret ⟨ar 66 (up x [(4,v47),(6,v36),(30,(x 0)),(31,(x 5)),(32,v19),(33,v19),(34,v20),(35,v21),(36,v21),(37,(gdV (wt v21 true) v19)),(38,v22),(39,v23),(40,v24),(41,v25),(42,v26),(43,v27),(44,v28),(45,v28),(46,(gdV (wt v28 true) v19)),(47,v29),(48,v30),(49,v31),(50,v32),(51,v33),(52,v34),(53,v35),(54,v19),(55,v36),(56,v37),(57,(x 0)),(58,(x 5)),(59,v39),(60,v40),(61,v42),(62,v43),(63,v45),(64,v36),(65,v47)]), h48⟩)) (
obH (buildSliceV Try.prog 51 0 #[] h) fun v49 h50 =>
(sliceV Try.prog 51 (x 0) none (some (x 5)) none h50).bind fun v51 =>
obH (ap 51 (some 51) v49 v51 (nm h50)) fun v52 h53 =>
(ld 72 (x 3) (am h53 h50)).bind fun v54 =>
obH (buildSliceV Try.prog 51 1 #[(0, v54)] (am h53 h50)) fun v55 h56 =>
obH (ap 51 (some 51) v52 v55 h56) fun v57 h58 =>
obH (ap 51 (some 51) v57 v19 h58) fun v59 h60 =>
chk ([(am h53 h50).blks.length] ++ ((rb (x 3)) ++ [])) (h53.mods ++ []) (
k .ret ⟨ar 66 (up x [(4,v59),(6,v19),(30,(x 0)),(31,(x 5)),(32,v19),(33,v19),(34,v20),(35,v21),(36,v21),(37,(gdV (wt v21 true) v19)),(38,v22),(39,v23),(40,v24),(41,v25),(42,v26),(43,v27),(44,v28),(45,v28),(46,(gdV (wt v28 true) v19)),(47,v29),(48,v30),(49,v31),(50,v32),(51,v33),(52,v34),(53,v35),(56,v49),(57,(x 0)),(58,(x 5)),(59,v51),(60,v52),(61,v54),(62,v55),(63,v57),(64,v19),(65,v59)]), h60⟩)) := by kernel_rfl
theorem call34 (a0 a1 : Value) : evC Try.prog 34 #[a0,a1] h = cK c34_0 66 (up un [(0,a0),(1,a1)]) (nm h) (retK Try.f34 Try.prog h) :=
  (evC_call 34 Try.f34 c34_0 Try.func34 (by kernel_rfl) #[a0,a1] h).trans (by kernel_rfl)
theorem ret34 : retK Try.f34 Try.prog g .ret ⟨ar 66 x, h⟩ = fin g (some (x 4)) h := by kernel_rfl
end Go.Am
namespace Go.Am
open Go.Proofs
set_option maxRecDepth 100000
variable {β : Type} (x : Nat → Value) (h : Heap) (k : Ex → St → Option β) (r m : List Nat) (g : Heap)
noncomputable def c38_0 : Code := bodyC Try.f38 []
noncomputable def c38_1 : Code := bodyC Try.f38 [true, true, true, false, true, false, false]
noncomputable def c38_2 : Code := bodyC Try.f38 [true, true, true, true]
noncomputable def c38_3 : Code := bodyC Try.f38 [true, true, true, true, false, true, false, false]
noncomputable def c38_4 : Code := bodyC Try.f38 [true, true, true, true, true]
theorem c38_0_eq : cK c38_0 98 x h k =
obH (ev 32 #[x 0] h) fun v0 h1 =>
(unV Try.prog .not v0).bind fun v2 =>
obH (gdH (wt v2 false) h1 (ev 32 #[(gdV (wt v2 false) (x 1))] h1)) fun v3 h4 =>
(gd (wt v2 false) (unV Try.prog .not v3)).bind fun v5 =>
(pickV v2 (.bool true) v5).bind fun v6 =>
cnd v6 (
k .ret ⟨ar 98 (up x [(4,(x 0)),(12,(x 0)),(13,v0),(14,v2),(15,v2),(16,(gdV (wt v2 false) (x 1))),(17,v3),(18,v5),(19,v6),(20,(x 0))]), h4⟩) (
lK c38_1 98 (up x [(4,(.slice Option.none 0 0)),(5,(.slice Option.none 0 0)),(6,(.int .i64 0)),(12,(x 0)),(13,v0),(14,v2),(15,v2),(16,(gdV (wt v2 false) (x 1))),(17,v3),(18,v5),(19,v6)]) h4 (blockK 0 (sK c38_2 k))) := by kernel_rfl
theorem c38_1_eq : cK c38_1 98 x h k =
(ln 51 (x 0) h).bind fun v7 =>
(bn .lss 3 (x 6) v7).bind fun v8 =>
cnd v8 (
(ia 51 (x 0) (x 6)).bind fun v9 =>
(ld 72 v9 h).bind fun v10 =>
obH (ev 64 #[x 1,v10] h) fun v11 h12 =>
(extractV v11 0).bind fun v13 =>
(extractV v11 1).bind fun v14 =>
(bn .geq 3 v13 (.int .i64 0)).bind fun v15 =>
cnd v15 (
(ia 51 (x 0) (x 6)).bind fun v16 =>
(fa 72 v16 0).bind fun v17 =>
(ld 3 v17 h12).bind fun v18 =>
(ia 51 (x 0) (x 6)).bind fun v19 =>
(fa 72 v19 1).bind fun v20 =>
(ld 35 v20 h12).bind fun v21 =>
(ia 51 (x 0) (x 6)).bind fun v22 =>
(fa 72 v22 2).bind fun v23 =>
(ld 35 v23 h12).bind fun v24 =>
(ia 51 (x 1) v13).bind fun v25 =>
(fa 72 v25 2).bind fun v26 =>
(ld 35 v26 h12).bind fun v27 =>
(bn .and 35 v24 v27).bind fun v28 =>
(buildV Try.prog 72 #[(0, v18), (1, v21), (2, v28)]).bind fun v29 =>
obH (ev 34 #[x 5,v29] h12) fun v30 h31 =>
(bn .add 3 (x 6) (.int .i64 1)).bind fun v32 =>
k .normal ⟨ar 98 (up x [(5,v30),(6,v32),(7,v13),(8,v14),(21,(x 6)),(22,(x 0)),(23,v7),(24,v8),(25,(x 6)),(26,v32),(27,v11),(28,(x 1)),(29,(x 0)),(30,(x 6)),(31,v9),(32,v10),(33,v11),(34,v13),(35,v14),(36,v13),(37,v15),(38,(x 5)),(39,(x 0)),(40,(x 6)),(41,v16),(42,v17),(43,v18),(44,(x 0)),(45,(x 6)),(46,v19),(47,v20),(48,v21),(49,(x 0)),(50,(x 6)),(51,v22),(52,v23),(53,v24),(54,(x 1)),(55,v13),(56,v25),(57,v26),(58,v27),(59,v28),(60,v29),(61,v30)]), h31⟩) (
(unV Try.prog .not v14).bind fun v33 =>
cnd v33 (
(ia 51 (x 0) (x 6)).bind fun v34 =>
(ld 72 v34 h12).bind fun v35 =>
obH (ev 34 #[x 5,v35] h12) fun v36 h37 =>
(bn .add 3 (x 6) (.int .i64 1)).bind fun v38 =>
k .normal ⟨ar 98 (up x [(5,v36),(6,v38),(7,v13),(8,v14),(21,(x 6)),(22,(x 0)),(23,v7),(24,v8),(25,(x 6)),(26,v38),(27,v11),(28,(x 1)),(29,(x 0)),(30,(x 6)),(31,v9),(32,v10),(33,v11),(34,v13),(35,v14),(36,v13),(37,v15),(62,v14),(63,v33),(64,(x 5)),(65,(x 0)),(66,(x 6)),(67,v34),(68,v35),(69,v36)]), h37⟩) (
(bn .add 3 (x 6) (.int .i64 1)).bind fun v39 =>
k .normal ⟨ar 98 (up x [(6,v39),(7,v13),(8,v14),(21,(x 6)),(22,(x 0)),(23,v7),(24,v8),(25,(x 6)),(26,v39),(27,v11),(28,(x 1)),(29,(x 0)),(30,(x 6)),(31,v9),(32,v10),(33,v11),(34,v13),(35,v14),(36,v13),(37,v15),(62,v14),(63,v33)]), h12⟩))) (
k (.exit 0) ⟨ar 98 (up x [(21,(x 6)),(22,(x 0)),(23,v7),(24,v8)]), h⟩) := by kernel_rfl
theorem c38_2_eq : cK c38_2 98 x h k =
lK c38_3 98 (up x [(9,(.int .i64 0))]) h (blockK 2 (sK c38_4 k)) := by kernel_rfl
theorem c38_3_eq : cK c38_3 98 x h k =
(ln 51 (x 1) h).bind fun v40 =>
(bn .lss 3 (x 9) v40).bind fun v41 =>
cnd v41 (
(ia 51 (x 1) (x 9)).bind fun v42 =>
(ld 72 v42 h).bind fun v43 =>
obH (ev 64 #[x 0,v43] h) fun v44 h45 =>
(extractV v44 0).bind fun v46 =>
(extractV v44 1).bind fun v47 =>
(bn .lss 3 v46 (.int .i64 0)).bind fun v48 =>
(gd (wt v48 true) (unV Try.prog .not (gdV (wt v48 true) v47))).bind fun v49 =>
(pickV v48 v49 (.bool false)).bind fun v50 =>
cnd v50 (
(ia 51 (x 1) (x 9)).bind fun v51 =>
(ld 72 v51 h45).bind fun v52 =>
obH (ev 34 #[x 5,v52] h45) fun v53 h54 =>
(bn .add 3 (x 9) (.int .i64 1)).bind fun v55 =>
k .normal ⟨ar 98 (up x [(5,v53),(9,v55),(10,v46),(11,v47),(70,(x 9)),(71,(x 1)),(72,v40),(73,v41),(74,(x 9)),(75,v55),(76,v44),(77,(x 0)),(78,(x 1)),(79,(x 9)),(80,v42),(81,v43),(82,v44),(83,v46),(84,v47),(85,v46),(86,v48),(87,v48),(88,(gdV (wt v48 true) v47)),(89,v49),(90,v50),(91,(x 5)),(92,(x 1)),(93,(x 9)),(94,v51),(95,v52),(96,v53)]), h54⟩) (
(bn .add 3 (x 9) (.int .i64 1)).bind fun v56 =>
k .normal ⟨ar 98 (up x [(9,v56),(10,v46),(11,v47),(70,(x 9)),(71,(x 1)),(72,v40),(73,v41),(74,(x 9)),(75,v56),(76,v44),(77,(x 0)),(78,(x 1)),(79,(x 9)),(80,v42),(81,v43),(82,v44),(83,v46),(84,v47),(85,v46),(86,v48),(87,v48),(88,(gdV (wt v48 true) v47)),(89,v49),(90,v50)]), h45⟩)) (
k (.exit 2) ⟨ar 98 (up x [(70,(x 9)),(71,(x 1)),(72,v40),(73,v41)]), h⟩) := by kernel_rfl
theorem c38_4_eq : cK c38_4 98 x h k =
k .ret ⟨ar 98 (up x [(4,(x 5)),(97,(x 5))]), h⟩ := by kernel_rfl
theorem call38 (a0 a1 : Value) : evC Try.prog 38 #[a0,a1] h = cK c38_0 98 (up un [(0,a0),(1,a1)]) (nm h) (retK Try.f38 Try.prog h) :=
  (evC_call 38 Try.f38 c38_0 Try.func38 (by kernel_rfl) #[a0,a1] h).trans (by kernel_rfl)
theorem ret38 : retK Try.f38 Try.prog g .ret ⟨ar 98 x, h⟩ = fin g (some (x 4)) h := by kernel_rfl
end Go.Am
namespace Go.Am
open Go.Proofs
set_option maxRecDepth 100000
variable {β : Type} (x : Nat → Value) (h : Heap) (k : Ex → St → Option β) (r m : List Nat) (g : Heap)
noncomputable def c8_0 : Code := bodyC Try.f8 []
noncomputable def c8_1 : Code := bodyC Try.f8 [false]
noncomputable def c8_2 : Code := bodyC Try.f8 [true]
noncomputable def c8_3 : Code := bodyC Try.f8 [true, false]
noncomputable def c8_4 : Code := bodyC Try.f8 [true, true]
noncomputable def c8_5 : Code := bodyC Try.f8 [true, true, false]
noncomputable def c8_6 : Code := bodyC Try.f8 [true, true, true]
noncomputable def c8_7 : Code := bodyC Try.f8 [true, true, true, false]
noncomputable def c8_8 : Code := bodyC Try.f8 [true, true, true, true]
noncomputable def c8_9 : Code := bodyC Try.f8 [true, true, true, true, false]
noncomputable def c8_10 : Code := bodyC Try.f8 [true, true, true, true, true]
noncomputable def c8_11 : Code := bodyC Try.f8 [true, true, true, true, true, false]
noncomputable def c8_12 : Code := bodyC Try.f8 [true, true, true, true, true, true]
noncomputable def d8_0 : Array Oper := opsC (bodyC Try.f8 [true, true, true, true, true, true, false])
noncomputable def c8_13 : Code := bodyC Try.f8 [true, true, true, true, true, true, false]
noncomputable def c8_14 : Code := bodyC Try.f8 [true, true, true, true, true, true, true]
theorem c8_0_eq : cK c8_0 110 x h k =
cK c8_1 110 x h (sK c8_2 k) := codeK_seq _ _ _ _ _ (by kernel_rfl) _ _
theorem c8_1_eq : cK c8_1 110 x h k =
obH (boxV Try.prog 57 (x 2) h) fun v0 h1 =>
k .normal ⟨ar 110 (up x [(7,v0),(10,(.bool false))]), h1⟩ := by kernel_rfl
theorem c8_2_eq : cK c8_2 110 x h k =
cK c8_3 110 x h (sK c8_4 k) := codeK_seq _ _ _ _ _ (by kernel_rfl) _ _
theorem c8_3_eq : cK c8_3 110 x h k =
obH (ev 18 #[] h) fun v2 h3 =>
(unV Try.prog .not v2).bind fun v4 =>
cnd v4 (
k .ret ⟨ar 110 (up x [(10,(.bool false)),(16,v2),(17,v4)]), h3⟩) (
k .normal ⟨ar 110 (up x [(16,v2),(17,v4)]), h3⟩) := by kernel_rfl
theorem c8_4_eq : cK c8_4 110 x h k =
cK c8_5 110 x h (sK c8_6 k) := codeK_seq _ _ _ _ _ (by kernel_rfl) _ _
theorem c8_5_eq : cK c8_5 110 x h k =
(ln 45 (x 0) h).bind fun v5 =>
(bn .gtr 3 v5 (.int .i64 40)).bind fun v6 =>
(gd (wt v6 false) (ln 45 (gdV (wt v6 false) (x 1)) h)).bind fun v7 =>
(gd (wt v6 false) (bn .gtr 3 v7 (.int .i64 40))).bind fun v8 =>
(pickV v6 (.bool true) v8).bind fun v9 =>
cnd v9 (
k .ret ⟨ar 110 (up x [(10,(.bool true)),(18,(x 0)),(19,v5),(20,v6),(21,v6),(22,(gdV (wt v6 false) (x 1))),(23,v7),(24,v8),(25,v9)]), h⟩) (
k .normal ⟨ar 110 (up x [(18,(x 0)),(19,v5),(20,v6),(21,v6),(22,(gdV (wt v6 false) (x 1))),(23,v7),(24,v8),(25,v9)]), h⟩) := by kernel_rfl
theorem c8_6_eq : cK c8_6 110 x h k =
cK c8_7 110 x h (sK c8_8 k) := codeK_seq _ _ _ _ _ (by kernel_rfl) _ _
theorem c8_7_eq : cK c8_7 110 x h k =
(buildV Try.prog 47 #[(0, (x 0))]).bind fun v10 =>
(buildV Try.prog 47 #[(0, (x 1))]).bind fun v11 =>
obH (allocV Try.prog 47 h) fun v12 h13 =>
obH (allocV Try.prog 47 h13) fun v14 h15 =>
(sto 47 v12 v10 h15).bind fun h16 =>
(sto 47 v14 v11 h16).bind fun h17 =>
k .normal ⟨ar 110 (up x [(11,v12),(12,v14),(26,(x 0)),(27,v10),(28,(x 1)),(29,v11)]), h17⟩ := by kernel_rfl
theorem c8_8_eq : cK c8_8 110 x h k =
cK c8_9 110 x h (sK c8_10 k) := codeK_seq _ _ _ _ _ (by kernel_rfl) _ _
theorem c8_9_eq : cK c8_9 110 x h k =
obH (ev 22 #[x 0] h) fun v18 h19 =>
obH (ev 22 #[x 1] h19) fun v20 h21 =>
k .normal ⟨ar 110 (up x [(13,v18),(14,v20),(30,(x 0)),(31,v18),(32,(x 1)),(33,v20)]), h21⟩ := by kernel_rfl
theorem c8_10_eq : cK c8_10 110 x h k =
cK c8_11 110 x h (sK c8_12 k) := codeK_seq _ _ _ _ _ (by kernel_rfl) _ _
theorem c8_11_eq : cK c8_11 110 x h k =
(fa 57 (x 7) 0).bind fun v22 =>
(ld 3 v22 h).bind fun v23 =>
(fa 57 (x 7) 1).bind fun v24 =>
(ld 35 v24 h).bind fun v25 =>
(fa 57 (x 7) 2).bind fun v26 =>
(ld 55 v26 h).bind fun v27 =>
(buildV Try.prog 72 #[(0, v23), (1, v25), (2, v27)]).bind fun v28 =>
obH (allocV Try.prog 72 h) fun v29 h30 =>
(sto 72 v29 v28 h30).bind fun h31 =>
k .normal ⟨ar 110 (up x [(15,v29),(34,v22),(35,v23),(36,v24),(37,v25),(38,v26),(39,v27),(40,v28)]), h31⟩ := by kernel_rfl
theorem c8_12_eq : cK c8_12 110 x h k =
cK c8_13 110 x h (sK c8_14 k) := codeK_seq _ _ _ _ _ (by kernel_rfl) _ _
theorem d8_0_0 (k : St → Option β) : rD d8_0 0 110 x h r m k =
(ld 47 (x 11) h).bind fun v32 =>
rD d8_0 1 110 (up x [(41,v32)]) h r m k := (regD_step _ _ d8_0 0 (by kernel_rfl) _ _ _ _).trans (by kernel_rfl)
theorem d8_0_1 (k : St → Option β) : rD d8_0 1 110 x h r m k =
obH (ev 19 #[x 41] h) fun v33 h34 =>
rD d8_0 2 110 (up x [(42,v33)]) h34 r m k := (regD_step _ _ d8_0 1 (by kernel_rfl) _ _ _ _).trans (by kernel_rfl)
theorem d8_0_2 (k : St → Option β) : rD d8_0 2 110 x h r m k =
rD d8_0 3 110 (up x [(43,(x 13))]) h r m k := regD_move _ _ d8_0 2 (by kernel_rfl) (by kernel_rfl) (by kernel_rfl) _ _ _ _ _ _ (by kernel_rfl) (by kernel_rfl)
theorem d8_0_3 (k : St → Option β) : rD d8_0 3 110 x h r m k =
obH (ev 32 #[x 43] h) fun v35 h36 =>
rD d8_0 4 110 (up x [(44,v35)]) h36 r m k := (regD_step _ _ d8_0 3 (by kernel_rfl) _ _ _ _).trans (by kernel_rfl)
theorem d8_0_4 (k : St → Option β) : rD d8_0 4 110 x h r m k =
(bn .eql 4 (x 42) (x 44)).bind fun v37 =>
rD d8_0 5 110 (up x [(45,v37)]) h r m k := (regD_step _ _ d8_0 4 (by kernel_rfl) _ _ _ _).trans (by kernel_rfl)
theorem d8_0_5 (k : St → Option β) : rD d8_0 5 110 x h r m k =
rD d8_0 6 110 (up x [(46,(x 45))]) h r m k := regD_move _ _ d8_0 5 (by kernel_rfl) (by kernel_rfl) (by kernel_rfl) _ _ _ _ _ _ (by kernel_rfl) (by kernel_rfl)
theorem d8_0_6 (k : St → Option β) : rD d8_0 6 110 x h r m k =
(gd (wt (x 46) true) (ld 47 (x 11) h)).bind fun v38 =>
rD d8_0 7 110 (up x [(47,v38)]) h r m k := (regD_step _ _ d8_0 6 (by kernel_rfl) _ _ _ _).trans (by kernel_rfl)
theorem d8_0_7 (k : St → Option β) : rD d8_0 7 110 x h r m k =
(gd (wt (x 46) true) (ld 57 (x 7) h)).bind fun v39 =>
rD d8_0 8 110 (up x [(48,v39)]) h r m k := (regD_step _ _ d8_0 7 (by kernel_rfl) _ _ _ _).trans (by kernel_rfl)
theorem d8_0_8 (k : St → Option β) : rD d8_0 8 110 x h r m k =
obH (gdH (wt (x 46) true) (nm h) (ev 33 #[x 47,x 48] (nm h))) fun v40 h41 =>
rD d8_0 9 110 (up x [(49,v40)]) (am h41 h) r (h41.mods ++ m) k := (regD_step _ _ d8_0 8 (by kernel_rfl) _ _ _ _).trans (by kernel_rfl)
theorem d8_0_9 (k : St → Option β) : rD d8_0 9 110 x h r m k =
(gd (wt (x 46) true) (fv 47 (x 49) 0)).bind fun v42 =>
rD d8_0 10 110 (up x [(50,v42)]) h r m k := (regD_step _ _ d8_0 9 (by kernel_rfl) _ _ _ _).trans (by kernel_rfl)
theorem d8_0_10 (k : St → Option β) : rD d8_0 10 110 x h r m k =
obH (gdH (wt (x 46) true) (nm h) (ev 22 #[x 50] (nm h))) fun v43 h44 =>
rD d8_0 11 110 (up x [(51,v43)]) (am h44 h) r (h44.mods ++ m) k := (regD_step _ _ d8_0 10 (by kernel_rfl) _ _ _ _).trans (by kernel_rfl)
theorem d8_0_11 (k : St → Option β) : rD d8_0 11 110 x h r m k =
rD d8_0 12 110 (up x [(52,(gdV (wt (x 46) true) (x 13)))]) h r m k := regD_move _ _ d8_0 11 (by kernel_rfl) (by kernel_rfl) (by kernel_rfl) _ _ _ _ _ _ (by kernel_rfl) (by kernel_rfl)
theorem d8_0_12 (k : St → Option β) : rD d8_0 12 110 x h r m k =
(gd (wt (x 46) true) (ld 72 (x 15) h)).bind fun v45 =>
rD d8_0 13 110 (up x [(53,v45)]) h (rdL (wt (x 46) true) (rb (x 15)) ++ r) m k := (regD_step _ _ d8_0 12 (by kernel_rfl) _ _ _ _).trans (by kernel_rfl)
theorem d8_0_13 (k : St → Option β) : rD d8_0 13 110 x h r m k =
obH (gdH (wt (x 46) true) h (ev 34 #[x 52,x 53] h)) fun v46 h47 =>
rD d8_0 14 110 (up x [(54,v46)]) h47 r m k := (regD_step _ _ d8_0 13 (by kernel_rfl) _ _ _ _).trans (by kernel_rfl)
theorem d8_0_14 (k : St → Option β) : rD d8_0 14 110 x h r m k =
obH (gdH (wt (x 46) true) h (ev 21 #[x 51,x 54] h)) fun v48 h49 =>
rD d8_0 15 110 (up x [(55,v48)]) h49 r m k := (regD_step _ _ d8_0 14 (by kernel_rfl) _ _ _ _).trans (by kernel_rfl)
theorem d8_0_15 (k : St → Option β) : rD d8_0 15 110 x h r m k =
(pickV (x 46) (x 55) (.bool false)).bind fun v50 =>
rD d8_0 16 110 (up x [(56,v50)]) h r m k := (regD_step _ _ d8_0 15 (by kernel_rfl) _ _ _ _).trans (by kernel_rfl)
theorem d8_0_16 (k : St → Option β) : rD d8_0 16 110 x h r m k =
rD d8_0 17 110 (up x [(57,(x 56))]) h r m k := regD_move _ _ d8_0 16 (by kernel_rfl) (by kernel_rfl) (by kernel_rfl) _ _ _ _ _ _ (by kernel_rfl) (by kernel_rfl)
theorem d8_0_17 (k : St → Option β) : rD d8_0 17 110 x h r m k =
(gd (wt (x 57) true) (ld 47 (x 11) h)).bind fun v51 =>
rD d8_0 18 110 (up x [(58,v51)]) h r m k := (regD_step _ _ d8_0 17 (by kernel_rfl) _ _ _ _).trans (by kernel_rfl)
theorem d8_0_18 (k : St → Option β) : rD d8_0 18 110 x h r m k =
rD d8_0 19 110 (up x [(59,(gdV (wt (x 57) true) (x 3)))]) h r m k := regD_move _ _ d8_0 18 (by kernel_rfl) (by kernel_rfl) (by kernel_rfl) _ _ _ _ _ _ (by kernel_rfl) (by kernel_rfl)
theorem d8_0_19 (k : St → Option β) : rD d8_0 19 110 x h r m k =
obH (gdH (wt (x 57) true) h (ev 24 #[x 58,x 59] h)) fun v52 h53 =>
rD d8_0 20 110 (up x [(60,v52)]) h53 r m k := (regD_step _ _ d8_0 19 (by kernel_rfl) _ _ _ _).trans (by kernel_rfl)
theorem d8_0_20 (k : St → Option β) : rD d8_0 20 110 x h r m k =
(gd (wt (x 57) true) (fv 47 (x 60) 0)).bind fun v54 =>
rD d8_0 21 110 (up x [(61,v54)]) h r m k := (regD_step _ _ d8_0 20 (by kernel_rfl) _ _ _ _).trans (by kernel_rfl)
theorem d8_0_21 (k : St → Option β) : rD d8_0 21 110 x h r m k =
obH (gdH (wt (x 57) true) h (ev 22 #[x 61] h)) fun v55 h56 =>
rD d8_0 22 110 (up x [(62,v55)]) h56 r m k := (regD_step _ _ d8_0 21 (by kernel_rfl) _ _ _ _).trans (by kernel_rfl)
theorem d8_0_22 (k : St → Option β) : rD d8_0 22 110 x h r m k =
rD d8_0 23 110 (up x [(63,(gdV (wt (x 57) true) (x 13)))]) h r m k := regD_move _ _ d8_0 22 (by kernel_rfl) (by kernel_rfl) (by kernel_rfl) _ _ _ _ _ _ (by kernel_rfl) (by kernel_rfl)
theorem d8_0_23 (k : St → Option β) : rD d8_0 23 110 x h r m k =
rD d8_0 24 110 (up x [(64,(gdV (wt (x 57) true) (x 3)))]) h r m k := regD_move _ _ d8_0 23 (by kernel_rfl) (by kernel_rfl) (by kernel_rfl) _ _ _ _ _ _ (by kernel_rfl) (by kernel_rfl)
theorem d8_0_24 (k : St → Option β) : rD d8_0 24 110 x h r m k =
obH (gdH (wt (x 57) true) h (ev 35 #[x 63,x 64] h)) fun v57 h58 =>
rD d8_0 25 110 (up x [(65,v57)]) h58 r m k := (regD_step _ _ d8_0 24 (by kernel_rfl) _ _ _ _).trans (by kernel_rfl)
theorem d8_0_25 (k : St → Option β) : rD d8_0 25 110 x h r m k =
obH (gdH (wt (x 57) true) h (ev 21 #[x 62,x 65] h)) fun v59 h60 =>
rD d8_0 26 110 (up x [(66,v59)]) h60 r m k := (regD_step _ _ d8_0 25 (by kernel_rfl) _ _ _ _).trans (by kernel_rfl)
theorem d8_0_26 (k : St → Option β) : rD d8_0 26 110 x h r m k =
(pickV (x 57) (x 66) (.bool false)).bind fun v61 =>
rD d8_0 27 110 (up x [(67,v61)]) h r m k := (regD_step _ _ d8_0 26 (by kernel_rfl) _ _ _ _).trans (by kernel_rfl)
theorem d8_0_27 (k : St → Option β) : rD d8_0 27 110 x h r m k =
rD d8_0 28 110 (up x [(68,(x 67))]) h r m k := regD_move _ _ d8_0 27 (by kernel_rfl) (by kernel_rfl) (by kernel_rfl) _ _ _ _ _ _ (by kernel_rfl) (by kernel_rfl)
theorem d8_0_28 (k : St → Option β) : rD d8_0 28 110 x h r m k =
(gd (wt (x 68) true) (ld 47 (x 11) h)).bind fun v62 =>
rD d8_0 29 110 (up x [(69,v62)]) h r m k := (regD_step _ _ d8_0 28 (by kernel_rfl) _ _ _ _).trans (by kernel_rfl)
theorem d8_0_29 (k : St → Option β) : rD d8_0 29 110 x h r m k =
rD d8_0 30 110 (up x [(70,(gdV (wt (x 68) true) (x 3)))]) h r m k := regD_move _ _ d8_0 29 (by kernel_rfl) (by kernel_rfl) (by kernel_rfl) _ _ _ _ _ _ (by kernel_rfl) (by kernel_rfl)
theorem d8_0_30 (k : St → Option β) : rD d8_0 30 110 x h r m k =
rD d8_0 31 110 (up x [(71,(gdV (wt (x 68) true) (x 4)))]) h r m k := regD_move _ _ d8_0 30 (by kernel_rfl) (by kernel_rfl) (by kernel_rfl) _ _ _ _ _ _ (by kernel_rfl) (by kernel_rfl)
theorem d8_0_31 (k : St → Option β) : rD d8_0 31 110 x h r m k =
obH (gdH (wt (x 68) true) h (ev 25 #[x 69,x 70,x 71] h)) fun v63 h64 =>
rD d8_0 32 110 (up x [(72,v63)]) h64 r m k := (regD_step _ _ d8_0 31 (by kernel_rfl) _ _ _ _).trans (by kernel_rfl)
theorem d8_0_32 (k : St → Option β) : rD d8_0 32 110 x h r m k =
(gd (wt (x 68) true) (fv 47 (x 72) 0)).bind fun v65 =>
rD d8_0 33 110 (up x [(73,v65)]) h r m k := (regD_step _ _ d8_0 32 (by kernel_rfl) _ _ _ _).trans (by kernel_rfl)
theorem d8_0_33 (k : St → Option β) : rD d8_0 33 110 x h r m k =
obH (gdH (wt (x 68) true) h (ev 22 #[x 73] h)) fun v66 h67 =>
rD d8_0 34 110 (up x [(74,v66)]) h67 r m k := (regD_step _ _ d8_0 33 (by kernel_rfl) _ _ _ _).trans (by kernel_rfl)
theorem d8_0_34 (k : St → Option β) : rD d8_0 34 110 x h r m k =
rD d8_0 35 110 (up x [(75,(gdV (wt (x 68) true) (x 13)))]) h r m k := regD_move _ _ d8_0 34 (by kernel_rfl) (by kernel_rfl) (by kernel_rfl) _ _ _ _ _ _ (by kernel_rfl) (by kernel_rfl)
theorem d8_0_35 (k : St → Option β) : rD d8_0 35 110 x h r m k =
rD d8_0 36 110 (up x [(76,(gdV (wt (x 68) true) (x 3)))]) h r m k := regD_move _ _ d8_0 35 (by kernel_rfl) (by kernel_rfl) (by kernel_rfl) _ _ _ _ _ _ (by kernel_rfl) (by kernel_rfl)
theorem d8_0_36 (k : St → Option β) : rD d8_0 36 110 x h r m k =
rD d8_0 37 110 (up x [(77,(gdV (wt (x 68) true) (x 4)))]) h r m k := regD_move _ _ d8_0 36 (by kernel_rfl) (by kernel_rfl) (by kernel_rfl) _ _ _ _ _ _ (by kernel_rfl) (by kernel_rfl)
theorem d8_0_37 (k : St → Option β) : rD d8_0 37 110 x h r m k =
obH (gdH (wt (x 68) true) h (ev 36 #[x 75,x 76,x 77] h)) fun v68 h69 =>
rD d8_0 38 110 (up x [(78,v68)]) h69 r m k := (regD_step _ _ d8_0 37 (by kernel_rfl) _ _ _ _).trans (by kernel_rfl)
theorem d8_0_38 (k : St → Option β) : rD d8_0 38 110 x h r m k =
obH (gdH (wt (x 68) true) h (ev 21 #[x 74,x 78] h)) fun v70 h71 =>
rD d8_0 39 110 (up x [(79,v70)]) h71 r m k := (regD_step _ _ d8_0 38 (by kernel_rfl) _ _ _ _).trans (by kernel_rfl)
theorem d8_0_39 (k : St → Option β) : rD d8_0 39 110 x h r m k =
(pickV (x 68) (x 79) (.bool false)).bind fun v72 =>
rD d8_0 40 110 (up x [(80,v72)]) h r m k := (regD_step _ _ d8_0 39 (by kernel_rfl) _ _ _ _).trans (by kernel_rfl)
theorem d8_0_40 (k : St → Option β) : rD d8_0 40 110 x h r m k =
rD d8_0 41 110 (up x [(81,(x 80))]) h r m k := regD_move _ _ d8_0 40 (by kernel_rfl) (by kernel_rfl) (by kernel_rfl) _ _ _ _ _ _ (by kernel_rfl) (by kernel_rfl)
theorem d8_0_41 (k : St → Option β) : rD d8_0 41 110 x h r m k =
(gd (wt (x 81) true) (ld 47 (x 11) h)).bind fun v73 =>
rD d8_0 42 110 (up x [(82,v73)]) h r m k := (regD_step _ _ d8_0 41 (by kernel_rfl) _ _ _ _).trans (by kernel_rfl)
theorem d8_0_42 (k : St → Option β) : rD d8_0 42 110 x h r m k =
obH (gdH (wt (x 81) true) h (ev 20 #[x 82] h)) fun v74 h75 =>
rD d8_0 43 110 (up x [(83,v74)]) h75 r m k := (regD_step _ _ d8_0 42 (by kernel_rfl) _ _ _ _).trans (by kernel_rfl)
theorem d8_0_43 (k : St → Option β) : rD d8_0 43 110 x h r m k =
(gd (wt (x 81) true) (fv 47 (x 83) 0)).bind fun v76 =>
rD d8_0 44 110 (up x [(84,v76)]) h r m k := (regD_step _ _ d8_0 43 (by kernel_rfl) _ _ _ _).trans (by kernel_rfl)
theorem d8_0_44 (k : St → Option β) : rD d8_0 44 110 x h r m k =
obH (gdH (wt (x 81) true) h (ev 22 #[x 84] h)) fun v77 h78 =>
rD d8_0 45 110 (up x [(85,v77)]) h78 r m k := (regD_step _ _ d8_0 44 (by kernel_rfl) _ _ _ _).trans (by kernel_rfl)
theorem d8_0_45 (k : St → Option β) : rD d8_0 45 110 x h r m k =
rD d8_0 46 110 (up x [(86,(gdV (wt (x 81) true) (x 13)))]) h r m k := regD_move _ _ d8_0 45 (by kernel_rfl) (by kernel_rfl) (by kernel_rfl) _ _ _ _ _ _ (by kernel_rfl) (by kernel_rfl)
theorem d8_0_46 (k : St → Option β) : rD d8_0 46 110 x h r m k =
obH (gdH (wt (x 81) true) h (ev 37 #[x 86] h)) fun v79 h80 =>
rD d8_0 47 110 (up x [(87,v79)]) h80 r m k := (regD_step _ _ d8_0 46 (by kernel_rfl) _ _ _ _).trans (by kernel_rfl)
theorem d8_0_47 (k : St → Option β) : rD d8_0 47 110 x h r m k =
obH (gdH (wt (x 81) true) h (ev 21 #[x 85,x 87] h)) fun v81 h82 =>
rD d8_0 48 110 (up x [(88,v81)]) h82 r m k := (regD_step _ _ d8_0 47 (by kernel_rfl) _ _ _ _).trans (by kernel_rfl)
theorem d8_0_48 (k : St → Option β) : rD d8_0 48 110 x h r m k =
(pickV (x 81) (x 88) (.bool false)).bind fun v83 =>
rD d8_0 49 110 (up x [(89,v83)]) h r m k := (regD_step _ _ d8_0 48 (by kernel_rfl) _ _ _ _).trans (by kernel_rfl)
theorem d8_0_49 (k : St → Option β) : rD d8_0 49 110 x h r m k =
rD d8_0 50 110 (up x [(90,(x 89))]) h r m k := regD_move _ _ d8_0 49 (by kernel_rfl) (by kernel_rfl) (by kernel_rfl) _ _ _ _ _ _ (by kernel_rfl) (by kernel_rfl)
theorem d8_0_50 (k : St → Option β) : rD d8_0 50 110 x h r m k =
(gd (wt (x 90) true) (ld 47 (x 11) h)).bind fun v84 =>
rD d8_0 51 110 (up x [(91,v84)]) h r m k := (regD_step _ _ d8_0 50 (by kernel_rfl) _ _ _ _).trans (by kernel_rfl)
theorem d8_0_51 (k : St → Option β) : rD d8_0 51 110 x h r m k =
(gd (wt (x 90) true) (ld 47 (x 12) h)).bind fun v85 =>
rD d8_0 52 110 (up x [(92,v85)]) h r m k := (regD_step _ _ d8_0 51 (by kernel_rfl) _ _ _ _).trans (by kernel_rfl)
theorem d8_0_52 (k : St → Option β) : rD d8_0 52 110 x h r m k =
obH (gdH (wt (x 90) true) h (ev 23 #[x 91,x 92] h)) fun v86 h87 =>
rD d8_0 53 110 (up x [(93,v86)]) h87 r m k := (regD_step _ _ d8_0 52 (by kernel_rfl) _ _ _ _).trans (by kernel_rfl)
theorem d8_0_53 (k : St → Option β) : rD d8_0 53 110 x h r m k =
(gd (wt (x 90) true) (fv 47 (x 93) 0)).bind fun v88 =>
rD d8_0 54 110 (up x [(94,v88)]) h r m k := (regD_step _ _ d8_0 53 (by kernel_rfl) _ _ _ _).trans (by kernel_rfl)
theorem d8_0_54 (k : St → Option β) : rD d8_0 54 110 x h r m k =
obH (gdH (wt (x 90) true) h (ev 22 #[x 94] h)) fun v89 h90 =>
rD d8_0 55 110 (up x [(95,v89)]) h90 r m k := (regD_step _ _ d8_0 54 (by kernel_rfl) _ _ _ _).trans (by kernel_rfl)
theorem d8_0_55 (k : St → Option β) : rD d8_0 55 110 x h r m k =
rD d8_0 56 110 (up x [(96,(gdV (wt (x 90) true) (x 13)))]) h r m k := regD_move _ _ d8_0 55 (by kernel_rfl) (by kernel_rfl) (by kernel_rfl) _ _ _ _ _ _ (by kernel_rfl) (by kernel_rfl)
theorem d8_0_56 (k : St → Option β) : rD d8_0 56 110 x h r m k =
rD d8_0 57 110 (up x [(97,(gdV (wt (x 90) true) (x 14)))]) h r m k := regD_move _ _ d8_0 56 (by kernel_rfl) (by kernel_rfl) (by kernel_rfl) _ _ _ _ _ _ (by kernel_rfl) (by kernel_rfl)
theorem d8_0_57 (k : St → Option β) : rD d8_0 57 110 x h r m k =
obH (gdH (wt (x 90) true) h (ev 38 #[x 96,x 97] h)) fun v91 h92 =>
rD d8_0 58 110 (up x [(98,v91)]) h92 r m k := (regD_step _ _ d8_0 57 (by kernel_rfl) _ _ _ _).trans (by kernel_rfl)
theorem d8_0_58 (k : St → Option β) : rD d8_0 58 110 x h r m k =
obH (gdH (wt (x 90) true) h (ev 21 #[x 95,x 98] h)) fun v93 h94 =>
rD d8_0 59 110 (up x [(99,v93)]) h94 r m k := (regD_step _ _ d8_0 58 (by kernel_rfl) _ _ _ _).trans (by kernel_rfl)
theorem d8_0_59 (k : St → Option β) : rD d8_0 59 110 x h r m k =
(pickV (x 90) (x 99) (.bool false)).bind fun v95 =>
rD d8_0 60 110 (up x [(100,v95)]) h r m k := (regD_step _ _ d8_0 59 (by kernel_rfl) _ _ _ _).trans (by kernel_rfl)
theorem d8_0_60 (k : St → Option β) : rD d8_0 60 110 x h r m k =
rD d8_0 61 110 (up x [(101,(x 100))]) h r m k := regD_move _ _ d8_0 60 (by kernel_rfl) (by kernel_rfl) (by kernel_rfl) _ _ _ _ _ _ (by kernel_rfl) (by kernel_rfl)
theorem d8_0_61 (k : St → Option β) : rD d8_0 61 110 x h r m k =
(gd (wt (x 101) true) (ld 47 (x 11) h)).bind fun v96 =>
rD d8_0 62 110 (up x [(102,v96)]) h r m k := (regD_step _ _ d8_0 61 (by kernel_rfl) _ _ _ _).trans (by kernel_rfl)
theorem d8_0_62 (k : St → Option β) : rD d8_0 62 110 x h r m k =
obH (gdH (wt (x 101) true) h (ev 31 #[x 102] h)) fun v97 h98 =>
rD d8_0 63 110 (up x [(103,v97)]) h98 r m k := (regD_step _ _ d8_0 62 (by kernel_rfl) _ _ _ _).trans (by kernel_rfl)
theorem d8_0_63 (k : St → Option β) : rD d8_0 63 110 x h r m k =
obH (gdH (wt (x 101) true) h (cv 33 9 (x 103) h)) fun v99 h100 =>
rD d8_0 64 110 (up x [(104,v99)]) h100 (rdL (wt (x 101) true) (rb (x 103)) ++ r) m k := (regD_step _ _ d8_0 63 (by kernel_rfl) _ _ _ _).trans (by kernel_rfl)
theorem d8_0_64 (k : St → Option β) : rD d8_0 64 110 x h r m k =
rD d8_0 65 110 (up x [(105,(gdV (wt (x 101) true) (x 13)))]) h r m k := regD_move _ _ d8_0 64 (by kernel_rfl) (by kernel_rfl) (by kernel_rfl) _ _ _ _ _ _ (by kernel_rfl) (by kernel_rfl)
theorem d8_0_65 (k : St → Option β) : rD d8_0 65 110 x h r m k =
obH (gdH (wt (x 101) true) (nm h) (ev 39 #[x 105] (nm h))) fun v101 h102 =>
rD d8_0 66 110 (up x [(106,v101)]) (am h102 h) r (h102.mods ++ m) k := (regD_step _ _ d8_0 65 (by kernel_rfl) _ _ _ _).trans (by kernel_rfl)
theorem d8_0_66 (k : St → Option β) : rD d8_0 66 110 x h r m k =
obH (gdH (wt (x 101) true) h (cv 33 9 (x 106) h)) fun v103 h104 =>
rD d8_0 67 110 (up x [(107,v103)]) h104 r m k := (regD_step _ _ d8_0 66 (by kernel_rfl) _ _ _ _).trans (by kernel_rfl)
theorem d8_0_67 (k : St → Option β) : rD d8_0 67 110 x h r m k =
(gd (wt (x 101) true) (bn .eql 9 (x 104) (x 107))).bind fun v105 =>
rD d8_0 68 110 (up x [(108,v105)]) h r m k := (regD_step _ _ d8_0 67 (by kernel_rfl) _ _ _ _).trans (by kernel_rfl)
theorem d8_0_68 (k : St → Option β) : rD d8_0 68 110 x h r m k =
(pickV (x 101) (x 108) (.bool false)).bind fun v106 =>
rD d8_0 69 110 (up x [(109,v106)]) h r m k := (regD_step _ _ d8_0 68 (by kernel_rfl) _ _ _ _).trans (by kernel_rfl)
theorem d8_0_69 (k : St → Option β) : rD d8_0 69 110 x h r m k =
rD d8_0 70 110 (up x [(10,(x 109))]) h r m k := regD_move _ _ d8_0 69 (by kernel_rfl) (by kernel_rfl) (by kernel_rfl) _ _ _ _ _ _ (by kernel_rfl) (by kernel_rfl)
theorem d8_0_70 (k : St → Option β) : rD d8_0 70 110 x h r m k =
chk r m (k ⟨ar 110 x, h⟩) := by kernel_rfl
theorem c8_13_eq : cK c8_13 110 x h k =
rD d8_0 0 110 x h [] [] (fun s => k .normal s) := by kernel_rfl
theorem c8_14_eq : cK c8_14 110 x h k =
k .ret ⟨ar 110 x, h⟩ := by kernel_rfl
theorem call8 (a0 a1 a2 a3 a4 : Value) : evC Try.prog 8 #[a0,a1,a2,a3,a4] h = cK c8_0 110 (up un [(0,a0),(1,a1),(2,a2),(3,a3),(4,a4)]) (nm h) (retK Try.f8 Try.prog h) :=
  (evC_call 8 Try.f8 c8_0 Try.func8 (by kernel_rfl) #[a0,a1,a2,a3,a4] h).trans (by kernel_rfl)
theorem ret8 : retK Try.f8 Try.prog g .ret ⟨ar 110 x, h⟩ = fin g (some (x 10)) h := by kernel_rfl
end Go.Am
