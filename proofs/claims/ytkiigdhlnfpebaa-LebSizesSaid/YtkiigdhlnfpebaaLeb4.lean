/- leb's examples, awake. -/
import Derived.Test.YtkiigdhlnfpebaaLeb3
namespace Go.Am
open Go.Proofs
theorem put300 : putL 300 = [172, 2] := by rw [putL, if_neg (by omega), putL, if_pos (by omega)]; rfl
theorem size300 : sizeN 300 = 2 := by rw [sizeN, if_neg (by omega), sizeN, if_pos (by omega)]
theorem get300 : getL [172, 2] = (300, 2) := by
  unfold getL
  rw [getLoop, if_neg (by omega)]
  simp only []
  rw [if_neg (by decide), getLoop, if_neg (by omega)]
  simp only []
  rw [if_pos (by decide)]
  have e : (0 ||| (172 : UInt8).toNat % 128 * 2 ^ (7 * 0) % 2 ^ 64) ||| (2 : UInt8).toNat % 128 * 2 ^ (7 * (0 + 1)) % 2 ^ 64 = 300 := by decide
  rw [e, size300]
  rfl
theorem spec_awake3 (h : Heap) : ∃ h', evC Try.prog 18 #[] h = some (.bool true, h') ∧ HExt h h' := by
  rw [call18, c18_0_eq]
  obtain ⟨v, h1, e1, e2, e3⟩ := spec_Put 300 (by omega) (nm h) (.slice none 0 0) 0 [] .nil (by omega) rfl
  have e3' : Acc (nm h).blks.length h1 5 1 v 2 ([172, 2].map byteV) := by
    have := e3; rw [put300, size300] at this; exact this
  have r := e3'.row
  rw [show (Go.Value.int Go.IntKind.u64 300) = .int .u64 ((300 : Nat) : Int) from rfl, e1]
  simp only [obH_some']
  rw [spec_Get h1 v [172, 2] r (by decide), get300]
  simp only [obH_some', extractV_tuple]
  obtain ⟨a0, i0, l0, _⟩ := r.at1 (P := Try.prog) etB.under etB.size (by kernel_rfl) (i := 0) (by omega) .i64
  obtain ⟨a1, i1, l1, _⟩ := r.at1 (P := Try.prog) etB.under etB.size (by kernel_rfl) (i := 1) (by omega) .i64
  have x0 : (#[Value.int .u64 ((300 : Nat) : Int), Value.int .i64 ((2 : Nat) : Int)] : Array Value)[0]? = some (Value.int .u64 300) := rfl
  have x1 : (#[Value.int .u64 ((300 : Nat) : Int), Value.int .i64 ((2 : Nat) : Int)] : Array Value)[1]? = some (Value.int .i64 2) := rfl
  rw [x0, Option.bind_some, x1, Option.bind_some, r.len_eq etB.under, Option.bind_some, bin_eql, Option.bind_some]
  rw [show decide (((2 : Nat) : Int) = 2) = true from rfl]
  simp only [wt_tt]
  simp only [gd_true, gdV_true]
  rw [show (Value.int .i64 0) = Value.int .i64 ((0 : Nat) : Int) from rfl, i0, Option.bind_some, l0, show ([172, 2].map byteV)[0]? = some (Value.int .u8 172) from rfl, Option.bind_some, bin_eql, Option.bind_some,
    show decide ((172 : Int) = 172) = true from rfl, pickV_true, Option.bind_some]
  simp only [wt_tt]
  simp only [gd_true, gdV_true]
  rw [show (Value.int .i64 1) = Value.int .i64 ((1 : Nat) : Int) from rfl, i1, Option.bind_some, l1, show ([172, 2].map byteV)[1]? = some (Value.int .u8 2) from rfl, Option.bind_some, bin_eql, Option.bind_some,
    show decide ((2 : Int) = 2) = true from rfl, pickV_true, Option.bind_some]
  simp only [wt_tt]
  simp only [gd_true, gdV_true]
  rw [bin_eql, Option.bind_some, show decide ((300 : Int) = ((300 : Nat) : Int)) = true from rfl, pickV_true, Option.bind_some]
  simp only [wt_tt]
  simp only [gd_true, gdV_true]
  rw [bin_eql, Option.bind_some, show decide ((2 : Int) = 2) = true from rfl, pickV_true, Option.bind_some]
  simp only [wt_tt]
  simp only [gdH_true, gd_true, gdV_true]
  rw [spec_Size 300 (by omega), obH_some', size300, bin_eql, Option.bind_some, show decide (((2 : Nat) : Int) = 2) = true from rfl, pickV_true, Option.bind_some, ret18, fin_done]
  exact ⟨_, rfl, done_ext (e2.keeps (Nat.le_refl _))⟩
end Go.Am
