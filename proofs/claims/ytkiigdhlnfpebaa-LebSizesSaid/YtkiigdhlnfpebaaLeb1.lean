/- What leb's functions answer. -/
import Derived.Test.YtkiigdhlnfpebaaAm25
import Derived.Test.YtkiigdhlnfpebaaF19
import Derived.Test.YtkiigdhlnfpebaaF20
import Derived.Test.YtkiigdhlnfpebaaF21
import Derived.Test.YtkiigdhlnfpebaaF22
import Derived.Test.YtkiigdhlnfpebaaF18
namespace Go.Am
open Go.Proofs
/-- how many bytes a number takes -/
def sizeN (n : Nat) : Nat := if n < 128 then 1 else sizeN (n / 128) + 1
theorem sizeN_le (n : Nat) : ∀ k, n < 2 ^ (7 * k) → 1 ≤ k → sizeN n ≤ k := by
  induction n using Nat.strongRecOn with
  | _ n ih =>
    intro k hk h1
    rw [sizeN]
    split
    · omega
    · rename_i h
      obtain ⟨k, rfl⟩ : ∃ j, k = j + 1 := ⟨k - 1, by omega⟩
      have : 1 ≤ k := by
        rcases Nat.eq_zero_or_pos k with rfl | h'
        · simp at hk; omega
        · exact h'
      have := ih (n / 128) (by omega) k (by
        rw [Nat.div_lt_iff_lt_mul (by omega)]
        have e : 2 ^ (7 * (k + 1)) = 2 ^ (7 * k) * 128 := by rw [Nat.mul_add, Nat.pow_add]
        omega) this
      omega
theorem fdiv_128 (n : Nat) : Int.fdiv (n : Int) 128 = ((n / 128 : Nat) : Int) := by
  rw [Int.fdiv_eq_ediv_of_nonneg _ (by omega)]; omega
theorem size_loop (h0 h : Heap) (n : Nat) : ∀ (k : Nat) (x1 x2 x4 x5 x6 x7 x8 x9 x10 : Value), k + sizeN n < 1000 → 0 < k →
    loopK Try.prog (evC Try.prog) c19_1 ⟨#[.int .u64 n, x1, x2, .int .i64 k, x4, x5, x6, x7, x8, x9, x10], h⟩ (blockK 0 (seqK Try.prog (evC Try.prog) c19_2 (retK Try.f19 Try.prog h0))) =
      fin h0 (some (.int .i64 ((k - 1 + sizeN n : Nat) : Int))) h := by
  induction n using Nat.strongRecOn with
  | _ n ih =>
    intro k x1 x2 x4 x5 x6 x7 x8 x9 x10 hk hk0
    rw [loopK_eq evC_m, c19_1_eq]
    simp only [bin_geq, Option.bind_some, cnd_dec]
    split
    · rename_i hge
      have hge : 128 ≤ n := by omega
      rw [bin_shr _ _ _ _ _ _ _ (by omega)]
      simp only [Option.bind_some, bin_add, againK_normal]
      have e3 : sizeN n = sizeN (n / 128) + 1 := by rw [sizeN, if_neg (by omega)]
      have e1 : Int.fdiv (n : Int) (2 ^ min (Int.toNat 7) IntKind.u64.bits) = ((n / 128 : Nat) : Int) := fdiv_128 n
      have e2 : IntKind.wrap .i64 ((k : Int) + 1) = ((k + 1 : Nat) : Int) := by rw [wrap_i64] <;> omega
      rw [e1, e2, ih (n / 128) (by omega) (k + 1) _ _ _ _ _ _ _ _ _ (by omega) (by omega)]
      have e4 : k + 1 - 1 + sizeN (n / 128) = k - 1 + sizeN n := by omega
      rw [e4]
    · rename_i hlt
      have hlt : n < 128 := by omega
      simp only [againK_exit, blockK_same, seqK_normal]
      rw [c19_2_eq, ret19]
      have e3 : k - 1 + sizeN n = k := by rw [sizeN, if_pos hlt]; omega
      rw [e3]
theorem spec_Size (n : Nat) (hn : n < 2 ^ 64) (h : Heap) : evC Try.prog 19 #[.int .u64 n] h = some (.int .i64 (sizeN n), h) := by
  rw [call19, c19_0_eq]
  have := size_loop h (nm h) n 1 undef (Go.Value.int Go.IntKind.i64 0) undef undef undef undef undef undef undef (by have := sizeN_le n 10 (by omega) (by omega); omega) (by omega)
  simp only [Nat.sub_self, Nat.zero_add] at this
  exact this.trans (fin_same _ _)
end Go.Am
