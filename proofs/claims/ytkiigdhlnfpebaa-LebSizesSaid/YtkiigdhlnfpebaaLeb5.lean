/- The law LebSizes, in the machine. -/
import Derived.Test.YtkiigdhlnfpebaaLeb4
import Derived.Test.YtkiigdhlnfpebaaF4
namespace Go.Am
open Go.Proofs
theorem sizeN_pos (n : Nat) : 1 ≤ sizeN n := by rw [sizeN]; split <;> omega
theorem sizeN_up (n : Nat) (h : 0 < n) : sizeN (n * 128 + 5) = sizeN n + 1 := by
  rw [sizeN, if_neg (by omega), show (n * 128 + 5) / 128 = n by omega]
theorem sizeN_ge (n : Nat) : ∀ k, 2 ^ (7 * k) ≤ n → k + 1 ≤ sizeN n := by
  induction n using Nat.strongRecOn with
  | _ n ih =>
    intro k hk
    cases k with
    | zero => have := sizeN_pos n; omega
    | succ k =>
      have e : 2 ^ (7 * (k + 1)) = 2 ^ (7 * k) * 128 := by rw [Nat.mul_add, Nat.pow_add]
      have hp : 0 < 2 ^ (7 * k) := Nat.two_pow_pos _
      rw [sizeN, if_neg (by omega)]
      have := ih (n / 128) (by omega) k (by rw [Nat.le_div_iff_mul_le (by omega)]; omega)
      omega
theorem mlaw_LebSizes (n : Nat) (hn : n < 2 ^ 64) (h : Heap) : ∃ h', evC Try.prog 4 #[.int .u64 n] h = some (.bool true, h') := by
  rw [call4, c4_0_eq]
  obtain ⟨h1, e1, e2⟩ := spec_awake3 (nm h)
  have hs1 := sizeN_pos n
  have hs10 := sizeN_le n 10 (by omega) (by omega)
  rw [e1, obH_some', un_not, Option.bind_some]
  simp only [Bool.not_true, cnd_false]
  rw [spec_Size n hn, obH_some', bin_lss, Option.bind_some, decide_eq_false (show ¬ ((sizeN n : Nat) : Int) < 1 by omega)]
  simp only [wt_ff]
  simp only [gd_true, gdV_true]
  rw [bin_gtr, Option.bind_some, decide_eq_false (show ¬ ((sizeN n : Nat) : Int) > 10 by omega), pickV_false, Option.bind_some]
  simp only [wt_ff]
  simp only [gd_true, gdV_true, gdH_true]
  obtain ⟨v, h2, f1, f2, f3⟩ := spec_Put n hn h1 (.slice none 0 0) 0 [] .nil (by omega) rfl
  rw [f1, obH_some', f3.row.len_eq etB.under, Option.bind_some, bin_neq, Option.bind_some, decide_eq_false (show ¬ (((0 + sizeN n : Nat) : Int) ≠ ((sizeN n : Nat) : Int)) by omega), pickV_false, Option.bind_some]
  rw [cnd_false, bin_geq, Option.bind_some, cnd_dec]
  by_cases hb : 2 ^ 57 ≤ n
  · rw [if_pos (show (n : Int) ≥ 144115188075855872 by omega), bin_geq, Option.bind_some, ret4, fin_done]
    have := sizeN_ge n 8 (by omega)
    rw [decide_eq_true (show ((sizeN n : Nat) : Int) ≥ 9 by omega)]
    exact ⟨_, rfl⟩
  · rw [if_neg (show ¬ (n : Int) ≥ 144115188075855872 by omega)]
    rw [bin_shl _ _ _ _ _ _ _ (show (0 : Int) ≤ 7 by omega), Option.bind_some]
    have s1 : IntKind.wrap .u64 ((n : Int) * 2 ^ min (7 : Int).toNat IntKind.u64.bits) = ((n * 128 : Nat) : Int) := by
      show IntKind.wrap .u64 ((n : Int) * 128) = _
      rw [wrap_u64] <;> omega
    have s2 : n * 128 ||| 5 = n * 128 + 5 := by
      have := Nat.two_pow_add_eq_or_of_lt (i := 7) (b := 5) (by omega) n
      rw [show n * 128 = 2 ^ 7 * n by omega]; exact this.symm
    rw [s1, show Value.int .u64 5 = .int .u64 ((5 : Nat) : Int) from rfl, or64 _ _ _ _ _ _ (by omega) (by omega), s2, Option.bind_some, spec_Size _ (by omega), obH_some', bin_add, Option.bind_some, bin_eql, Option.bind_some]
    have s3 : IntKind.wrap .i64 (((sizeN n : Nat) : Int) + 1) = ((sizeN n + 1 : Nat) : Int) := by rw [wrap_i64] <;> omega
    rw [s3]
    by_cases h0 : n = 0
    · subst h0
      by_cases hq : ((sizeN (0 * 128 + 5) : Nat) : Int) = ((sizeN 0 + 1 : Nat) : Int)
      · rw [decide_eq_true hq]
        simp only [wt_tf]
        simp only [gd_false, gdV_false]
        rw [Option.bind_some, pickV_true, Option.bind_some, ret4, fin_done]
        exact ⟨_, rfl⟩
      · rw [decide_eq_false hq]
        simp only [wt_ff]
        simp only [gd_true, gdV_true]
        rw [bin_eql, Option.bind_some, pickV_false, Option.bind_some, ret4, fin_done]
        exact ⟨_, rfl⟩
    · rw [sizeN_up n (by omega), decide_eq_true rfl]
      simp only [wt_tf]
      simp only [gd_false, gdV_false]
      rw [Option.bind_some, pickV_true, Option.bind_some, ret4, fin_done]
      exact ⟨_, rfl⟩
theorem law_LebSizes (h : Heap) (vs : List Value) (dd : List DT) (r : RdAll Try.prog h [22] vs dd) : ∃ h', evC Try.prog 4 vs.toArray h = some (.bool true, h') := by
  obtain ⟨v, d, vs', ds', rfl, rfl, r0, r1⟩ := r.cons_inv
  obtain ⟨rfl, rfl⟩ := r1.nil_inv
  obtain ⟨n, rfl, hn⟩ := r0.u64 (by kernel_rfl)
  exact mlaw_LebSizes n hn h
end Go.Am
