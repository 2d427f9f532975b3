/- The places of the bits of a number: plain laws of lowL: at most 64 below 2^64; a place is in it just where the bit is set; rising. -/
import Derived.Test.YtljoajjbhjdonaaDoorAllB
namespace Go.Proofs.YtljoajjbhjdonaaDoor
open Go.RowKit

theorem ctzFrom_more : ∀ (f x : Nat), x ≠ 0 → x < 2 ^ f → Lib.ctzFrom (f + 1) x = Lib.ctzFrom f x
  | 0, x, h, h2 => by simp at h2; omega
  | f + 1, x, h, h2 => by
    show (if x % 2 = 1 then 0 else 1 + Lib.ctzFrom (f + 1) (x / 2)) = (if x % 2 = 1 then 0 else 1 + Lib.ctzFrom f (x / 2))
    by_cases h1 : x % 2 = 1
    · rw [if_pos h1, if_pos h1]
    · rw [if_neg h1, if_neg h1, ctzFrom_more f (x / 2) (by omega) (by rw [Nat.pow_succ] at h2; omega)]
theorem ctz_two {x : Nat} (h : x ≠ 0) (h2 : 2 * x < 2 ^ 64) : Lib.ctz 64 (2 * x) = Lib.ctz 64 x + 1 := by
  unfold Lib.ctz
  rw [if_neg h, if_neg (by omega)]
  show Lib.ctzFrom (63 + 1) (2 * x) = Lib.ctzFrom (63 + 1) x + 1
  rw [ctzFrom_more 63 x h (by omega), Lib.ctzFrom, if_neg (by omega), show 2 * x / 2 = x by omega]
  omega
theorem ctz_odd (x : Nat) : Lib.ctz 64 (2 * x + 1) = 0 := by
  unfold Lib.ctz
  rw [if_neg (by omega)]
  show Lib.ctzFrom (63 + 1) (2 * x + 1) = 0
  rw [Lib.ctzFrom, if_pos (by omega)]
theorem and_two (x : Nat) : 2 * x &&& (2 * x - 1) = 2 * (x &&& (x - 1)) := by
  apply Nat.eq_of_testBit_eq
  intro i
  cases i with
  | zero => simp [Nat.testBit_zero]
  | succ i =>
    rw [Nat.testBit_and, Nat.testBit_succ, Nat.testBit_succ, Nat.testBit_succ, show 2 * x / 2 = x by omega, show (2 * x - 1) / 2 = x - 1 by omega, show 2 * (x &&& (x - 1)) / 2 = (x &&& (x - 1)) by omega, Nat.testBit_and]
theorem and_odd (x : Nat) : (2 * x + 1) &&& (2 * x) = 2 * x := by
  apply Nat.eq_of_testBit_eq
  intro i
  cases i with
  | zero => simp [Nat.testBit_zero]
  | succ i => rw [Nat.testBit_and, Nat.testBit_succ, Nat.testBit_succ, show (2 * x + 1) / 2 = x by omega, show 2 * x / 2 = x by omega, Bool.and_self]
theorem lowL_zero : lowL 0 = [] := by rw [lowL]; simp
theorem lowL_two : ∀ (x : Nat), 2 * x < 2 ^ 64 → lowL (2 * x) = (lowL x).map (· + 1) := by
  intro x
  induction x using Nat.strongRecOn with
  | _ x ih =>
    intro h
    by_cases h0 : x = 0
    · subst h0; rw [Nat.mul_zero, lowL_zero]; rfl
    · have hlt := and_pred_lt h0
      rw [lowL, dif_neg (by omega), ctz_two h0 h, and_two x, ih _ hlt (by omega)]
      conv => rhs; rw [lowL, dif_neg h0]
      simp
theorem lowL_odd (x : Nat) (h : 2 * x < 2 ^ 64) : lowL (2 * x + 1) = 0 :: (lowL x).map (· + 1) := by
  rw [lowL, dif_neg (by omega), ctz_odd, show 2 * x + 1 - 1 = 2 * x by omega, and_odd, lowL_two x h]
theorem lowL_len : ∀ (n x : Nat), n ≤ 64 → x < 2 ^ n → (lowL x).length ≤ n
  | 0, x, _, h => by rw [show x = 0 by simpa using h, lowL_zero]; simp
  | n + 1, x, hn, h => by
    have hp : (2 : Nat) ^ (n + 1) ≤ 2 ^ 64 := Nat.pow_le_pow_right (by decide) hn
    have ih := lowL_len n (x / 2) (by omega) (by rw [Nat.pow_succ] at h; omega)
    rcases Nat.mod_two_eq_zero_or_one x with e | e
    · rw [show x = 2 * (x / 2) by omega, lowL_two _ (by omega)]; simp; omega
    · rw [show x = 2 * (x / 2) + 1 by omega, lowL_odd _ (by omega)]; simp; omega
theorem lowL_mem : ∀ (n x : Nat), n ≤ 64 → x < 2 ^ n → ∀ j, j ∈ lowL x ↔ x.testBit j = true
  | 0, x, _, h, j => by rw [show x = 0 by simpa using h, lowL_zero]; simp
  | n + 1, x, hn, h, j => by
    have hp : (2 : Nat) ^ (n + 1) ≤ 2 ^ 64 := Nat.pow_le_pow_right (by decide) hn
    have ih := lowL_mem n (x / 2) (by omega) (by rw [Nat.pow_succ] at h; omega)
    cases j with
    | zero =>
      rw [Nat.testBit_zero]
      rcases Nat.mod_two_eq_zero_or_one x with e | e
      · rw [show x = 2 * (x / 2) by omega, lowL_two _ (by omega)]; simp
      · rw [show x = 2 * (x / 2) + 1 by omega, lowL_odd _ (by omega)]; simp
    | succ j =>
      rw [Nat.testBit_succ, ← ih]
      rcases Nat.mod_two_eq_zero_or_one x with e | e
      · conv => lhs; rw [show x = 2 * (x / 2) by omega, lowL_two _ (by omega)]
        simp
      · conv => lhs; rw [show x = 2 * (x / 2) + 1 by omega, lowL_odd _ (by omega)]
        simp
theorem preB_len (c : Nat → Nat) (hc : ∀ k, c k < 18446744073709551616) : ∀ k, (preB c k).length ≤ 64 * k
  | 0 => by simp [preB]
  | k + 1 => by
    have h1 := preB_len c hc k
    have h2 := lowL_len 64 (c k) (Nat.le_refl _) (hc k)
    rw [preB_succ]; simp [wordB]; omega
end Go.Proofs.YtljoajjbhjdonaaDoor
