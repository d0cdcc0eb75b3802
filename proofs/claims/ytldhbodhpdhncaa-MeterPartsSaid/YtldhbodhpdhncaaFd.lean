/- Plain facts on float64: rounding to nearest does not pass a number that has a word. No program in sight. -/
import Derived.Test.YtldhbodhpdhncaaFc
set_option linter.unusedSimpArgs false
set_option linter.unusedVariables false
namespace Go.Fl
open Ieee

/-- Rounded to nearest, n / 2^k does not pass a whole number that it does not pass. -/
theorem cut_le (s : Bool) (n k q : Nat) (h : n ≤ q * 2 ^ k) : Toward.even.cut s n k ≤ q := by
  unfold Toward.cut
  simp only []
  by_cases hk : k ≤ n.log2 + 2
  · rw [Nat.min_eq_left hk, Nat.shiftLeft_eq, Nat.one_mul]
    have hp : 0 < 2 ^ k := Nat.two_pow_pos k
    have hd := Nat.div_add_mod n (2 ^ k)
    have hm := Nat.mod_lt n hp
    have h1 : n / 2 ^ k ≤ q := by
      rw [Nat.div_le_iff_le_mul_add_pred hp]
      have : q * 2 ^ k = 2 ^ k * q := Nat.mul_comm _ _
      omega
    by_cases h2 : n / 2 ^ k < q
    · have : ∀ b : Bool, b.toNat ≤ 1 := fun b => by cases b <;> simp
      exact Nat.le_trans (Nat.add_le_add_left (this _) _) h2
    · have h3 : n / 2 ^ k = q := by omega
      have h4 : n % 2 ^ k = 0 := by
        rw [h3] at hd
        have : q * 2 ^ k = 2 ^ k * q := Nat.mul_comm _ _
        omega
      rw [h4, h3]
      have hne : ¬ 2 ^ k < 2 * 0 := by omega
      have hne2 : (2 ^ k == 2 * 0) = false := by rw [beq_eq_false_iff_ne]; omega
      simp [hne2]
  · have hk2 : n.log2 + 2 ≤ k := by omega
    rw [Nat.min_eq_right hk2, Nat.shiftLeft_eq, Nat.one_mul]
    have hlt : n < 2 ^ (n.log2 + 1) := Nat.lt_log2_self
    have h2 : 2 ^ (n.log2 + 2) = 2 * 2 ^ (n.log2 + 1) := by rw [Nat.pow_succ, Nat.mul_comm]
    have h3 : n / 2 ^ (n.log2 + 2) = 0 := Nat.div_eq_of_lt (by omega)
    have h4 : n % 2 ^ (n.log2 + 2) = n := Nat.mod_eq_of_lt (by omega)
    rw [h3, h4]
    have hne : ¬ 2 ^ (n.log2 + 2) < 2 * n := by omega
    have hne2 : (2 ^ (n.log2 + 2) == 2 * n) = false := by rw [beq_eq_false_iff_ne]; omega
    simp [hne, hne2]
end Go.Fl
