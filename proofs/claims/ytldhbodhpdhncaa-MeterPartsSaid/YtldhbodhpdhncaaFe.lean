/- Plain facts on float64: the nearest word to what does not pass q is not above q's word. No program in sight. -/
import Derived.Test.YtldhbodhpdhncaaFd
set_option linter.unusedSimpArgs false
set_option linter.unusedVariables false
namespace Go.Fl
open Ieee

theorem pow_split {a b : Nat} (h : b ≤ a) : 2 ^ a = 2 ^ (a - b) * 2 ^ b := by rw [← Nat.pow_add]; congr 1; omega
theorem nearest_le (s : Bool) (m mq : Nat) (place E : Int) (hm : m ≠ 0) (h1 : 4503599627370496 ≤ mq) (h2 : mq < 9007199254740992) (hE : -1074 ≤ E) (hE0 : E ≤ 0) (hp : place ≤ 0)
    (hv : m * 2 ^ (-E).toNat ≤ mq * 2 ^ (-place).toNat) :
    ∃ R, double.nearest s m place = double.word s R ∧ R ≤ (E + 1074).toNat * 4503599627370496 + mq := by
  unfold Format.nearest
  rw [if_neg hm]
  have e2 : double.binade = 4503599627370496 := by decide
  have e4 : double.leastPlace = -1074 := by decide
  have e6 : double.fractionBits = 52 := by decide
  simp only [e2, e4, e6]
  have hlt : m < 2 ^ (m.log2 + 1) := Nat.lt_log2_self
  have hge : 2 ^ m.log2 ≤ m := Nat.log2_self_le hm
  generalize m.log2 = L at *
  generalize hlast : max (place + (L : Int) - ((52 : Nat) : Int)) (-1074) = last
  refine ⟨_, rfl, Nat.le_trans (Nat.min_le_left _ _) ?_⟩
  have e53 : (9007199254740992 : Nat) = 2 ^ 53 := by decide
  rcases Int.lt_trichotomy last E with hc | hc | hc
  · have hk : Toward.even.cut s (m <<< (place - last).toNat) (last - place).toNat ≤ 9007199254740992 := by
      apply cut_le
      rw [Nat.shiftLeft_eq, e53]
      rcases Int.le_total place last with hq | hq
      · have z : (place - last).toNat = 0 := by omega
        rw [z, Nat.pow_zero, Nat.mul_one, ← Nat.pow_add]
        exact Nat.le_trans (Nat.le_of_lt hlt) (Nat.pow_le_pow_right (by decide) (by omega))
      · have z : (last - place).toNat = 0 := by omega
        rw [z, Nat.pow_zero, Nat.mul_one]
        have : m * 2 ^ (place - last).toNat ≤ 2 ^ (L + 1) * 2 ^ (place - last).toNat := Nat.mul_le_mul_right _ (Nat.le_of_lt hlt)
        rw [← Nat.pow_add] at this
        exact Nat.le_trans this (Nat.pow_le_pow_right (by decide) (by omega))
    have : (last - -1074).toNat + 1 ≤ (E + 1074).toNat := by omega
    omega
  · subst hc
    have hk : Toward.even.cut s (m <<< (place - last).toNat) (last - place).toNat ≤ mq := by
      apply cut_le
      rw [Nat.shiftLeft_eq]
      rcases Int.le_total place last with hq | hq
      · have z : (place - last).toNat = 0 := by omega
        rw [z, Nat.pow_zero, Nat.mul_one]
        have hb : (-last).toNat ≤ (-place).toNat := by omega
        have z2 : (last - place).toNat = (-place).toNat - (-last).toNat := by omega
        rw [z2]
        rw [pow_split hb, ← Nat.mul_assoc] at hv
        exact Nat.le_of_mul_le_mul_right hv (Nat.two_pow_pos _)
      · have z : (last - place).toNat = 0 := by omega
        rw [z, Nat.pow_zero, Nat.mul_one]
        have hb : (-place).toNat ≤ (-last).toNat := by omega
        have z2 : (place - last).toNat = (-last).toNat - (-place).toNat := by omega
        rw [z2]
        rw [pow_split hb, ← Nat.mul_assoc] at hv
        exact Nat.le_of_mul_le_mul_right hv (Nat.two_pow_pos _)
    have : (last - -1074).toNat = (last + 1074).toNat := by omega
    rw [this]; omega
  · exfalso
    have hl : last = place + (L : Int) - 52 := by omega
    have h3 : 2 ^ L * 2 ^ (-E).toNat ≤ mq * 2 ^ (-place).toNat := Nat.le_trans (Nat.mul_le_mul_right _ hge) hv
    have h4 : mq * 2 ^ (-place).toNat < 2 ^ 53 * 2 ^ (-place).toNat := Nat.mul_lt_mul_of_pos_right (by omega) (Nat.two_pow_pos _)
    rw [← Nat.pow_add] at h3 h4
    have h5 : 2 ^ (53 + (-place).toNat) ≤ 2 ^ (L + (-E).toNat) := Nat.pow_le_pow_right (by decide) (by omega)
    omega
end Go.Fl
