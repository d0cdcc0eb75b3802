/- Plain facts on float64: whole numbers made floats, and parts of nothing. No program in sight. -/
import Derived.Test.YtldhbodhpdhncaaFa
import Derived.Laws.FloatArith
set_option linter.unusedSimpArgs false
set_option linter.unusedVariables false
namespace Go.Fl
open Ieee

theorem ofInt_form (n : Int) (hn : n ≠ 0) : ∃ R, floatOfInt .f64 n = (if n < 0 then 9223372036854775808 + R else R) ∧ 4503599627370496 ≤ R ∧ R ≤ 9218868437227405312 := by
  have hm : n.natAbs ≠ 0 := by omega
  show ∃ R, double.nearest (decide (n < 0)) n.natAbs 0 = _ ∧ _
  unfold Format.nearest
  rw [if_neg hm]
  have h2 : double.binade = 4503599627370496 := by decide
  have h3 : double.infRung = 9218868437227405312 := by decide
  have h4 : double.leastPlace = -1074 := by decide
  have h5 : double.signWeight = 9223372036854775808 := by decide
  have h6 : double.fractionBits = 52 := by decide
  simp only [h2, h3, h4, h6]
  generalize hl : max ((0 : Int) + (n.natAbs.log2 : Int) - ((52 : Nat) : Int)) (-1074) = last
  have hlast : -52 ≤ last := by omega
  generalize Toward.even.cut (decide (n < 0)) (n.natAbs <<< ((0 : Int) - last).toNat) (last - 0).toNat = kept
  refine ⟨min ((last - -1074).toNat * 4503599627370496 + kept) 9218868437227405312, ?_, ?_, Nat.min_le_right _ _⟩
  · unfold Format.word
    rw [h5]
    by_cases h : n < 0 <;> simp [h]
  · have : 1 ≤ (last - -1074).toNat := by omega
    have h7 : 1 * 4503599627370496 ≤ (last - -1074).toNat * 4503599627370496 := Nat.mul_le_mul_right _ this
    omega
theorem ofInt_zero : floatOfInt .f64 0 = 0 := by decide +kernel
theorem read_zero : double.read 0 = .number false 0 (-1074) := by decide +kernel
theorem word_inf (s : Bool) : double.write (.infinity s) = if s then 18442240474082181120 else 9218868437227405312 := by cases s <;> decide +kernel
theorem part_zero : double.div (floatOfInt .f64 0) (floatOfInt .f64 0) = none := by decide +kernel
theorem part_some (n : Int) (hn : n ≠ 0) : double.div (floatOfInt .f64 n) (floatOfInt .f64 0) = some (if n < 0 then 18442240474082181120 else 9218868437227405312) := by
  obtain ⟨R, hR, h1, h2⟩ := ofInt_form n hn
  rw [hR, ofInt_zero]
  unfold Format.div
  rw [read_zero, read_eq]
  have hs : sgn (if n < 0 then 9223372036854775808 + R else R) = decide (n < 0) := by
    unfold sgn
    by_cases h : n < 0
    · simp only [h, if_true, decide_true, beq_iff_eq]; omega
    · simp only [h, if_false, decide_false, beq_eq_false_iff_ne]; omega
  have hr : rg (if n < 0 then 9223372036854775808 + R else R) = R := by
    unfold rg
    by_cases h : n < 0
    · simp only [h, if_true]; omega
    · simp only [h, if_false]; omega
  rw [hs, hr]
  have hm : mg R ≠ 0 := by unfold mg; split <;> omega
  by_cases c : R < 9218868437227405312
  · rw [if_pos c]
    simp only [Datum.quotient, if_true, hm, if_false, Option.map_some, Bool.xor_false, word_inf]
    by_cases h : n < 0 <;> simp [h]
  · rw [if_neg c, if_pos (by omega)]
    simp only [Datum.quotient, Option.map_some, Bool.xor_false, word_inf]
    by_cases h : n < 0 <;> simp [h]
end Go.Fl
