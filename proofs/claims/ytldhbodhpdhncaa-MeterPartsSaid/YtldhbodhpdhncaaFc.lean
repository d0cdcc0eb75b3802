/- Plain facts on float64: what is near enough to nought has a whole part that is an int64. No program in sight. -/
import Derived.Test.YtldhbodhpdhncaaFb
set_option linter.unusedSimpArgs false
set_option linter.unusedVariables false
namespace Go.Fl
open Ieee

theorem mg_lt (r : Nat) : mg r < 9007199254740992 := by unfold mg; split <;> omega
theorem cut_zero (s : Bool) (n k : Nat) : Toward.zero.cut s n k ≤ n := by
  unfold Toward.cut
  simp only [Bool.toNat_false, Nat.add_zero]
  exact Nat.div_le_self _ _
/-- Of a size up to 2^52 its whole part is small. -/
theorem whole_some {x : Nat} (h : rg x < 4841369599423283200) : ∃ n, floatToIntVal .f64 x .i64 = some n ∧ n = (if sgn x then -((Toward.zero.cut (sgn x) (mg (rg x)) (1074 - pl (rg x)) : Nat) : Int) else ((Toward.zero.cut (sgn x) (mg (rg x)) (1074 - pl (rg x)) : Nat) : Int)) := by
  have hp : pl (rg x) ≤ 1074 := by unfold pl; omega
  have hread : (FloatKind.f64).decode x = .number (sgn x) (mg (rg x)) (-1074 + (pl (rg x) : Int)) := by
    show double.read x = _
    rw [read_eq, if_pos (by omega)]
  unfold floatToIntVal
  rw [hread]
  have hi : (-1074 + (pl (rg x) : Int)).toNat = 0 := by omega
  have hj : (-(-1074 + (pl (rg x) : Int))).toNat = 1074 - pl (rg x) := by omega
  simp only [Datum.toInt, Datum.integral, hi, hj, Nat.shiftLeft_zero, signed]
  have hc := cut_zero (sgn x) (mg (rg x)) (1074 - pl (rg x))
  have hm := mg_lt (rg x)
  generalize Toward.zero.cut (sgn x) (mg (rg x)) (1074 - pl (rg x)) = q at *
  have hmin : IntKind.i64.min = -9223372036854775808 := by decide
  have hmax : IntKind.i64.max = 9223372036854775807 := by decide
  rw [hmin, hmax]
  cases sgn x
  · simp only [Bool.false_eq_true, if_false]
    rw [if_pos (by omega)]
    exact ⟨_, rfl, rfl⟩
  · simp only [if_true]
    rw [if_pos (by omega)]
    exact ⟨_, rfl, rfl⟩
end Go.Fl
