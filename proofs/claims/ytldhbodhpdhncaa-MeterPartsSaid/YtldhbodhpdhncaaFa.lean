/- Plain facts on float64: how two of them stand to each other, by their bits. No program in sight. -/
import Ieee.Arith
import Derived.Laws.FloatBits
namespace Go.Fl
open Ieee

/-- The sign; the rung. -/
def sgn (b : Nat) : Bool := b / 9223372036854775808 % 2 == 1
def rg (b : Nat) : Nat := b % 9223372036854775808
def nanB (b : Nat) : Bool := decide (9218868437227405312 < rg b)
/-- The rung with its sign. -/
def sr (b : Nat) : Int := if sgn b then -(rg b : Int) else (rg b : Int)
/-- What a rung is worth, in units of the least place. -/
def mg (r : Nat) : Nat := if r < 4503599627370496 then r else 4503599627370496 + r % 4503599627370496
def pl (r : Nat) : Nat := r / 4503599627370496 - 1
def V (r : Nat) : Nat := mg r * 2 ^ pl r

theorem read_eq (b : Nat) : double.read b =
    if rg b < 9218868437227405312 then .number (sgn b) (mg (rg b)) (-1074 + (pl (rg b) : Int))
    else if rg b = 9218868437227405312 then .infinity (sgn b) else .nan (sgn b) (rg b - 9218868437227405312) := by
  unfold Format.read
  have h1 : double.signWeight = 9223372036854775808 := by decide
  have h2 : double.binade = 4503599627370496 := by decide
  have h3 : double.infRung = 9218868437227405312 := by decide
  have h4 : double.leastPlace = -1074 := by decide
  simp only [h1, h2, h3, h4]
  show (if rg b < 4503599627370496 then _ else _) = _
  by_cases c1 : rg b < 4503599627370496
  · rw [if_pos c1, if_pos (by omega)]
    have hm : mg (rg b) = rg b := by unfold mg; rw [if_pos c1]
    have hp : pl (rg b) = 0 := by unfold pl; omega
    rw [hm, hp]; rfl
  · rw [if_neg c1]
    show (if rg b < 9218868437227405312 then _ else if rg b = 9218868437227405312 then _ else _) = _
    by_cases c2 : rg b < 9218868437227405312
    · rw [if_pos c2, if_pos c2]
      have hm : mg (rg b) = 4503599627370496 + rg b % 4503599627370496 := by unfold mg; rw [if_neg c1]
      rw [hm]; rfl
    · rw [if_neg c2, if_neg c2]; rfl

theorem V_succ (r : Nat) : V r < V (r + 1) := by
  unfold V mg pl
  by_cases c1 : r + 1 < 4503599627370496
  · rw [if_pos (by omega), if_pos c1]
    have e1 : r / 4503599627370496 - 1 = 0 := by omega
    have e2 : (r + 1) / 4503599627370496 - 1 = 0 := by omega
    rw [e1, e2]; omega
  · by_cases c2 : r < 4503599627370496
    · have : r = 4503599627370495 := by omega
      subst this; decide
    · rw [if_neg c2, if_neg c1]
      by_cases c3 : r % 4503599627370496 = 4503599627370495
      · have e1 : (r + 1) % 4503599627370496 = 0 := by omega
        have e2 : (r + 1) / 4503599627370496 - 1 = (r / 4503599627370496 - 1) + 1 := by omega
        rw [e1, e2, c3, Nat.pow_succ]
        have := Nat.two_pow_pos (r / 4503599627370496 - 1)
        generalize 2 ^ (r / 4503599627370496 - 1) = p at *
        omega
      · have e1 : (r + 1) % 4503599627370496 = r % 4503599627370496 + 1 := by omega
        have e2 : (r + 1) / 4503599627370496 - 1 = r / 4503599627370496 - 1 := by omega
        rw [e1, e2]
        have := Nat.two_pow_pos (r / 4503599627370496 - 1)
        exact Nat.mul_lt_mul_of_pos_right (by omega) this
theorem V_lt {r s : Nat} (h : r < s) : V r < V s := by
  induction s with
  | zero => omega
  | succ n ih =>
    by_cases c : r = n
    · subst c; exact V_succ r
    · exact Nat.lt_trans (ih (by omega)) (V_succ n)
theorem V_zero : V 0 = 0 := by decide
theorem V_pos {r : Nat} (h : 0 < r) : 0 < V r := by have := V_lt h; rwa [V_zero] at this
theorem V_lt_iff {r s : Nat} : V r < V s ↔ r < s := by
  constructor
  · intro h
    rcases Nat.lt_trichotomy r s with c | c | c
    · exact c
    · subst c; omega
    · have := V_lt c; omega
  · exact V_lt

theorem cmp_def (a b : Int) : compare a b = if a < b then Ordering.lt else if a = b then Ordering.eq else Ordering.gt := rfl
theorem compare_int {a b c d : Int} (h1 : a < b ↔ c < d) (h2 : b < a ↔ d < c) : compare a b = compare c d := by
  rw [cmp_def, cmp_def]
  by_cases c1 : a < b
  · rw [if_pos c1, if_pos (h1.1 c1)]
  · rw [if_neg c1, if_neg (fun h => c1 (h1.2 h))]
    by_cases c2 : a = b
    · have : c = d := by
        rcases Int.lt_trichotomy c d with h | h | h
        · exact absurd (h1.2 h) c1
        · exact h
        · have := h2.2 h; omega
      rw [if_pos c2, if_pos this]
    · have : c ≠ d := by
        have := h2.1 (by omega); omega
      rw [if_neg c2, if_neg this]

theorem cmp_scale (s t : Bool) (u v U W : Nat) (hu : 0 < u ↔ 0 < U) (hv : 0 < v ↔ 0 < W) (h1 : u < v ↔ U < W) (h2 : v < u ↔ W < U) :
    compare (if s then -(u : Int) else (u : Int)) (if t then -(v : Int) else (v : Int)) = compare (if s then -(U : Int) else (U : Int)) (if t then -(W : Int) else (W : Int)) := by
  cases s <;> cases t <;> simp only [Bool.false_eq_true, if_true, if_false] <;> refine compare_int ?_ ?_ <;> omega

theorem signed_eq (s : Bool) (m k : Nat) : signed s m k = if s then -((m * 2 ^ k : Nat) : Int) else ((m * 2 ^ k : Nat) : Int) := by
  unfold signed; rw [Nat.shiftLeft_eq]

theorem signed_cmp (s t : Bool) (m n a c : Nat) :
    compare (signed s m (a - min a c)) (signed t n (c - min a c)) = compare (if s then -((m * 2 ^ a : Nat) : Int) else ((m * 2 ^ a : Nat) : Int)) (if t then -((n * 2 ^ c : Nat) : Int) else ((n * 2 ^ c : Nat) : Int)) := by
  have key : ∀ (x y : Nat), (x * 2 ^ (y - min a c)) * 2 ^ min a c = x * 2 ^ (y - min a c + min a c) := fun x y => by rw [Nat.mul_assoc, Nat.pow_add]
  have ha : m * 2 ^ a = (m * 2 ^ (a - min a c)) * 2 ^ min a c := by rw [key, Nat.sub_add_cancel (Nat.min_le_left _ _)]
  have hc : n * 2 ^ c = (n * 2 ^ (c - min a c)) * 2 ^ min a c := by rw [key, Nat.sub_add_cancel (Nat.min_le_right _ _)]
  have hp := Nat.two_pow_pos (min a c)
  rw [signed_eq, signed_eq, ha, hc]
  refine cmp_scale s t _ _ _ _ ?_ ?_ ?_ ?_
  · exact ⟨fun h => Nat.mul_pos h hp, fun h => Nat.pos_of_mul_pos_right h⟩
  · exact ⟨fun h => Nat.mul_pos h hp, fun h => Nat.pos_of_mul_pos_right h⟩
  · exact (Nat.mul_lt_mul_right hp).symm
  · exact (Nat.mul_lt_mul_right hp).symm

/-- **HOW TWO FLOATS STAND TO EACH OTHER, BY THEIR BITS.** -/
theorem order_eq (x y : Nat) : double.order x y = if nanB x || nanB y then none else some (compare (sr x) (sr y)) := by
  unfold Format.order
  rw [read_eq, read_eq]
  have lx : rg x < 9223372036854775808 := Nat.mod_lt _ (by decide)
  have ly : rg y < 9223372036854775808 := Nat.mod_lt _ (by decide)
  by_cases nx : nanB x = true
  · have : ¬ rg x < 9218868437227405312 ∧ ¬ rg x = 9218868437227405312 := by simp [nanB] at nx; omega
    rw [if_neg this.1, if_neg this.2, nx]; rfl
  · have nx : ¬ 9218868437227405312 < rg x := by simpa [nanB] using nx
    have nx' : nanB x = false := by simp [nanB]; omega
    by_cases ny : nanB y = true
    · have : ¬ rg y < 9218868437227405312 ∧ ¬ rg y = 9218868437227405312 := by simp [nanB] at ny; omega
      rw [if_neg this.1, if_neg this.2, nx', ny]
      rw [if_pos (show (false || true) = true from rfl)]
      by_cases f1 : rg x < 9218868437227405312
      · rw [if_pos f1]; rfl
      · rw [if_neg f1]
        by_cases f2 : rg x = 9218868437227405312
        · rw [if_pos f2]; rfl
        · rw [if_neg f2]; rfl
    · have ny : ¬ 9218868437227405312 < rg y := by simpa [nanB] using ny
      have ny' : nanB y = false := by simp [nanB]; omega
      rw [nx', ny']
      simp only [Bool.or_false, Bool.false_eq_true, if_false]
      by_cases fx : rg x < 9218868437227405312
      · rw [if_pos fx]
        by_cases fy : rg y < 9218868437227405312
        · rw [if_pos fy]
          simp only [Datum.order]
          congr 1
          have e1 : ((-1074 + (pl (rg x) : Int)) - min (-1074 + (pl (rg x) : Int)) (-1074 + (pl (rg y) : Int))).toNat = pl (rg x) - min (pl (rg x)) (pl (rg y)) := by omega
          have e2 : ((-1074 + (pl (rg y) : Int)) - min (-1074 + (pl (rg x) : Int)) (-1074 + (pl (rg y) : Int))).toNat = pl (rg y) - min (pl (rg x)) (pl (rg y)) := by omega
          rw [e1, e2, signed_cmp]
          have h1 := @V_lt_iff (rg x) (rg y)
          have h2 := @V_lt_iff (rg y) (rg x)
          have h3 := @V_lt_iff 0 (rg x)
          have h4 := @V_lt_iff 0 (rg y)
          rw [V_zero] at h3 h4
          show compare (if sgn x then -((V (rg x) : Nat) : Int) else ((V (rg x) : Nat) : Int)) (if sgn y then -((V (rg y) : Nat) : Int) else ((V (rg y) : Nat) : Int)) = _
          exact cmp_scale _ _ _ _ _ _ h3.symm.symm h4.symm.symm h1 h2
        · rw [if_neg fy, if_pos (by omega)]
          simp only [Datum.order]
          congr 1
          unfold sr
          rw [cmp_def]
          cases sgn x <;> cases sgn y <;> simp only [Bool.false_eq_true, if_true, if_false] <;> first | (rw [if_pos (by omega)]) | (rw [if_neg (by omega), if_neg (by omega)])
      · rw [if_neg fx, if_pos (by omega)]
        by_cases fy : rg y < 9218868437227405312
        · rw [if_pos fy]
          simp only [Datum.order]
          congr 1
          unfold sr
          rw [cmp_def]
          cases sgn x <;> cases sgn y <;> simp only [Bool.false_eq_true, if_true, if_false] <;> first | (rw [if_pos (by omega)]) | (rw [if_neg (by omega), if_neg (by omega)])
        · rw [if_neg fy, if_pos (by omega)]
          simp only [Datum.order]
          congr 1
          have ex : rg x = 9218868437227405312 := by omega
          have ey : rg y = 9218868437227405312 := by omega
          unfold sr
          rw [ex, ey]
          cases sgn x <;> cases sgn y <;> decide
attribute [irreducible] nanB sgn rg sr
end Go.Fl
