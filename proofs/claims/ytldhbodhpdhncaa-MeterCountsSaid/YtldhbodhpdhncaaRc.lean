/- Rank, order and sameness of numbers. -/
import Derived.Test.YtldhbodhpdhncaaRb
set_option linter.unusedSimpArgs false
set_option linter.unusedVariables false
namespace Go.Proofs.Ytldhbodhpdhncaa
open Go.ChangeShapes Go.WideShapes Go.RowKit Go.Mor Go.Fl

@[irreducible] def rk (b : Nat) : Nat := if nanB b then 18446744073709551615 else if sgn b then 18446744073709551615 - b else b + 9223372036854775808
@[irreducible] def cmpN (x y : Nat) : Int := if rk x < rk y then -1 else if rk y < rk x then 1 else 0
@[irreducible] def sameB (x y : Nat) : Bool := if nanB x || nanB y then nanB x && nanB y else x == y

theorem none_any (b : Nat) (w : World) : Calls Try.prog 55 #[.float .f64 b] w fun e w' => e = .returned (.bool (nanB b)) ∧ w = w' := by
  go_enter Try.func55, Try.ntmps55
  go_wp2
  go_ret
  exact ⟨ret_b (nan_ne b), rfl⟩
theorem eq_nat (x y : Nat) : (((x : Int)) == ((y : Int))) = (x == y) := by
  rw [Bool.eq_iff_iff, beq_iff_eq, beq_iff_eq]; omega
theorem same_any (x y : Nat) (w : World) : Calls Try.prog 18 #[.float .f64 x, .float .f64 y] w fun e w' => e = .returned (.bool (sameB x y)) ∧ w = w' := by
  have e : ∀ p q, nanB x = p → nanB y = q → sameB x y = if p || q then p && q else x == y := by rintro p q rfl rfl; unfold sameB; rfl
  cases hx : nanB x <;> cases hy : nanB y <;> rw [e _ _ hx hy] <;> clear e
  all_goals
    go_enter Try.func18, Try.ntmps18
    go_wp2_with (go_at_call 13; refine (isnan_any _ _).mono ?_; rintro e w' ⟨rfl, rfl⟩; first | rw [hx] | rw [hy])
    go_ret
    refine ⟨ret_b ?_, rfl⟩
    first | rfl | exact eq_nat x y
theorem refSame_any (x y : Nat) (w : World) : Calls Try.prog 19 #[.float .f64 x, .float .f64 y] w fun e w' => e = .returned (.bool (sameB x y)) ∧ w = w' := by
  have e : ∀ p q, nanB x = p → nanB y = q → sameB x y = if p || q then p && q else x == y := by rintro p q rfl rfl; unfold sameB; rfl
  cases hx : nanB x <;> cases hy : nanB y <;> rw [e _ _ hx hy] <;> clear e
  all_goals
    go_enter Try.func19, Try.ntmps19
    go_wp2_with (go_at_call 55; refine (none_any _ _).mono ?_; rintro e w' ⟨rfl, rfl⟩; first | rw [hx] | rw [hy])
    go_ret
    refine ⟨ret_b ?_, rfl⟩
    first | rfl | exact eq_nat x y
theorem ret_u {a b : Int} (h : a = b) : Ending.returned (.int .u64 a) = .returned (.int .u64 b) := by rw [h]
theorem ret_i {a b : Int} (h : a = b) : Ending.returned (.int .i64 a) = .returned (.int .i64 b) := by rw [h]
theorem not_u64 (b : Nat) (hb : b < 18446744073709551616) : bits BinOp.xor IntKind.u64 IntKind.u64.max (b : Int) = ((18446744073709551615 - b : Nat) : Int) := by
  show IntKind.u64.wrap ((BitVec.ofInt 64 IntKind.u64.max ^^^ BitVec.ofInt 64 (b : Int)).toNat : Int) = _
  rw [show BitVec.ofInt 64 IntKind.u64.max = BitVec.allOnes 64 by decide, BitVec.allOnes_xor, BitVec.toNat_not, toNat_u64 b hb, IntKind.wrap_u64]
  omega
theorem sgn_false {b : Nat} (hb : b < 18446744073709551616) (h : sgn b = false) : b < 9223372036854775808 := by
  unfold sgn at h; simp at h; omega
theorem sgn_true {b : Nat} (hb : b < 18446744073709551616) (h : sgn b = true) : 9223372036854775808 ≤ b := by
  unfold sgn at h; simp at h; omega
theorem or_top (b : Nat) (hb : b < 18446744073709551616) (h : sgn b = false) : bits BinOp.or IntKind.u64 (b : Int) 9223372036854775808 = ((b + 9223372036854775808 : Nat) : Int) := by
  have hlt := sgn_false hb h
  have e := or_u64 b 9223372036854775808 hb (by decide)
  have e2 : b ||| 9223372036854775808 = b + 9223372036854775808 := by
    have := Nat.two_pow_add_eq_or_of_lt (i := 63) (b := b) (by omega) 1
    rw [Nat.or_comm, ← Nat.add_comm]
    simpa using this.symm
  rw [e2] at e
  exact e
theorem rank_any (b : Nat) (w : World) (hb : b < 18446744073709551616) : Calls Try.prog 54 #[.float .f64 b] w fun e w' => e = .returned (.int .u64 (rk b : Int)) ∧ w = w' := by
  have HB := hid hb
  clear hb
  go_enter Try.func54, Try.ntmps54
  go_wp2_with (go_at_call 13; refine (isnan_any _ _).mono ?_; rintro e w' ⟨rfl, rfl⟩)
  all_goals
    go_ret
    refine ⟨ret_u ?_, rfl⟩
    have hb := HB.out
    try simp only [sgn_div b hb, Bool.not_eq_true] at *
    unfold rk
    simp only [*, if_true, Bool.false_eq_true, if_false]
    first | rfl | exact not_u64 b hb | exact or_top b hb (by assumption)
theorem cmp_cases (x y : Nat) {r : Int} (h : cmpN x y = r) : (rk x < rk y → r = -1) ∧ (rk y < rk x → r = 1) ∧ (rk x = rk y → r = 0) := by
  subst h
  unfold cmpN
  refine ⟨fun h => if_pos h, fun h => ?_, fun h => ?_⟩
  · rw [if_neg (by omega), if_pos h]
  · rw [if_neg (by omega), if_neg (by omega)]
theorem compare_any (x y : Nat) (w : World) (hx : x < 18446744073709551616) (hy : y < 18446744073709551616) : Calls Try.prog 16 #[.float .f64 x, .float .f64 y] w fun e w' => e = .returned (.int .i64 (cmpN x y)) ∧ w = w' := by
  obtain ⟨c1, c2, c3⟩ := cmp_cases x y rfl
  have HX := hid hx
  have HY := hid hy
  have C1 := hid c1
  have C2 := hid c2
  have C3 := hid c3
  clear hx hy c1 c2 c3
  go_enter Try.func16, Try.ntmps16
  go_wp2_with fail
  refine (rank_any _ _ HX.out).mono ?_; rintro e w' ⟨rfl, rfl⟩
  go_wp2_with fail
  refine (rank_any _ _ HY.out).mono ?_; rintro e w' ⟨rfl, rfl⟩
  go_wp2_with fail
  all_goals
    go_ret
    refine ⟨ret_i ?_, rfl⟩
    have C1 := C1.out
    have C2 := C2.out
    have C3 := C3.out
    omega
end Go.Proofs.Ytldhbodhpdhncaa
