/- The contracts of the functions of 'real' and of their references that look at the bits of numbers. -/
import Derived.Test.YtldhbodhpdhncaaChecked
import Derived.Test.YtldhbodhpdhncaaBase
import Derived.Test.YtldhbodhpdhncaaFa
import Derived.Laws.Cover2
import Derived.Laws.FloatArith
set_option linter.unusedSimpArgs false
set_option linter.unusedVariables false
namespace Go.Proofs.Ytldhbodhpdhncaa
open Go.ChangeShapes Go.WideShapes Go.RowKit Go.Mor Go.Fl

@[go_sem] theorem bits49 (b : Nat) (w : World) : (callFunc 49 #[.float .f64 b]).run Try.prog w = .ok (.value (.int .u64 b)) w := by kernel_rfl
@[go_sem] theorem frombits10 (n : Int) (w : World) : (callFunc 10 #[.int .u64 n]).run Try.prog w = .ok (.value (.float .f64 n.toNat)) w := by kernel_rfl
theorem ret_b {a b : Bool} (h : a = b) : Ending.returned (.bool a) = .returned (.bool b) := by rw [h]
theorem nan_ne (b : Nat) : (FloatKind.f64.format.order b b != some Ordering.eq) = nanB b := by
  show (Ieee.double.order b b != some Ordering.eq) = nanB b
  rw [order_eq, Bool.or_self, cmp_def]
  cases nanB b <;> simp
theorem isnan_any (b : Nat) (w : World) : Calls Try.prog 13 #[.float .f64 b] w fun e w' => e = .returned (.bool (nanB b)) ∧ w = w' := by
  go_enter Try.func13, Try.ntmps13
  go_wp2
  go_ret
  exact ⟨ret_b (nan_ne b), rfl⟩

/-- The kind: none, endless, nought, tiny, plain. -/
def kindN (b : Nat) : Int := if 9218868437227405312 < rg b then 0 else if rg b = 9218868437227405312 then 1 else if rg b = 0 then 2 else if rg b < 4503599627370496 then 3 else 4
theorem toNat_u64 (a : Nat) (ha : a < 18446744073709551616) : (BitVec.ofInt 64 (a : Int)).toNat = a := by
  rw [BitVec.ofInt_natCast, BitVec.toNat_ofNat]; exact Nat.mod_eq_of_lt (by omega)
theorem and_u64 (a b : Nat) (ha : a < 18446744073709551616) (hb : b < 18446744073709551616) : bits .and .u64 (a : Int) (b : Int) = ((a &&& b : Nat) : Int) := by
  have hx : a &&& b < 2 ^ 64 := Nat.and_lt_two_pow _ (by omega)
  show IntKind.u64.wrap ((BitVec.ofInt 64 (a : Int) &&& BitVec.ofInt 64 (b : Int)).toNat : Int) = _
  rw [BitVec.toNat_and, toNat_u64 a ha, toNat_u64 b hb, IntKind.wrap_u64]
  omega
theorem or_u64 (a b : Nat) (ha : a < 18446744073709551616) (hb : b < 18446744073709551616) : bits .or .u64 (a : Int) (b : Int) = ((a ||| b : Nat) : Int) := by
  have hx : a ||| b < 2 ^ 64 := Nat.or_lt_two_pow (by omega) (by omega)
  show IntKind.u64.wrap ((BitVec.ofInt 64 (a : Int) ||| BitVec.ofInt 64 (b : Int)).toNat : Int) = _
  rw [BitVec.toNat_or, toNat_u64 a ha, toNat_u64 b hb, IntKind.wrap_u64]
  omega
theorem and_low (b : Nat) (hb : b < 18446744073709551616) : bits BinOp.and IntKind.u64 (b : Int) 4503599627370495 = ((b % 4503599627370496 : Nat) : Int) := by
  have h := and_u64 b 4503599627370495 hb (by decide)
  have e : b &&& 4503599627370495 = b % 4503599627370496 := Nat.and_two_pow_sub_one_eq_mod b 52
  rw [e] at h; exact h
theorem and_exp (b : Nat) (hb : b < 18446744073709551616) : bits BinOp.and IntKind.u64 ((b : Int) / 4503599627370496) 2047 = ((b / 4503599627370496 % 2048 : Nat) : Int) := by
  have h := and_u64 (b / 4503599627370496) 2047 (by omega) (by decide)
  have e : b / 4503599627370496 &&& 2047 = b / 4503599627370496 % 2048 := Nat.and_two_pow_sub_one_eq_mod _ 11
  rw [e] at h
  rw [← h]; rfl
theorem sgn_div (b : Nat) (hb : b < 18446744073709551616) : (((b : Int) / 9223372036854775808) == 1) = sgn b := by
  unfold sgn
  rw [Bool.eq_iff_iff, beq_iff_eq, beq_iff_eq]
  omega

theorem ret_ib {a b : Int} {x y : Bool} (h : a = b) (g : x = y) : Ending.returned (.tuple #[.int .i64 a, .bool x]) = .returned (.tuple #[.int .i64 b, .bool y]) := by rw [h, g]
set_option maxRecDepth 100000 in
theorem kind_any (b : Nat) (w : World) (hb : b < 18446744073709551616) : Calls Try.prog 11 #[.float .f64 b] w fun e w' => e = .returned (.tuple #[.int .i64 (kindN b), .bool (sgn b)]) ∧ w = w' := by
  have HB := hid hb
  go_enter Try.func11, Try.ntmps11
  go_wp2_with fail
  all_goals
    go_ret2
    have hb := HB.out
    refine ⟨ret_ib ?_ (sgn_div b hb), rfl⟩
    simp only [and_exp b hb, and_low b hb, bne_iff_ne, bne_eq_false_iff_eq, ne_eq, beq_iff_eq, beq_eq_false_iff_ne] at *
    unfold kindN rg
    repeat (first | rw [if_pos (by omega)] | rw [if_neg (by omega)])

def natOf : Value → Nat | .int _ n => n.toNat | _ => 0
@[irreducible] def isU64 (v : Value) : Bool := match v with | .int .u64 n => decide (0 ≤ n ∧ n < 18446744073709551616) | _ => false
@[go_sem] theorem natOf_nat (k : IntKind) (n : Nat) : natOf (.int k (n : Int)) = n := by simp [natOf]
theorem isU64_nat (n : Nat) (h : n < 18446744073709551616) : isU64 (.int .u64 (n : Int)) = true := by simp [isU64]; omega
theorem isU64_spec {v : Value} (h : isU64 v = true) : ∃ n : Nat, v = .int .u64 (n : Int) ∧ n < 18446744073709551616 ∧ natOf v = n := by
  unfold isU64 at h
  split at h
  · rename_i n
    simp at h
    exact ⟨n.toNat, by rw [Int.toNat_of_nonneg h.1], by omega, rfl⟩
  · cases h
@[irreducible] def high (n : Nat) : Bool := decide (9223372036854775808 ≤ n)
@[irreducible] def low (n : Nat) : Nat := n % 9223372036854775808
theorem run_geq_high (x : Operand) (n : Nat) (w : World) : (do eqGuard .geq 22 x (.const (.int .u64 9223372036854775808)) (.int .u64 (n : Int)) (.int .u64 9223372036854775808); binOp .geq 22 (.int .u64 (n : Int)) (.int .u64 9223372036854775808) : Sem Value).run Try.prog w = .ok (.bool (decide ((n : Int) ≥ (9223372036854775808 : Int)))) w := by
  kernel_rfl
theorem run_rem_high (x : Operand) (n : Nat) (w : World) : (do eqGuard .rem 22 x (.const (.int .u64 9223372036854775808)) (.int .u64 (n : Int)) (.int .u64 9223372036854775808); binOp .rem 22 (.int .u64 (n : Int)) (.int .u64 9223372036854775808) : Sem Value).run Try.prog w = .ok (.int .u64 ((n : Int).tmod 9223372036854775808)) w := by
  kernel_rfl
section
variable (a : Act) (w : World) (x : Operand) (d : Option Tmp) (t : TypeId) (pos : String) (af : Array Edge) (gd : Option (Nat × Bool))
theorem exec_bin {op : BinOp} {tx ty : TypeId} {y : Operand} {u v r : Value} (hx : a.eval x = u) (hy : a.eval y = v) (hr : (do eqGuard op tx x y u v; binOp op tx u v : Sem Value).run Try.prog w = .ok r w) :
    (execOp a.eval (Oper.mk d (.binOp op tx x y ty) t pos af gd)).run Try.prog w = .ok (.value r) w := by
  simp only [execOp, hx, hy]
  rw [Sem.run_bind, hr]; rfl
@[go_sem ↓] theorem geq_high (h : isU64 (a.eval x) = true) :
    (execOp a.eval (Oper.mk d (.binOp .geq 22 x (.const (.int .u64 9223372036854775808)) 22) t pos af gd)).run Try.prog w = .ok (.value (.bool (high (natOf (a.eval x))))) w := by
  obtain ⟨n, hn, hlt, hnat⟩ := isU64_spec h
  rw [hnat]
  have e : high n = decide ((n : Int) ≥ (9223372036854775808 : Int)) := by unfold high; rw [decide_eq_decide]; omega
  rw [e]
  exact exec_bin a w x d t pos af gd hn rfl (run_geq_high x n w)
@[go_sem ↓] theorem rem_high (h : isU64 (a.eval x) = true) :
    (execOp a.eval (Oper.mk d (.binOp .rem 22 x (.const (.int .u64 9223372036854775808)) 22) t pos af gd)).run Try.prog w = .ok (.value (.int .u64 (low (natOf (a.eval x)) : Int))) w := by
  obtain ⟨n, hn, hlt, hnat⟩ := isU64_spec h
  rw [hnat]
  have e : ((low n : Nat) : Int) = (n : Int).tmod 9223372036854775808 := by
    rw [Int.tmod_eq_emod_of_nonneg (by omega)]; unfold low; omega
  rw [e]
  exact exec_bin a w x d t pos af gd hn rfl (run_rem_high x n w)
end

attribute [irreducible] kindN
end Go.Proofs.Ytldhbodhpdhncaa
