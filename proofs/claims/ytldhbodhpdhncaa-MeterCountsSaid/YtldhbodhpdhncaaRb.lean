/- The reference's kind of a number. -/
import Derived.Test.YtldhbodhpdhncaaRa
set_option linter.unusedSimpArgs false
set_option linter.unusedVariables false
namespace Go.Proofs.Ytldhbodhpdhncaa
open Go.ChangeShapes Go.WideShapes Go.RowKit Go.Mor Go.Fl

@[irreducible] def overEnd (n : Nat) : Bool := decide (9218868437227405312 < n)
@[irreducible] def atEnd (n : Nat) : Bool := decide (n = 9218868437227405312)
@[irreducible] def tinyN (n : Nat) : Bool := decide (n < 4503599627370496)
theorem run_gtr_end (x : Operand) (n : Nat) (w : World) : (do eqGuard .gtr 22 x (.const (.int .u64 9218868437227405312)) (.int .u64 (n : Int)) (.int .u64 9218868437227405312); binOp .gtr 22 (.int .u64 (n : Int)) (.int .u64 9218868437227405312) : Sem Value).run Try.prog w = .ok (.bool (decide ((n : Int) > (9218868437227405312 : Int)))) w := by
  kernel_rfl
theorem run_lss_tiny (x : Operand) (n : Nat) (w : World) : (do eqGuard .lss 22 x (.const (.int .u64 4503599627370496)) (.int .u64 (n : Int)) (.int .u64 4503599627370496); binOp .lss 22 (.int .u64 (n : Int)) (.int .u64 4503599627370496) : Sem Value).run Try.prog w = .ok (.bool (decide ((n : Int) < (4503599627370496 : Int)))) w := by
  kernel_rfl
theorem run_eql_end (x : Operand) (n : Nat) (w : World) : (do eqGuard .eql 22 x (.const (.int .u64 9218868437227405312)) (.int .u64 (n : Int)) (.int .u64 9218868437227405312); binOp .eql 22 (.int .u64 (n : Int)) (.int .u64 9218868437227405312) : Sem Value).run Try.prog w = .ok (.bool ((n : Int) == (9218868437227405312 : Int))) w := by
  kernel_rfl
section
variable (a : Act) (w : World) (x : Operand) (d : Option Tmp) (t : TypeId) (pos : String) (af : Array Edge) (gd : Option (Nat × Bool))
@[go_sem ↓] theorem gtr_end (h : isU64 (a.eval x) = true) :
    (execOp a.eval (Oper.mk d (.binOp .gtr 22 x (.const (.int .u64 9218868437227405312)) 22) t pos af gd)).run Try.prog w = .ok (.value (.bool (overEnd (natOf (a.eval x))))) w := by
  obtain ⟨n, hn, hlt, hnat⟩ := isU64_spec h
  rw [hnat]
  have e : overEnd n = decide ((n : Int) > (9218868437227405312 : Int)) := by unfold overEnd; rw [decide_eq_decide]; omega
  rw [e]
  exact exec_bin a w x d t pos af gd hn rfl (run_gtr_end x n w)
@[go_sem ↓] theorem lss_tiny (h : isU64 (a.eval x) = true) :
    (execOp a.eval (Oper.mk d (.binOp .lss 22 x (.const (.int .u64 4503599627370496)) 22) t pos af gd)).run Try.prog w = .ok (.value (.bool (tinyN (natOf (a.eval x))))) w := by
  obtain ⟨n, hn, hlt, hnat⟩ := isU64_spec h
  rw [hnat]
  have e : tinyN n = decide ((n : Int) < (4503599627370496 : Int)) := by unfold tinyN; rw [decide_eq_decide]; omega
  rw [e]
  exact exec_bin a w x d t pos af gd hn rfl (run_lss_tiny x n w)
@[go_sem ↓] theorem eql_end (h : isU64 (a.eval x) = true) :
    (execOp a.eval (Oper.mk d (.binOp .eql 22 x (.const (.int .u64 9218868437227405312)) 22) t pos af gd)).run Try.prog w = .ok (.value (.bool (atEnd (natOf (a.eval x))))) w := by
  obtain ⟨n, hn, hlt, hnat⟩ := isU64_spec h
  rw [hnat]
  have e : atEnd n = ((n : Int) == (9218868437227405312 : Int)) := by unfold atEnd; rw [Bool.eq_iff_iff, decide_eq_true_eq, beq_iff_eq]; omega
  rw [e]
  exact exec_bin a w x d t pos af gd hn rfl (run_eql_end x n w)
end
theorem isU64_low (n : Nat) : isU64 (.int .u64 (low n : Int)) = true := isU64_nat _ (by unfold low; omega)
attribute [go_sem] isU64_low

theorem high_sgn (b : Nat) (hb : b < 18446744073709551616) : high b = sgn b := by
  unfold high sgn
  rw [Bool.eq_iff_iff, decide_eq_true_eq, beq_iff_eq]
  omega
set_option maxRecDepth 100000 in
theorem refKind_any (b : Nat) (w : World) (hb : b < 18446744073709551616) : Calls Try.prog 12 #[.float .f64 b] w fun e w' => e = .returned (.tuple #[.int .i64 (kindN b), .bool (sgn b)]) ∧ w = w' := by
  have HB := hid hb
  have hu := isU64_nat b hb
  clear hb
  go_enter Try.func12, Try.ntmps12
  go_wp2_with fail
  all_goals
    go_ret2
    refine ⟨ret_ib ?_ (high_sgn b HB.out), rfl⟩
    clear hu
    simp only [overEnd, atEnd, tinyN, low, decide_eq_true_eq, decide_eq_false_iff_not, beq_iff_eq, bne_iff_ne, beq_eq_false_iff_ne, bne_eq_false_iff_eq, ne_eq] at *
    unfold kindN rg
    repeat (first | rw [if_pos (by omega)] | rw [if_neg (by omega)])
    try rfl
end Go.Proofs.Ytldhbodhpdhncaa
