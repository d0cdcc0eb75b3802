/- What '+', '-', '*' and '/' on float64 give, as rules of the walk; the makers of what is endless and of what is none. -/
import Derived.Test.YtldhbodhpdhncaaRd
import Derived.Test.YtldhbodhpdhncaaFc
set_option linter.unusedSimpArgs false
set_option linter.unusedVariables false
namespace Go.Proofs.Ytldhbodhpdhncaa
open Go.ChangeShapes Go.WideShapes Go.RowKit Go.Mor Go.Fl

@[irreducible] def okF (op : BinOp) (x y : Nat) : Bool := (floatBits op .f64 x y).isSome
@[irreducible] def valF (op : BinOp) (x y : Nat) : Nat := (floatBits op .f64 x y).getD 0
@[irreducible] def nanOf (t : Nat) : Nat := (t % 2) * 2 ^ 63 + 0x7ff0000000000000 + 1 + (t / 2) % (2 ^ 52 - 1)
theorem nanOf_nan (t : Nat) : nanB (nanOf t) = true := by
  rw [nan_rg]; unfold nanOf rg; simp; rcases Nat.mod_two_eq_zero_or_one t with h | h <;> rw [h] <;> omega
theorem nanOf_lt (t : Nat) : nanOf t < 18446744073709551616 := by
  unfold nanOf; omega
theorem valF_lt (op : BinOp) (x y : Nat) : valF op x y < 18446744073709551616 := by
  unfold valF
  cases h : floatBits op .f64 x y with
  | none => decide
  | some r =>
    have := floatBits_wf h
    simp [Lit.wf] at this
    simpa using this
/-- What an operation on two numbers gives: the exact result rounded, or, if it has none, something that is none. -/
def resB (op : BinOp) (x y r : Nat) : Bool := if okF op x y then r == valF op x y else nanB r
def fbits : Value → Nat | .float .f64 b => b | _ => 0
def isF64 (v : Value) : Bool := match v with | .float .f64 _ => true | _ => false
@[go_sem] theorem fbits_f (b : Nat) : fbits (.float .f64 b) = b := rfl
@[go_sem] theorem isF64_f (b : Nat) : isF64 (.float .f64 b) = true := rfl
theorem isF64_spec {v : Value} (h : isF64 v = true) : v = .float .f64 (fbits v) := by
  unfold isF64 at h
  split at h
  · rfl
  · cases h
theorem run_choose_nan (x y : Nat) (w : World) : (Op.floatArith .add .f64 x y).run Try.prog w = (Op.floatArith .add .f64 x y).run Try.prog w := rfl
theorem arith_some {op : BinOp} (x y : Nat) (w : World) (h : okF op x y = true) : (binOp op 23 (.float .f64 x) (.float .f64 y)).run Try.prog w = .ok (.float .f64 (valF op x y)) w := by
  unfold okF at h
  obtain ⟨r, hr⟩ := Option.isSome_iff_exists.1 h
  have e : valF op x y = r := by unfold valF; rw [hr]; rfl
  rw [e]
  exact run_float_arith w op 23 .f64 x y r hr
theorem arith_none {op : BinOp} (hop : op = .add ∨ op = .sub ∨ op = .mul ∨ op = .quo) (x y : Nat) (w : World) (h : okF op x y = false) : (binOp op 23 (.float .f64 x) (.float .f64 y)).run Try.prog w = .ok (.float .f64 (nanOf (w.tape w.drawn (.nanBits .f64 x y)))) w.drew := by
  unfold okF at h
  have hn : floatBits op .f64 x y = none := by simpa using h
  unfold floatBits at hn
  unfold nanOf
  rcases hop with rfl | rfl | rfl | rfl
  all_goals
    simp only at hn
    simp [binOp, Op.floatArith, hn, Question.forced, Question.cut]
section
variable (a : Act) (w : World) (x y : Operand) (d : Option Tmp) (t : TypeId) (pos : String) (af : Array Edge) (gd : Option (Nat × Bool))
theorem exec_ok (op : BinOp) (hg : ∀ u v, (eqGuard op 23 x y u v) = pure ()) (h1 : isF64 (a.eval x) = true) (h2 : isF64 (a.eval y) = true) (h : okF op (fbits (a.eval x)) (fbits (a.eval y)) = true) :
    (execOp a.eval (Oper.mk d (.binOp op 23 x y 23) t pos af gd)).run Try.prog w = .ok (.value (.float .f64 (valF op (fbits (a.eval x)) (fbits (a.eval y))))) w := by
  refine exec_bin a w x d t pos af gd (isF64_spec h1) (isF64_spec h2) ?_
  rw [hg]
  exact arith_some _ _ w h
theorem exec_no (op : BinOp) (hop : op = .add ∨ op = .sub ∨ op = .mul ∨ op = .quo) (hg : ∀ u v, (eqGuard op 23 x y u v) = pure ()) (h1 : isF64 (a.eval x) = true) (h2 : isF64 (a.eval y) = true) (h : okF op (fbits (a.eval x)) (fbits (a.eval y)) = false) :
    (execOp a.eval (Oper.mk d (.binOp op 23 x y 23) t pos af gd)).run Try.prog w = .ok (.value (.float .f64 (nanOf (w.tape w.drawn (.nanBits .f64 (fbits (a.eval x)) (fbits (a.eval y))))))) w.drew := by
  simp only [execOp]
  rw [isF64_spec h1, isF64_spec h2, hg, Sem.run_bind]
  have := arith_none hop (fbits (a.eval x)) (fbits (a.eval y)) w h
  show ((binOp op 23 (.float .f64 (fbits (a.eval x))) (.float .f64 (fbits (a.eval y)))).run Try.prog w).andThen _ = _
  rw [this]; rfl
@[go_sem ↓] theorem add_ok (h1 : isF64 (a.eval x) = true) (h2 : isF64 (a.eval y) = true) (h : okF .add (fbits (a.eval x)) (fbits (a.eval y)) = true) :
    (execOp a.eval (Oper.mk d (.binOp .add 23 x y 23) t pos af gd)).run Try.prog w = .ok (.value (.float .f64 (valF .add (fbits (a.eval x)) (fbits (a.eval y))))) w :=
  exec_ok a w x y d t pos af gd .add (fun _ _ => rfl) h1 h2 h
@[go_sem ↓] theorem mul_ok (h1 : isF64 (a.eval x) = true) (h2 : isF64 (a.eval y) = true) (h : okF .mul (fbits (a.eval x)) (fbits (a.eval y)) = true) :
    (execOp a.eval (Oper.mk d (.binOp .mul 23 x y 23) t pos af gd)).run Try.prog w = .ok (.value (.float .f64 (valF .mul (fbits (a.eval x)) (fbits (a.eval y))))) w :=
  exec_ok a w x y d t pos af gd .mul (fun _ _ => rfl) h1 h2 h
@[go_sem ↓] theorem quo_ok (h1 : isF64 (a.eval x) = true) (h2 : isF64 (a.eval y) = true) (h : okF .quo (fbits (a.eval x)) (fbits (a.eval y)) = true) :
    (execOp a.eval (Oper.mk d (.binOp .quo 23 x y 23) t pos af gd)).run Try.prog w = .ok (.value (.float .f64 (valF .quo (fbits (a.eval x)) (fbits (a.eval y))))) w :=
  exec_ok a w x y d t pos af gd .quo (fun _ _ => rfl) h1 h2 h
@[go_sem ↓] theorem add_no (h1 : isF64 (a.eval x) = true) (h2 : isF64 (a.eval y) = true) (h : okF .add (fbits (a.eval x)) (fbits (a.eval y)) = false) :
    (execOp a.eval (Oper.mk d (.binOp .add 23 x y 23) t pos af gd)).run Try.prog w = .ok (.value (.float .f64 (nanOf (w.tape w.drawn (.nanBits .f64 (fbits (a.eval x)) (fbits (a.eval y))))))) w.drew :=
  exec_no a w x y d t pos af gd .add (by simp) (fun _ _ => rfl) h1 h2 h
@[go_sem ↓] theorem mul_no (h1 : isF64 (a.eval x) = true) (h2 : isF64 (a.eval y) = true) (h : okF .mul (fbits (a.eval x)) (fbits (a.eval y)) = false) :
    (execOp a.eval (Oper.mk d (.binOp .mul 23 x y 23) t pos af gd)).run Try.prog w = .ok (.value (.float .f64 (nanOf (w.tape w.drawn (.nanBits .f64 (fbits (a.eval x)) (fbits (a.eval y))))))) w.drew :=
  exec_no a w x y d t pos af gd .mul (by simp) (fun _ _ => rfl) h1 h2 h
@[go_sem ↓] theorem quo_no (h1 : isF64 (a.eval x) = true) (h2 : isF64 (a.eval y) = true) (h : okF .quo (fbits (a.eval x)) (fbits (a.eval y)) = false) :
    (execOp a.eval (Oper.mk d (.binOp .quo 23 x y 23) t pos af gd)).run Try.prog w = .ok (.value (.float .f64 (nanOf (w.tape w.drawn (.nanBits .f64 (fbits (a.eval x)) (fbits (a.eval y))))))) w.drew :=
  exec_no a w x y d t pos af gd .quo (by simp) (fun _ _ => rfl) h1 h2 h
end

theorem inf_any (n : Int) (w : World) (c : Nat) (hc : (if 0 ≤ n then 9218868437227405312 else 18442240474082181120) = c) : Calls Try.prog 52 #[.int .i64 n] w fun e w' => e = .returned (.float .f64 c) ∧ w = w' := by
  by_cases h : 0 ≤ n
  · rw [if_pos h] at hc
    subst hc
    go_enter Try.func52, Try.ntmps52
    go_wp2
    go_ret
    exact ⟨rfl, rfl⟩
  · rw [if_neg h] at hc
    subst hc
    have h : n < 0 := by omega
    go_enter Try.func52, Try.ntmps52
    go_wp2
    go_ret
    exact ⟨rfl, rfl⟩
theorem mkNaN_any (w : World) : Calls Try.prog 51 #[] w fun e w' => e = .returned (.float .f64 9221120237041090561) ∧ w = w' := by
  go_enter Try.func51, Try.ntmps51
  go_wp2
  go_ret
  exact ⟨rfl, rfl⟩
/-- How great a part one count is of another one. -/
@[irreducible] def partB (n m : Int) (r : Nat) : Bool := resB .quo (floatOfInt .f64 n) (floatOfInt .f64 m) r
theorem resB_ok {op : BinOp} {x y : Nat} (h : okF op x y = true) : resB op x y (valF op x y) = true := by unfold resB; rw [h]; simp
theorem resB_no {op : BinOp} {x y : Nat} (h : okF op x y = false) (t : Nat) : resB op x y (nanOf t) = true := by unfold resB; rw [h]; simp [nanOf_nan]
theorem part_ok {n m : Int} (h : okF .quo (floatOfInt .f64 n) (floatOfInt .f64 m) = true) : partB n m (valF .quo (floatOfInt .f64 n) (floatOfInt .f64 m)) = true := by unfold partB; exact resB_ok h
theorem part_no {n m : Int} (h : okF .quo (floatOfInt .f64 n) (floatOfInt .f64 m) = false) (t : Nat) : partB n m (nanOf t) = true := by unfold partB; exact resB_no h t
theorem part_nought : partB 0 0 9221120237041090561 = true := by
  have h : okF .quo (floatOfInt .f64 0) (floatOfInt .f64 0) = false := by
    unfold okF; show (Ieee.double.div _ _).isSome = false; rw [part_zero]; rfl
  unfold partB resB; rw [h]; simp [nan_rg]; unfold rg; decide
theorem part_endless {n : Int} (hn : n ≠ 0) : partB n 0 (if n < 0 then 18442240474082181120 else 9218868437227405312) = true := by
  have h : okF .quo (floatOfInt .f64 n) (floatOfInt .f64 0) = true := by
    unfold okF; show (Ieee.double.div _ _).isSome = true; rw [part_some n hn]; rfl
  have g : valF .quo (floatOfInt .f64 n) (floatOfInt .f64 0) = if n < 0 then 18442240474082181120 else 9218868437227405312 := by
    unfold valF; show (Ieee.double.div _ _).getD 0 = _; rw [part_some n hn]; rfl
  unfold partB resB; rw [h, g]; simp
def PartPost (n m : Int) (w : World) (e : Ending) (w' : World) : Prop := ∃ r, e = .returned (.float .f64 r) ∧ partB n m r = true ∧ Below w.heap.size w w'
theorem refPart_any (n m : Int) (w : World) : Calls Try.prog 23 #[.int .i64 n, .int .i64 m] w (PartPost n m w) := by
  cases h : okF .quo (floatOfInt .f64 n) (floatOfInt .f64 m)
  all_goals
    go_enter Try.func23, Try.ntmps23
    go_wp2
    go_ret
    first | exact ⟨_, rfl, part_no h _, (Below.refl _ _).drew⟩ | exact ⟨_, rfl, part_ok h, Below.refl _ _⟩
theorem part_any (n m : Int) (w : World) : Calls Try.prog 22 #[.int .i64 n, .int .i64 m] w (PartPost n m w) := by
  by_cases hm : m = 0
  · subst hm
    have e := @part_endless n
    have HE := hid e
    clear e
    go_enter Try.func22, Try.ntmps22
    go_wp2_with (first | (go_at_call 51; refine (mkNaN_any _).mono ?_; rintro e w' ⟨rfl, rfl⟩) | (go_at_call 52; refine (inf_any _ _ _ rfl).mono ?_; rintro e w' ⟨rfl, rfl⟩))
    all_goals
      go_ret
      refine ⟨_, rfl, ?_, Below.refl _ _⟩
      have E := HE.out
      by_cases h0 : n = 0
      · subst h0; first | exact part_nought | omega
      · have E := E h0
        by_cases h1 : n < 0
        · rw [if_pos h1] at E; first | exact E | omega
        · rw [if_neg h1] at E; first | exact E | omega
  · cases h : okF .quo (floatOfInt .f64 n) (floatOfInt .f64 m)
    all_goals
      go_enter Try.func22, Try.ntmps22
      go_wp2
      go_ret
      first | exact ⟨_, rfl, part_no h _, (Below.refl _ _).drew⟩ | exact ⟨_, rfl, part_ok h, Below.refl _ _⟩
end Go.Proofs.Ytldhbodhpdhncaa
