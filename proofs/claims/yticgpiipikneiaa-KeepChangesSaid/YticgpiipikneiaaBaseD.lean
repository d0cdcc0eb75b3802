/- Two arrays of integers, compared. -/
import Derived.Test.YticgpiipikneiaaBase
import Derived.Deep.MidRow
set_option linter.unusedSimpArgs false
set_option linter.unusedVariables false
namespace Go.Mor
open Go.RowKit
/-- Integers as cells. -/
def ints (k : IntKind) (l : List Int) : Array Value := (l.map (Value.int k)).toArray

section
variable {P : Program} (w : World)
theorem run_part_int (k : IntKind) (e : TypeId) (l : List Int) (i : Nat) (x : Int) (he : P.underlying e = some (.int k)) (hx : l[i]? = some x) : (part e (ints k l) i).run P w = .ok (.int k x) w := by
  have hg : (ints k l)[i]? = some (.int k x) := by simp [ints, hx]
  simp [part, isAgg, run_underlying he, hg]

theorem run_equalIn_ints (d : Nat) (t e : TypeId) (k : IntKind) (n : Nat) (as bs : List Int) (ht : P.underlying t = some (.array n e)) (he : P.underlying e = some (.int k)) (hs : (P.info? e).map (·.size) = some 1)
    (ha : as.length = n) (hb : bs.length = n) :
    (Op.equalIn (d + 2) t (.agg (ints k as)) (.agg (ints k bs))).run P w = .ok (as == bs) w := by
  obtain ⟨inf, hi, hi1⟩ : ∃ inf, P.info? e = some inf ∧ inf.size = 1 := by
    cases hq : P.info? e with
    | none => simp [hq] at hs
    | some x => exact ⟨x, rfl, by simpa [hq] using hs⟩
  unfold Op.equalIn
  simp only [Sem.run_bind, run_underlying ht, Result.andThen_ok, sizeOf, typeInfo, run_program, hi, Sem.run_pure, hi1]
  rw [Std.Legacy.Range.forIn_eq_forIn_range']
  simp only [Std.Legacy.Range.size, Nat.sub_zero, Nat.add_sub_cancel, Nat.div_one]
  have key : ∀ m i, i + m = n → (forIn (m := Sem) (List.range' i m 1) ((none, ()) : Option Bool × Unit) fun i _ => do
            let a ← part e (ints k as) (i * 1)
            let b ← part e (ints k bs) (i * 1)
            let r ← Op.equalIn (d + 1) e a b
            if (!r) = true then pure (ForInStep.done (some false, ())) else pure (ForInStep.yield (none, ()))).run P w = .ok (if as.drop i == bs.drop i then (none, ()) else (some false, ())) w := by
    intro m
    induction m with
    | zero =>
      intro i hi
      have h1 : as.drop i = [] := List.drop_eq_nil_of_le (by omega)
      have h2 : bs.drop i = [] := List.drop_eq_nil_of_le (by omega)
      simp [h1, h2]
    | succ m ih =>
      intro i hi
      have h1 : as.drop i = as[i]'(by omega) :: as.drop (i + 1) := List.drop_eq_getElem_cons (by omega)
      have h2 : bs.drop i = bs[i]'(by omega) :: bs.drop (i + 1) := List.drop_eq_getElem_cons (by omega)
      rw [List.range'_succ, List.forIn_cons, h1, h2]
      simp only [Nat.mul_one, Sem.run_bind, run_part_int w k e as i _ he (List.getElem?_eq_getElem (by omega)), run_part_int w k e bs i _ he (List.getElem?_eq_getElem (by omega)), Result.andThen_ok, run_equalIn_int w d e k k _ _ he]
      by_cases hx : as[i]'(by omega) = bs[i]'(by omega)
      · have := ih (i + 1) (by omega)
        simp only [Nat.mul_one] at this
        have hb : (as[i]'(by omega) == bs[i]'(by omega)) = true := by rw [hx]; exact beq_self_eq_true _
        simp only [hb, Bool.not_true, Bool.false_eq_true, ↓reduceIte, Sem.run_pure, Result.andThen_ok, List.cons_beq_cons, Bool.true_and]
        exact this
      · have hb : (as[i]'(by omega) == bs[i]'(by omega)) = false := by simpa using hx
        simp only [hb, Bool.not_false, ↓reduceIte, Sem.run_pure, Result.andThen_ok, List.cons_beq_cons, Bool.false_and, Bool.false_eq_true]
  have := key n 0 (by omega)
  simp only [List.drop_zero] at this
  rw [this]
  by_cases h : as = bs <;> simp [h]

/-- The first cells of a row, read as an array. -/
theorem exec_load_head (ev : Operand → Value) (ty : TypeId) (n m : Nat) (hn : n ≤ m) (D : TypeDesc) (hu : P.underlying ty = some D)
    (hd : D.isRow = true) (hi : (P.info? ty).map (·.size) = some n)
    (x : Operand) (d : Option Tmp) (t : TypeId) (pos : String) (af : Array Edge) (gd : Option (Nat × Bool))
    (h1 : isHead (ev x) = true) (h2 : isRow w (blk (ev x)) m = true) :
    (execOp ev (Oper.mk d (.load ty x) t pos af gd)).run P w = .ok (.value (.agg ((rowOf w (blk (ev x))).extract 0 n))) w := by
  obtain ⟨b, hb⟩ := isHead_spec h1
  rw [hb] at h2 ⊢
  obtain ⟨cs, t', hg, hs, hr⟩ := isRow_spec h2
  simp only [blk_ptr] at *
  have hrun := run_loadAt_mid (P := P) w b 0 ty (cs.extract 0 n).toList D (fun j v hj => by
    rw [cell_of_row w b (0 + j) cs t' (0, 0) hg]
    have hlt : j < (cs.extract 0 n).toList.length := (List.getElem?_eq_some_iff.1 hj).1
    rw [← hj]
    simp only [Array.getElem?_toList, Array.getElem?_extract]
    simp at hlt
    rw [if_pos (by omega)]) hu hd (by rw [hi]; simp; omega)
  simp only [execOp, hb, Sem.run_bind, hrun, Result.andThen_ok, Sem.run_pure, hr, Array.toArray_toList, blk]
theorem extract_set (cs : Array Value) (i n : Nat) (v : Value) (h : n ≤ i) : (cs.setIfInBounds i v).extract 0 n = cs.extract 0 n := by
  apply Array.ext_getElem?
  intro j
  simp only [Array.getElem?_extract, Array.size_setIfInBounds, Nat.zero_add]
  split
  · rw [Array.getElem?_setIfInBounds_ne (by omega)]
  · rfl
end
end Go.Mor
