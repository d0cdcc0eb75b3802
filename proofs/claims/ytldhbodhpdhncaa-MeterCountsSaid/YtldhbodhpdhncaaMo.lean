/- The reference's counts. -/
import Derived.Test.YtldhbodhpdhncaaMi
set_option linter.unusedSimpArgs false
set_option linter.unusedVariables false
namespace Go.Proofs.Ytldhbodhpdhncaa
open Go.ChangeShapes Go.WideShapes Go.RowKit Go.Mor Go.Fl

/-- The counts of measures that are some. -/
def countN (E S : List Nat) : List Nat := S.foldl (addC E) (List.replicate (E.length + 1) 0)
theorem countN_succ {E S : List Nat} {k x : Nat} (h : S[k]? = some x) : countN E (S.take (k + 1)) = addC E (countN E (S.take k)) x := by
  unfold countN; rw [take_succ h, List.foldl_append]; rfl
theorem addC_length (E C : List Nat) (x : Nat) : (addC E C x).length = C.length := by unfold addC; rw [List.length_set]
theorem foldl_length (E : List Nat) : ∀ (S C : List Nat), (S.foldl (addC E) C).length = C.length
  | [], _ => rfl
  | x :: r, C => by rw [List.foldl_cons, foldl_length E r, addC_length]
theorem countN_length (E S : List Nat) : (countN E S).length = E.length + 1 := by unfold countN; rw [foldl_length, List.length_replicate]
theorem addC_cap {E C : List Nat} {x b : Nat} (h : ∀ v ∈ C, v ≤ b) : ∀ v ∈ addC E C x, v ≤ b + 1 := by
  intro v hv
  unfold addC at hv
  rcases List.mem_or_eq_of_mem_set hv with h1 | h1
  · exact Nat.le_succ_of_le (h v h1)
  · subst h1
    rw [List.getD_eq_getElem?_getD]
    cases hq : C[bandN E x]? with
    | none => simp
    | some q => simpa using h q (List.mem_of_getElem? hq)
theorem foldl_cap (E : List Nat) : ∀ (S C : List Nat) (b : Nat), (∀ v ∈ C, v ≤ b) → ∀ v ∈ S.foldl (addC E) C, v ≤ b + S.length
  | [], _, _, h => h
  | x :: r, C, b, h => by
    rw [List.foldl_cons]
    intro v hv
    have := foldl_cap E r (addC E C x) (b + 1) (addC_cap h) v hv
    simp only [List.length_cons]; omega
theorem countN_cap (E S : List Nat) : ∀ v ∈ countN E S, v ≤ S.length := by
  intro v hv
  have := foldl_cap E S _ 0 (fun u hu => by rw [List.mem_replicate] at hu; omega) v hv
  omega
theorem addC_sum {E C : List Nat} {x : Nat} (hC : C.length = E.length + 1) : (addC E C x).sum = C.sum + 1 := by
  have hb := band_le E x
  have hlt : bandN E x < C.length := by omega
  unfold addC
  rw [List.getD_eq_getElem?_getD, List.getElem?_eq_getElem hlt]
  simp only [Option.getD_some]
  generalize bandN E x = i at *
  clear hb hC
  induction C generalizing i with
  | nil => simp at hlt
  | cons y r ih =>
    cases i with
    | zero => simp; omega
    | succ i => simp only [List.set_cons_succ, List.sum_cons, List.getElem_cons_succ]; rw [ih i (by simpa using hlt)]; omega
theorem foldl_sum (E : List Nat) : ∀ (S C : List Nat), C.length = E.length + 1 → (S.foldl (addC E) C).sum = C.sum + S.length
  | [], _, _ => rfl
  | x :: r, C, h => by
    rw [List.foldl_cons, foldl_sum E r _ (by rw [addC_length]; exact h), addC_sum h]; simp; omega
theorem countN_sum (E S : List Nat) : (countN E S).sum = S.length := by
  unfold countN; rw [foldl_sum E S _ (by simp)]; simp
end Go.Proofs.Ytldhbodhpdhncaa
