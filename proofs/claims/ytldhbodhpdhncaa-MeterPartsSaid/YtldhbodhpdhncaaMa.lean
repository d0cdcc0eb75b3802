/- How many edges are not behind a number: the plain count, and how it is found by halves. -/
import Derived.Test.YtldhbodhpdhncaaRk
set_option linter.unusedSimpArgs false
set_option linter.unusedVariables false
namespace Go.Proofs.Ytldhbodhpdhncaa
open Go.ChangeShapes Go.WideShapes Go.RowKit Go.Mor Go.Fl

/-- Edges that rise. -/
def rising (l : List Nat) : Prop := ∀ (a b x y : Nat), a < b → l[a]? = some x → l[b]? = some y → cmpN x y < 0
@[irreducible] def bandN (l : List Nat) (x : Nat) : Nat := l.countP fun e => decide (cmpN e x ≤ 0)
theorem cmp_neg {x y : Nat} : cmpN x y < 0 ↔ rk x < rk y := by
  unfold cmpN
  constructor
  · intro h; split at h; · assumption
    split at h <;> simp at h
  · intro h; rw [if_pos h]; decide
theorem cmp_pos {x y : Nat} : 0 < cmpN x y ↔ rk y < rk x := by
  unfold cmpN
  constructor
  · intro h; split at h; · simp at h
    split at h; · assumption
    · simp at h
  · intro h; rw [if_neg (by omega), if_pos h]; decide
theorem cmp_le {x y : Nat} : cmpN x y ≤ 0 ↔ rk x ≤ rk y := by
  have := @cmp_pos x y; omega
theorem cmp_eq {x y : Nat} : cmpN x y = 0 ↔ rk x = rk y := by
  have := @cmp_pos x y; have := @cmp_neg x y; omega
theorem band_split {l : List Nat} {x k : Nat} (hk : k ≤ l.length) (h1 : ∀ a e, a < k → l[a]? = some e → cmpN e x ≤ 0) (h2 : ∀ a e, k ≤ a → l[a]? = some e → 0 < cmpN e x) : bandN l x = k := by
  unfold bandN
  have e : l.countP (fun e => decide (cmpN e x ≤ 0)) = (l.take k ++ l.drop k).countP (fun e => decide (cmpN e x ≤ 0)) := by rw [List.take_append_drop]
  rw [e, List.countP_append]
  have e1 : (l.take k).countP (fun e => decide (cmpN e x ≤ 0)) = (l.take k).length := by
    rw [List.countP_eq_length]
    intro e he
    obtain ⟨a, ha⟩ := List.mem_iff_getElem?.1 he
    rw [List.getElem?_take] at ha
    split at ha
    · exact decide_eq_true (h1 a e (by assumption) ha)
    · cases ha
  have e2 : (l.drop k).countP (fun e => decide (cmpN e x ≤ 0)) = 0 := by
    rw [List.countP_eq_zero]
    intro e he
    obtain ⟨a, ha⟩ := List.mem_iff_getElem?.1 he
    rw [List.getElem?_drop] at ha
    have := h2 (k + a) e (by omega) ha
    simp; omega
  rw [e1, e2, List.length_take]; omega
theorem band_succ {l : List Nat} {x k e : Nat} (h : l[k]? = some e) : bandN (l.take (k + 1)) x = bandN (l.take k) x + if cmpN e x ≤ 0 then 1 else 0 := by
  unfold bandN; rw [take_succ h, List.countP_append]
  simp [List.countP_cons]
theorem band_nil (x : Nat) : bandN [] x = 0 := by unfold bandN; rfl
theorem band_le (l : List Nat) (x : Nat) : bandN l x ≤ l.length := by unfold bandN; exact List.countP_le_length
/-- The invariant of the search by halves. -/
def halves (l : List Nat) (x i j : Nat) : Prop := (∀ a e, a < i → l[a]? = some e → cmpN e x < 0) ∧ (∀ a e, j ≤ a → l[a]? = some e → 0 ≤ cmpN e x)
theorem halves_start (l : List Nat) (x n : Nat) (h : l.length = n) : halves l x 0 n := ⟨fun a e h _ => by omega, fun a e h1 h2 => by
  have := (List.getElem?_eq_some_iff.1 h2).1; omega⟩
theorem halves_up {l : List Nat} {x i j h e : Nat} (hr : rising l) (hh : halves l x i j) (he : l[h]? = some e) (hc : cmpN e x < 0) : halves l x (h + 1) j := by
  refine ⟨fun a f ha hf => ?_, hh.2⟩
  by_cases hah : a = h
  · subst hah; rw [he] at hf; injection hf with hf; subst hf; exact hc
  · have h1 := cmp_neg.1 (hr a h f e (by omega) hf he)
    have h2 := cmp_neg.1 hc
    exact cmp_neg.2 (by omega)
theorem halves_down {l : List Nat} {x i j h e : Nat} (hr : rising l) (hh : halves l x i j) (he : l[h]? = some e) (hc : 0 ≤ cmpN e x) : halves l x i h := by
  refine ⟨hh.1, fun a f ha hf => ?_⟩
  by_cases hah : a = h
  · subst hah; rw [he] at hf; injection hf with hf; subst hf; exact hc
  · have h1 := cmp_neg.1 (hr h a e f (by omega) he hf)
    have h2 := @cmp_neg e x
    have h3 := @cmp_neg f x
    omega
theorem halves_found {l : List Nat} {x i e : Nat} (hr : rising l) (hh : halves l x i i) (he : l[i]? = some e) (hc : cmpN e x = 0) : bandN l x = i + 1 := by
  have hlt := (List.getElem?_eq_some_iff.1 he).1
  refine band_split (by omega) (fun a f ha hf => ?_) (fun a f ha hf => ?_)
  · by_cases hai : a = i
    · subst hai; rw [he] at hf; injection hf with hf; subst hf; omega
    · have := hh.1 a f (by omega) hf; omega
  · have h1 := cmp_neg.1 (hr i a e f (by omega) he hf)
    have h2 := cmp_eq.1 hc
    exact cmp_pos.2 (by omega)
theorem halves_not {l : List Nat} {x i : Nat} (hi : i ≤ l.length) (hr : rising l) (hh : halves l x i i) (hc : ∀ e, l[i]? = some e → cmpN e x ≠ 0) : bandN l x = i := by
  refine band_split hi (fun a f ha hf => ?_) (fun a f ha hf => ?_)
  · have := hh.1 a f ha hf; omega
  · have h0 := hh.2 a f ha hf
    by_cases hai : a = i
    · subst hai; have := hc f hf; omega
    · have hlt := (List.getElem?_eq_some_iff.1 hf).1
      obtain ⟨e, he⟩ : ∃ e, l[i]? = some e := ⟨_, List.getElem?_eq_getElem (by omega)⟩
      have h1 := cmp_neg.1 (hr i a e f (by omega) he hf)
      have h2 := hh.2 i e (by omega) he
      have h3 := @cmp_neg e x
      exact cmp_pos.2 (by omega)
end Go.Proofs.Ytldhbodhpdhncaa
