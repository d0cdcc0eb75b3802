/- Measures in their order, and the band of the one in a place: no program in sight. -/
import Derived.Test.YtldhbodhpdhncaaMo
set_option linter.unusedSimpArgs false
set_option linter.unusedVariables false
namespace Go.Proofs.Ytldhbodhpdhncaa
open Go.Fl

/-- Where a number goes: behind those that are not above it. -/
def insN (x : Nat) : List Nat → List Nat
  | [] => [x]
  | y :: r => if cmpN y x ≤ 0 then y :: insN x r else x :: y :: r
/-- How many stand ahead of it. -/
def aheadN (x : Nat) : List Nat → Nat
  | [] => 0
  | y :: r => if cmpN y x ≤ 0 then aheadN x r + 1 else 0
def sortN (l : List Nat) : List Nat := l.foldl (fun o x => insN x o) []
theorem sortN_succ {l : List Nat} {k x : Nat} (h : l[k]? = some x) : sortN (l.take (k + 1)) = insN x (sortN (l.take k)) := by
  unfold sortN; rw [take_succ h, List.foldl_append]; rfl
theorem insN_eq (x : Nat) : ∀ l, insN x l = l.take (aheadN x l) ++ x :: l.drop (aheadN x l)
  | [] => rfl
  | y :: r => by
    unfold insN aheadN
    split
    · rw [insN_eq x r]; rfl
    · rfl
theorem ahead_le (x : Nat) : ∀ l, aheadN x l ≤ l.length
  | [] => Nat.le_refl _
  | y :: r => by
    unfold aheadN
    split
    · have := ahead_le x r; simp; omega
    · simp
theorem ahead_yes {x : Nat} : ∀ {l : List Nat} {k y : Nat}, k < aheadN x l → l[k]? = some y → cmpN y x ≤ 0
  | [], _, _, h, _ => by simp [aheadN] at h
  | z :: r, k, y, h, e => by
    unfold aheadN at h
    split at h
    · cases k with
      | zero => simp at e; subst e; assumption
      | succ k => exact ahead_yes (l := r) (k := k) (by omega) (by simpa using e)
    · omega
theorem ahead_no {x : Nat} : ∀ {l : List Nat} {y : Nat}, l[aheadN x l]? = some y → 0 < cmpN y x
  | [], _, e => by simp at e
  | z :: r, y, e => by
    unfold aheadN at e
    split at e
    · exact ahead_no (l := r) (by simpa using e)
    · simp at e; subst e; omega
/-- A scan that found as many ahead, and stands at the end or at one above, has found where a number goes. -/
theorem ahead_of {x : Nat} {l : List Nat} {k : Nat} (h1 : ∀ j y, j < k → l[j]? = some y → cmpN y x ≤ 0) (hk : k ≤ l.length) (h2 : ∀ y, l[k]? = some y → 0 < cmpN y x) : aheadN x l = k := by
  rcases Nat.lt_trichotomy (aheadN x l) k with h | h | h
  · obtain ⟨y, hy⟩ : ∃ y, l[aheadN x l]? = some y := ⟨_, List.getElem?_eq_getElem (by omega)⟩
    have := ahead_no hy
    have := h1 _ _ h hy
    omega
  · exact h
  · have hl := ahead_le x l
    obtain ⟨y, hy⟩ : ∃ y, l[k]? = some y := ⟨_, List.getElem?_eq_getElem (by omega)⟩
    have := ahead_yes h hy
    have := h2 _ hy
    omega
theorem insN_perm (x : Nat) : ∀ l, (insN x l).Perm (x :: l)
  | [] => List.Perm.refl _
  | y :: r => by
    unfold insN
    split
    · exact ((insN_perm x r).cons y).trans (List.Perm.swap x y r)
    · exact List.Perm.refl _
theorem foldl_perm : ∀ (l o : List Nat), (l.foldl (fun o x => insN x o) o).Perm (l ++ o)
  | [], o => List.Perm.refl _
  | x :: r, o => by
    rw [List.foldl_cons]
    refine (foldl_perm r _).trans ?_
    refine ((insN_perm x o).append_left r).trans ?_
    exact List.perm_middle
theorem sortN_perm (l : List Nat) : (sortN l).Perm l := by
  have := foldl_perm l []
  rw [List.append_nil] at this; exact this
theorem sortN_length (l : List Nat) : (sortN l).length = l.length := (sortN_perm l).length_eq
/-- In their order. -/
def upN (l : List Nat) : Prop := l.Pairwise fun a b => rk a ≤ rk b
theorem insN_up (x : Nat) : ∀ l, upN l → upN (insN x l)
  | [], _ => List.pairwise_singleton _ _
  | y :: r, h => by
    unfold insN
    obtain ⟨h1, h2⟩ := List.pairwise_cons.1 h
    split
    · rename_i hc
      refine List.pairwise_cons.2 ⟨fun z hz => ?_, insN_up x r h2⟩
      rcases List.mem_cons.1 ((insN_perm x r).mem_iff.1 hz) with e | e
      · subst e; exact cmp_le.1 hc
      · exact h1 z e
    · rename_i hc
      have hxy : rk x < rk y := cmp_pos.1 (by omega)
      refine List.pairwise_cons.2 ⟨fun z hz => ?_, h⟩
      rcases List.mem_cons.1 hz with e | e
      · subst e; omega
      · have := h1 z e; omega
theorem foldl_up : ∀ (l o : List Nat), upN o → upN (l.foldl (fun o x => insN x o) o)
  | [], o, h => h
  | x :: r, o, h => foldl_up r _ (insN_up x o h)
theorem sortN_up (l : List Nat) : upN (sortN l) := foldl_up l [] List.Pairwise.nil

theorem bandN_mono (E : List Nat) {x y : Nat} (h : rk x ≤ rk y) : bandN E x ≤ bandN E y := by
  unfold bandN
  refine List.countP_mono_left fun e _ he => ?_
  have := cmp_le.1 (of_decide_eq_true he)
  exact decide_eq_true (cmp_le.2 (by omega))
theorem sum_take_set {C : List Nat} {b i : Nat} (hb : b < C.length) : ((C.set b (C.getD b 0 + 1)).take i).sum = (C.take i).sum + if b < i then 1 else 0 := by
  rw [List.getD_eq_getElem?_getD, List.getElem?_eq_getElem hb]
  simp only [Option.getD_some]
  induction C generalizing b i with
  | nil => simp at hb
  | cons y r ih =>
    cases i with
    | zero => simp
    | succ i =>
      cases b with
      | zero => simp; omega
      | succ b =>
        have := ih (i := i) (by simpa using hb)
        simp only [List.set_cons_succ, List.take_succ_cons, List.sum_cons, List.getElem_cons_succ]
        rw [this]
        by_cases hbi : b < i
        · rw [if_pos hbi, if_pos (by omega)]; omega
        · rw [if_neg hbi, if_neg (by omega)]; omega
theorem foldl_sum_take (E : List Nat) (i : Nat) : ∀ (S C : List Nat), C.length = E.length + 1 → ((S.foldl (addC E) C).take i).sum = (C.take i).sum + S.countP fun x => decide (bandN E x < i)
  | [], _, _ => rfl
  | x :: r, C, h => by
    have hb := band_le E x
    rw [List.foldl_cons, foldl_sum_take E i r _ (by rw [addC_length]; exact h), List.countP_cons]
    have e : ((addC E C x).take i).sum = (C.take i).sum + if bandN E x < i then 1 else 0 := by
      unfold addC; exact sum_take_set (by omega)
    rw [e]
    by_cases hc : bandN E x < i
    · simp [hc]; omega
    · simp [hc]
theorem countN_take (E S : List Nat) (i : Nat) : ((countN E S).take i).sum = S.countP fun x => decide (bandN E x < i) := by
  unfold countN
  rw [foldl_sum_take E i S _ (by simp)]
  have : ((List.replicate (E.length + 1) 0).take i).sum = 0 := by
    rw [List.take_replicate]; simp
  omega
theorem countP_ge {p : Nat → Bool} {s : List Nat} {r : Nat} (hr : r < s.length) (h : ∀ j y, j ≤ r → s[j]? = some y → p y = true) : r + 1 ≤ s.countP p := by
  have e : s.countP p = (s.take (r + 1) ++ s.drop (r + 1)).countP p := by rw [List.take_append_drop]
  rw [e, List.countP_append]
  have e1 : (s.take (r + 1)).countP p = (s.take (r + 1)).length := by
    rw [List.countP_eq_length]
    intro y hy
    obtain ⟨a, ha⟩ := List.mem_iff_getElem?.1 hy
    rw [List.getElem?_take] at ha
    split at ha
    · exact h a y (by omega) ha
    · cases ha
  rw [e1, List.length_take]; omega
theorem countP_le {p : Nat → Bool} {s : List Nat} {r : Nat} (h : ∀ j y, r ≤ j → s[j]? = some y → p y = false) : s.countP p ≤ r := by
  have e : s.countP p = (s.take r ++ s.drop r).countP p := by rw [List.take_append_drop]
  rw [e, List.countP_append]
  have e1 : (s.drop r).countP p = 0 := by
    rw [List.countP_eq_zero]
    intro y hy
    obtain ⟨a, ha⟩ := List.mem_iff_getElem?.1 hy
    rw [List.getElem?_drop] at ha
    rw [h (r + a) y (by omega) ha]; simp
  have := List.countP_le_length (p := p) (l := s.take r)
  have := List.length_take_le r s
  omega
theorem up_get {s : List Nat} (h : upN s) {i j x y : Nat} (hij : i ≤ j) (hx : s[i]? = some x) (hy : s[j]? = some y) : rk x ≤ rk y := by
  rcases Nat.lt_or_ge i j with c | c
  · obtain ⟨h1, e1⟩ := List.getElem?_eq_some_iff.1 hx
    obtain ⟨h2, e2⟩ := List.getElem?_eq_some_iff.1 hy
    have := List.pairwise_iff_getElem.1 h i j h1 h2 c
    rw [e1, e2] at this; exact this
  · have : i = j := by omega
    subst this
    rw [hx] at hy; injection hy with hy; subst hy; exact Nat.le_refl _
/-- **THE BAND OF THE MEASURE IN A PLACE**: the one where the counts pass it. -/
theorem band_at {E S : List Nat} {r i x : Nat} (hx : (sortN S)[r]? = some x) (h1 : ((countN E S).take i).sum ≤ r) (h2 : r < ((countN E S).take (i + 1)).sum) : bandN E x = i := by
  have hr : r < (sortN S).length := (List.getElem?_eq_some_iff.1 hx).1
  have hu := sortN_up S
  rw [countN_take] at h1 h2
  rw [← (sortN_perm S).countP_eq] at h1 h2
  rcases Nat.lt_trichotomy (bandN E x) i with c | c | c
  · exfalso
    have := countP_ge (p := fun x => decide (bandN E x < i)) hr fun j y hj hy => by
      have := bandN_mono E (up_get hu hj hy hx)
      exact decide_eq_true (by omega)
    omega
  · exact c
  · exfalso
    have := countP_le (p := fun x => decide (bandN E x < i + 1)) (s := sortN S) (r := r) fun j y hj hy => by
      have := bandN_mono E (up_get hu hj hx hy)
      exact decide_eq_false (by omega)
    omega
end Go.Proofs.Ytldhbodhpdhncaa
