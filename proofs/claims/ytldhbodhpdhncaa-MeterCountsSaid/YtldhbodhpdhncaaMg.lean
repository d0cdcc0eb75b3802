/- Making a meter; what is wrong with edges. -/
import Derived.Test.YtldhbodhpdhncaaMf
set_option linter.unusedSimpArgs false
set_option linter.unusedVariables false
namespace Go.Proofs.Ytldhbodhpdhncaa
open Go.ChangeShapes Go.WideShapes Go.RowKit Go.Mor Go.Fl

attribute [go_sem] nan_ne
theorem quietAdd {P : Program} {f : FuncId} {args : Array Value} {w : World} {a n : Nat} {v : Value} (h : Calls P f args (w.drewN (a + n)) fun e w' => e = .returned v ∧ w.drewN (a + n) = w') : Calls P f args (w.drewN (a + n)) fun e w'' => e = .returned v ∧ ∃ m, w'' = w.drewN (a + m) :=
  h.mono fun _ _ ⟨he, hm⟩ => ⟨he, n, hm.symm⟩
theorem drawn_below (w : World) (d : Nat) : Below w.heap.size w (w.drewN d) := ⟨rfl, rfl, rfl, Nat.le_refl _, fun _ _ => rfl⟩
def badFrom (p : Nat) (first : Bool) : List Nat → Int
  | [] => 0
  | x :: r => if nanB x then 1 else if first = false ∧ 0 ≤ cmpN p x then 2 else badFrom x false r
def badK (l : List Nat) (k : Nat) : Int := badFrom (l.getD (k - 1) 0) (k == 0) (l.drop k)
def newC (l : List Nat) : Int := if l.length < 1 ∨ 63 < l.length then 7 else badK l 0
theorem badK_end (l : List Nat) (k : Nat) (h : l.length ≤ k) : badK l k = 0 := by
  unfold badK; rw [List.drop_eq_nil_of_le h]; rfl
theorem badK_nan {l : List Nat} {k x : Nat} (h : l[k]? = some x) (hn : nanB x = true) : badK l k = 1 := by
  obtain ⟨hlt, hx⟩ := List.getElem?_eq_some_iff.1 h
  unfold badK
  rw [List.drop_eq_getElem_cons hlt, hx]
  unfold badFrom; rw [if_pos hn]
theorem badK_down {l : List Nat} {k x y : Nat} (h : l[k + 1]? = some x) (g : l[k]? = some y) (hn : nanB x = false) (hc : 0 ≤ cmpN y x) : badK l (k + 1) = 2 := by
  obtain ⟨hlt, hx⟩ := List.getElem?_eq_some_iff.1 h
  unfold badK
  rw [List.drop_eq_getElem_cons hlt, hx]
  have e : l.getD (k + 1 - 1) 0 = y := by rw [List.getD_eq_getElem?_getD, Nat.add_sub_cancel, g]; rfl
  rw [e]
  unfold badFrom; rw [hn, if_neg (by simp), if_pos ⟨by simp, hc⟩]
theorem badK_up {l : List Nat} {k x y : Nat} (h : l[k + 1]? = some x) (g : l[k]? = some y) (hn : nanB x = false) (hc : cmpN y x < 0) : badK l (k + 1) = badK l (k + 2) := by
  obtain ⟨hlt, hx⟩ := List.getElem?_eq_some_iff.1 h
  have e : l.getD (k + 1 - 1) 0 = y := by rw [List.getD_eq_getElem?_getD, Nat.add_sub_cancel, g]; rfl
  have e2 : l.getD (k + 2 - 1) 0 = x := by rw [List.getD_eq_getElem?_getD, show k + 2 - 1 = k + 1 from rfl, h]; rfl
  unfold badK
  rw [List.drop_eq_getElem_cons hlt, hx, e, e2]
  show badFrom y _ (x :: _) = badFrom x _ _
  rw [badFrom, hn, if_neg (by simp), if_neg (by intro hh; omega)]
  rfl
theorem badK_first {l : List Nat} {x : Nat} (h : l[0]? = some x) (hn : nanB x = false) : badK l 0 = badK l 1 := by
  obtain ⟨hlt, hx⟩ := List.getElem?_eq_some_iff.1 h
  have e2 : l.getD (1 - 1) 0 = x := by rw [List.getD_eq_getElem?_getD, show 1 - 1 = 0 from rfl, h]; rfl
  unfold badK
  rw [List.drop_eq_getElem_cons hlt, hx, e2]
  show badFrom _ _ (x :: _) = badFrom x _ _
  rw [badFrom, hn, if_neg (by simp), if_neg (by simp)]
  rfl
theorem rising_of {l : List Nat} (h : ∀ a x y, l[a]? = some x → l[a + 1]? = some y → cmpN x y < 0) : rising l := by
  intro a b
  induction b with
  | zero => intro x y hab; omega
  | succ b ih =>
    intro x y hab hx hy
    by_cases e : a = b
    · subst e; exact h a x y hx hy
    · have hlt := (List.getElem?_eq_some_iff.1 hy).1
      obtain ⟨z, hz⟩ : ∃ z, l[b]? = some z := ⟨_, List.getElem?_eq_getElem (by omega)⟩
      have h1 := cmp_neg.1 (ih x z (by omega) hx hz)
      have h2 := cmp_neg.1 (h b z y hz hy)
      exact cmp_neg.2 (by omega)
set_option maxHeartbeats 1000000 in
set_option maxRecDepth 100000 in
theorem refNew_any (A : Option Addr) (n c : Nat) (l : List Nat) (w : World) (hl : l.length = n) (hm : n ≤ 100000) (hs : Flt w A l) (hf : fits l) :
    Calls Try.prog 34 #[.slice A n c] w fun e w' => e = .returned (.int .i64 (newC l)) ∧ Below w.heap.size w w' := by
  have HS := hid hs
  have HF := hid hf
  have HL := hid hl
  clear hs hf hl
  by_cases h1 : n < 1 ∨ 63 < n
  · have e : newC l = 7 := by unfold newC; rw [HL.out, if_pos h1]
    rw [e]
    rcases h1 with h1 | h1
    · go_enter Try.func34, Try.ntmps34
      go_wp2
      go_ret
      exact ⟨rfl, Below.refl _ _⟩
    · have h2 : (63 : Int) < (n : Int) := by omega
      go_enter Try.func34, Try.ntmps34
      go_wp2
      go_ret
      exact ⟨rfl, Below.refl _ _⟩
  · have e : newC l = badK l 0 := by unfold newC; rw [HL.out, if_neg h1]
    have HE := hid e
    have h2 : (1 : Int) ≤ (n : Int) := by omega
    have h3 : (n : Int) ≤ 63 := by omega
    clear e h1
    go_enter Try.func34, Try.ntmps34
    go_wp2
    go_loopw [3] (fun i wr => ∃ k d : Nat, k ≤ n ∧ i = .int .i64 k ∧ wr = w.drewN d ∧ Hid (newC l = badK l k)) (fun i _ => n - (intOf i).toNat)
    case atStart => exact ⟨0, 0, Nat.zero_le _, rfl, rfl, HE⟩
    case round =>
      obtain ⟨k, d, hk, rfl, rfl, HK⟩ := hrel
      by_cases hlt : k < n
      · obtain ⟨x, hx⟩ : ∃ x, l[k]? = some x := ⟨_, List.getElem?_eq_getElem (by have := HL.out; omega)⟩
        obtain ⟨g, o, rfl, hb, hc⟩ := HS.out.at hx
        have hi0 : (0 : Int) ≤ (k : Int) := by omega
        have hi1 : (k : Int) < (n : Int) := by omega
        have LX := hid (fits_get HF.out hx)
        have HX := hid hx
        clear hx
        cases hn : nanB x with
        | true =>
          go_wp2
          go_quiet (fail)
          go_wp2
          go_ret
          exact ⟨ret_i (by rw [HK.out, badK_nan HX.out hn]), rfl, rfl, rfl, Nat.le_refl _, fun _ _ => rfl⟩
        | false =>
          go_wp2
          go_quiet (fail)
          go_wp2
          rcases Nat.eq_zero_or_pos k with h0 | h0
          · have hg : decide ((0 : Int) < (k : Int)) = false := by simp; omega
            have hg2 : ¬ ((0 : Int) < (k : Int)) := by omega
            go_quiet (fail)
            go_wp2
            refine ⟨⟨k + 1, _, by omega, by go_num, rfl, hid ?_⟩, by simp [intOf]; omega⟩
            subst h0
            rw [HK.out, badK_first HX.out hn]
          · obtain ⟨j, rfl⟩ : ∃ j, k = j + 1 := ⟨k - 1, by omega⟩
            obtain ⟨y, hy⟩ : ∃ y, l[j]? = some y := ⟨_, List.getElem?_eq_getElem (by have := HL.out; omega)⟩
            obtain ⟨g2, o2, hA, hb2, hc2⟩ := HS.out.at hy
            injection hA with hA
            injection hA with hA1 hA2
            subst hA1
            subst hA2
            have LY := hid (fits_get HF.out hy)
            have HY := hid hy
            clear hy
            have hsub : IntKind.i64.wrap ((j : Int) + 1 - 1) = (j : Int) := by rw [Int.add_sub_cancel]; exact IntWalk.i64_in _ (by omega)
            have hi2 : (j : Int) < (n : Int) := by omega
            have hi3 : (0 : Int) < (j : Int) + 1 := by omega
            go_quiet ((go_at_call 17; exact quietAdd (refCompare_any _ _ _ LY.out LX.out)))
            go_wp2
            · go_ret
              exact ⟨ret_i (by rw [HK.out, badK_down HX.out HY.out hn (by assumption)]), drawn_below _ _⟩
            · refine ⟨⟨j + 2, _, by omega, by go_num, rfl, hid ?_⟩, by simp [intOf]; omega⟩
              rw [HK.out, badK_up HX.out HY.out hn (by assumption)]
      · go_wp2
        go_ret
        exact ⟨ret_i (by rw [HK.out, badK_end l k (by have := HL.out; omega)]), rfl, rfl, rfl, Nat.le_refl _, fun _ _ => rfl⟩
/-- Edges that are as they should be. -/
theorem newC_ok {l : List Nat} (h : newC l = 0) : 1 ≤ l.length ∧ l.length ≤ 63 ∧ rising l := by
  unfold newC at h
  split at h
  · cases h
  · rename_i hl
    refine ⟨by omega, by omega, rising_of fun a x y hx hy => ?_⟩
    have step : ∀ k, k ≤ l.length → badK l k = 0 := by
      intro k
      induction k with
      | zero => intro _; exact h
      | succ k ih =>
        intro hk
        have h0 := ih (by omega)
        obtain ⟨z, hz⟩ : ∃ z, l[k]? = some z := ⟨_, List.getElem?_eq_getElem (by omega)⟩
        cases hn : nanB z with
        | true => rw [badK_nan hz hn] at h0; cases h0
        | false =>
          cases k with
          | zero => rw [badK_first hz hn] at h0; exact h0
          | succ j =>
            obtain ⟨q, hq⟩ : ∃ q, l[j]? = some q := ⟨_, List.getElem?_eq_getElem (by omega)⟩
            by_cases hc : cmpN q z < 0
            · rw [badK_up hz hq hn hc] at h0; exact h0
            · rw [badK_down hz hq hn (by omega)] at h0; cases h0
    have hlt := (List.getElem?_eq_some_iff.1 hy).1
    have h0 := step (a + 1) (by omega)
    cases hn : nanB y with
    | true => rw [badK_nan hy hn] at h0; cases h0
    | false =>
      by_cases hc : cmpN x y < 0
      · exact hc
      · rw [badK_down hy hx hn (by omega)] at h0; cases h0
end Go.Proofs.Ytldhbodhpdhncaa
