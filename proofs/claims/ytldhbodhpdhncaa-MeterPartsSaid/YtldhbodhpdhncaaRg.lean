/- The least and the greatest of numbers. -/
import Derived.Test.YtldhbodhpdhncaaRf
import Derived.Test.YtldhbodhpdhncaaBaseC
set_option linter.unusedSimpArgs false
set_option linter.unusedVariables false
namespace Go.Proofs.Ytldhbodhpdhncaa
open Go.ChangeShapes Go.WideShapes Go.RowKit Go.Mor Go.Fl

/-- A slice of numbers reads as the list. -/
def Flt (w : World) (A : Option Addr) (l : List Nat) : Prop := l = [] ∨ ∃ b off, A = some ⟨b, off, none⟩ ∧ b < w.heap.size ∧ ∀ j x, l[j]? = some x → w.cell? ⟨b, off + j, none⟩ = some (.float .f64 x)
def fits (l : List Nat) : Prop := ∀ x ∈ l, x < 18446744073709551616
@[irreducible] def stepL (best x : Nat) : Nat := if nanB x then best else if cmpN x best < 0 then x else best
@[irreducible] def stepG (best x : Nat) : Nat := if nanB x then best else if 0 < cmpN x best then x else best
@[irreducible] def leastN (l : List Nat) : Nat := l.foldl stepL 9218868437227405312
@[irreducible] def greatN (l : List Nat) : Nat := l.foldl stepG 18442240474082181120
theorem leastN_nil : leastN [] = 9218868437227405312 := by unfold leastN; rfl
theorem greatN_nil : greatN [] = 18442240474082181120 := by unfold greatN; rfl
theorem take_succ {l : List Nat} {k x : Nat} (h : l[k]? = some x) : l.take (k + 1) = l.take k ++ [x] := by
  rw [List.take_add_one, h]; rfl
theorem leastN_succ {l : List Nat} {k x : Nat} (h : l[k]? = some x) : leastN (l.take (k + 1)) = stepL (leastN (l.take k)) x := by
  unfold leastN; rw [take_succ h, List.foldl_append]; rfl
theorem greatN_succ {l : List Nat} {k x : Nat} (h : l[k]? = some x) : greatN (l.take (k + 1)) = stepG (greatN (l.take k)) x := by
  unfold greatN; rw [take_succ h, List.foldl_append]; rfl
theorem stepL_nan {b x : Nat} (h : nanB x = true) : stepL b x = b := by unfold stepL; rw [h]; rfl
theorem stepL_yes {b x : Nat} (h : nanB x = false) (g : cmpN x b < 0) : stepL b x = x := by unfold stepL; rw [h, if_pos g]; rfl
theorem stepL_no {b x : Nat} (h : nanB x = false) (g : 0 ≤ cmpN x b) : stepL b x = b := by unfold stepL; rw [h]; simp; omega
theorem stepG_nan {b x : Nat} (h : nanB x = true) : stepG b x = b := by unfold stepG; rw [h]; rfl
theorem stepG_yes {b x : Nat} (h : nanB x = false) (g : 0 < cmpN x b) : stepG b x = x := by unfold stepG; rw [h, if_pos g]; rfl
theorem stepG_no {b x : Nat} (h : nanB x = false) (g : cmpN x b ≤ 0) : stepG b x = b := by unfold stepG; rw [h]; simp; omega
theorem stepL_lt {b x : Nat} (hb : b < 18446744073709551616) (hx : x < 18446744073709551616) : stepL b x < 18446744073709551616 := by
  unfold stepL; split; · exact hb
  split <;> assumption
theorem stepG_lt {b x : Nat} (hb : b < 18446744073709551616) (hx : x < 18446744073709551616) : stepG b x < 18446744073709551616 := by
  unfold stepG; split; · exact hb
  split <;> assumption
theorem ret_ff {a b c d : Nat} (h : a = b) (g : c = d) : Ending.returned (.tuple #[.float .f64 a, .float .f64 c]) = .returned (.tuple #[.float .f64 b, .float .f64 d]) := by rw [h, g]
theorem fits_get {l : List Nat} (h : fits l) {k x : Nat} (hx : l[k]? = some x) : x < 18446744073709551616 := h x (List.mem_of_getElem? hx)

set_option maxHeartbeats 1000000 in
theorem span_any (A : Option Addr) (n c : Nat) (l : List Nat) (w : World) (hl : l.length = n) (hm : n ≤ 100000) (hs : Flt w A l) (hf : fits l) :
    Calls Try.prog 24 #[.slice A n c] w fun e w' => e = .returned (.tuple #[.float .f64 (leastN l), .float .f64 (greatN l)]) ∧ w = w' := by
  have HS := hid hs
  have HF := hid hf
  have HL := hid hl
  clear hs hf hl
  go_enter Try.func24, Try.ntmps24
  go_wp2_with (go_at_call 52; refine (inf_any _ _ _ rfl).mono ?_; rintro e w' ⟨rfl, rfl⟩)
  go_loop [4, 5, 7, 12] (fun lo hi _ i => ∃ k L G : Nat, k ≤ n ∧ i = .int .i64 k ∧ lo = .float .f64 L ∧ hi = .float .f64 G ∧ L = leastN (l.take k) ∧ G = greatN (l.take k) ∧ L < 18446744073709551616 ∧ G < 18446744073709551616) (fun _ _ _ i => n - (intOf i).toNat)
  case atStart => exact ⟨0, _, _, Nat.zero_le _, rfl, rfl, rfl, by rw [List.take_zero, leastN_nil], by rw [List.take_zero, greatN_nil], by decide, by decide⟩
  case round =>
    obtain ⟨k, L, G, hk, rfl, rfl, rfl, eL, eG, lL, lG⟩ := hrel
    have EL := hid eL
    have EG := hid eG
    have LL := hid lL
    have LG := hid lG
    clear eL eG lL lG
    by_cases hlt : k < n
    · obtain ⟨x, hxx⟩ : ∃ x, l[k]? = some x := ⟨_, List.getElem?_eq_getElem (by have := HL.out; omega)⟩
      obtain ⟨b, o, rfl, hb, hc⟩ : ∃ b off, A = some ⟨b, off, none⟩ ∧ within b w = true ∧ w.cell? ⟨b, off + k, none⟩ = some (.float .f64 x) := by
        rcases HS.out with h | ⟨b, off, h1, h2, h3⟩
        · subst h; simp at hxx
        · exact ⟨b, off, h1, within_of h2, h3 k _ hxx⟩
      have hi0 : (0 : Int) ≤ (k : Int) := by omega
      have hi1 : (k : Int) < (n : Int) := by omega
      have SL := hid (leastN_succ hxx)
      have SG := hid (greatN_succ hxx)
      have LX := hid (fits_get HF.out hxx)
      clear hxx
      go_wp2_with (first | (go_at_call 13; refine (isnan_any _ _).mono ?_; rintro e w' ⟨rfl, rfl⟩) | (go_at_call 16; refine (compare_any _ _ _ LX.out (by first | exact LL.out | exact LG.out)).mono ?_; rintro e w' ⟨rfl, rfl⟩))
      all_goals
        refine ⟨⟨k + 1, _, _, by omega, by go_num, rfl, rfl, ?_, ?_, ?_, ?_⟩, by simp [intOf]; omega⟩
        · rw [SL.out, ← EL.out]
          first | exact (stepL_nan (by assumption)).symm | exact (stepL_yes (by assumption) (by assumption)).symm | exact (stepL_no (by assumption) (by assumption)).symm
        · rw [SG.out, ← EG.out]
          first | exact (stepG_nan (by assumption)).symm | exact (stepG_yes (by assumption) (by assumption)).symm | exact (stepG_no (by assumption) (by assumption)).symm
        · first | exact LL.out | exact LX.out
        · first | exact LG.out | exact LX.out
    · have hkn : k = n := by omega
      go_wp2
      go_ret2
      refine ⟨ret_ff ?_ ?_, rfl⟩
      · rw [EL.out, List.take_of_length_le (by have := HL.out; omega)]
      · rw [EG.out, List.take_of_length_le (by have := HL.out; omega)]

set_option maxHeartbeats 1000000 in
theorem least_any (A : Option Addr) (n c : Nat) (l : List Nat) (w : World) (hl : l.length = n) (hm : n ≤ 100000) (hs : Flt w A l) (hf : fits l) :
    Calls Try.prog 25 #[.slice A n c] w fun e w' => e = .returned (.float .f64 (leastN l)) ∧ w = w' := by
  have HS := hid hs
  have HF := hid hf
  have HL := hid hl
  clear hs hf hl
  go_enter Try.func25, Try.ntmps25
  go_wp2_with (go_at_call 52; refine (inf_any _ _ _ rfl).mono ?_; rintro e w' ⟨rfl, rfl⟩)
  go_loop [3, 4] (fun lo i => ∃ k L : Nat, k ≤ n ∧ i = .int .i64 k ∧ lo = .float .f64 L ∧ L = leastN (l.take k) ∧ L < 18446744073709551616) (fun _ i => n - (intOf i).toNat)
  case atStart => exact ⟨0, _, Nat.zero_le _, rfl, rfl, by rw [List.take_zero, leastN_nil], by decide⟩
  case round =>
    obtain ⟨k, L, hk, rfl, rfl, eL, lL⟩ := hrel
    have EL := hid eL
    have LL := hid lL
    clear eL lL
    by_cases hlt : k < n
    · obtain ⟨x, hxx⟩ : ∃ x, l[k]? = some x := ⟨_, List.getElem?_eq_getElem (by have := HL.out; omega)⟩
      obtain ⟨b, o, rfl, hb, hc⟩ : ∃ b off, A = some ⟨b, off, none⟩ ∧ within b w = true ∧ w.cell? ⟨b, off + k, none⟩ = some (.float .f64 x) := by
        rcases HS.out with h | ⟨b, off, h1, h2, h3⟩
        · subst h; simp at hxx
        · exact ⟨b, off, h1, within_of h2, h3 k _ hxx⟩
      have hi0 : (0 : Int) ≤ (k : Int) := by omega
      have hi1 : (k : Int) < (n : Int) := by omega
      have SL := hid (leastN_succ hxx)
      have LX := hid (fits_get HF.out hxx)
      clear hxx
      go_wp2_with (first | (go_at_call 55; refine (none_any _ _).mono ?_; rintro e w' ⟨rfl, rfl⟩) | (go_at_call 17; refine (refCompare_any _ _ _ LX.out LL.out).mono ?_; rintro e w' ⟨rfl, rfl⟩))
      all_goals
        try simp only [Bool.not_eq_true] at *
        refine ⟨⟨k + 1, _, by omega, by go_num, rfl, ?_, ?_⟩, by simp [intOf]; omega⟩
        · rw [SL.out, ← EL.out]
          first | exact (stepL_nan (by assumption)).symm | exact (stepL_yes (by assumption) (by assumption)).symm | exact (stepL_no (by assumption) (by assumption)).symm
        · first | exact LL.out | exact LX.out
    · have hkn : k = n := by omega
      go_wp2
      go_ret
      refine ⟨ret_f ?_, rfl⟩
      rw [EL.out, List.take_of_length_le (by have := HL.out; omega)]
set_option maxHeartbeats 1000000 in
theorem greatest_any (A : Option Addr) (n c : Nat) (l : List Nat) (w : World) (hl : l.length = n) (hm : n ≤ 100000) (hs : Flt w A l) (hf : fits l) :
    Calls Try.prog 26 #[.slice A n c] w fun e w' => e = .returned (.float .f64 (greatN l)) ∧ w = w' := by
  have HS := hid hs
  have HF := hid hf
  have HL := hid hl
  clear hs hf hl
  go_enter Try.func26, Try.ntmps26
  go_wp2_with (go_at_call 52; refine (inf_any _ _ _ rfl).mono ?_; rintro e w' ⟨rfl, rfl⟩)
  go_loop [3, 4] (fun lo i => ∃ k L : Nat, k ≤ n ∧ i = .int .i64 k ∧ lo = .float .f64 L ∧ L = greatN (l.take k) ∧ L < 18446744073709551616) (fun _ i => n - (intOf i).toNat)
  case atStart => exact ⟨0, _, Nat.zero_le _, rfl, rfl, by rw [List.take_zero, greatN_nil], by decide⟩
  case round =>
    obtain ⟨k, L, hk, rfl, rfl, eL, lL⟩ := hrel
    have EL := hid eL
    have LL := hid lL
    clear eL lL
    by_cases hlt : k < n
    · obtain ⟨x, hxx⟩ : ∃ x, l[k]? = some x := ⟨_, List.getElem?_eq_getElem (by have := HL.out; omega)⟩
      obtain ⟨b, o, rfl, hb, hc⟩ : ∃ b off, A = some ⟨b, off, none⟩ ∧ within b w = true ∧ w.cell? ⟨b, off + k, none⟩ = some (.float .f64 x) := by
        rcases HS.out with h | ⟨b, off, h1, h2, h3⟩
        · subst h; simp at hxx
        · exact ⟨b, off, h1, within_of h2, h3 k _ hxx⟩
      have hi0 : (0 : Int) ≤ (k : Int) := by omega
      have hi1 : (k : Int) < (n : Int) := by omega
      have SL := hid (greatN_succ hxx)
      have LX := hid (fits_get HF.out hxx)
      clear hxx
      go_wp2_with (first | (go_at_call 55; refine (none_any _ _).mono ?_; rintro e w' ⟨rfl, rfl⟩) | (go_at_call 17; refine (refCompare_any _ _ _ LX.out LL.out).mono ?_; rintro e w' ⟨rfl, rfl⟩))
      all_goals
        try simp only [Bool.not_eq_true] at *
        refine ⟨⟨k + 1, _, by omega, by go_num, rfl, ?_, ?_⟩, by simp [intOf]; omega⟩
        · rw [SL.out, ← EL.out]
          first | exact (stepG_nan (by assumption)).symm | exact (stepG_yes (by assumption) (by assumption)).symm | exact (stepG_no (by assumption) (by assumption)).symm
        · first | exact LL.out | exact LX.out
    · have hkn : k = n := by omega
      go_wp2
      go_ret
      refine ⟨ret_f ?_, rfl⟩
      rw [EL.out, List.take_of_length_le (by have := HL.out; omega)]
end Go.Proofs.Ytldhbodhpdhncaa
