/- The reference's order of numbers; the bits of a number. -/
import Derived.Test.YtldhbodhpdhncaaRc
set_option linter.unusedSimpArgs false
set_option linter.unusedVariables false
namespace Go.Proofs.Ytldhbodhpdhncaa
open Go.ChangeShapes Go.WideShapes Go.RowKit Go.Mor Go.Fl

@[irreducible] def ltB (x y : Nat) : Bool := !nanB x && !nanB y && decide (sr x < sr y)
@[go_sem] theorem order_lt (x y : Nat) : (FloatKind.f64.format.order x y == some Ordering.lt) = ltB x y := by
  show (Ieee.double.order x y == some Ordering.lt) = ltB x y
  rw [order_eq, cmp_def]
  unfold ltB
  cases nanB x <;> cases nanB y <;> simp
  by_cases h : sr x < sr y
  · simp [h]
  · by_cases h2 : sr x = sr y <;> simp [h, h2]
@[go_sem] theorem order_gt (x y : Nat) : (FloatKind.f64.format.order x y == some Ordering.gt) = ltB y x := by
  show (Ieee.double.order x y == some Ordering.gt) = ltB y x
  rw [order_eq, cmp_def]
  unfold ltB
  cases nanB x <;> cases nanB y <;> simp
  by_cases h : sr x < sr y
  · simp [h]; omega
  · by_cases h2 : sr x = sr y
    · simp [h2]
    · simp [h, h2]; omega

theorem nan_rg {x : Nat} : nanB x = decide (9218868437227405312 < rg x) := by unfold nanB; rfl
theorem rg_lt (x : Nat) : rg x < 9223372036854775808 := by unfold rg; omega
theorem bits_rg {x : Nat} (h : x < 18446744073709551616) : x = if sgn x then 9223372036854775808 + rg x else rg x := by
  unfold rg
  cases hs : sgn x
  · have := sgn_false h hs; simp; omega
  · have := sgn_true h hs; simp; omega
/-- The rank of a number that is some, by its sign and size. -/
theorem rk_some {x : Nat} (h : x < 18446744073709551616) (hn : nanB x = false) : (rk x : Int) = if sgn x then 9223372036854775807 - (rg x : Int) else 9223372036854775808 + (rg x : Int) := by
  have e := bits_rg h
  have l := rg_lt x
  unfold rk
  rw [hn]
  cases hs : sgn x <;> rw [hs] at e <;> simp at e ⊢ <;> omega
theorem rk_nan {x : Nat} (hn : nanB x = true) : rk x = 18446744073709551615 := by unfold rk; rw [hn]; rfl
theorem sr_def (x : Nat) : sr x = if sgn x then -(rg x : Int) else (rg x : Int) := by unfold sr; rfl
theorem rk_lt_nan {x y : Nat} (h : x < 18446744073709551616) (hn : nanB x = false) (hy : nanB y = true) : rk x < rk y := by
  have e := rk_some h hn
  have l := rg_lt x
  rw [nan_rg] at hn
  have : rg x ≤ 9218868437227405312 := by simpa using hn
  rw [rk_nan hy]
  split at e <;> omega
theorem cmp_same {x y : Nat} (h : sameB x y = true) : cmpN x y = 0 := by
  have : rk x = rk y := by
    unfold sameB at h
    cases hx : nanB x <;> cases hy : nanB y <;> rw [hx, hy] at h <;> simp at h
    · rw [h]
    · rw [rk_nan hx, rk_nan hy]
  unfold cmpN; rw [if_neg (by omega), if_neg (by omega)]
theorem cmp_nan_left {x y : Nat} (hy : y < 18446744073709551616) (h : sameB x y = false) (hn : nanB x = true) : cmpN x y = 1 := by
  have hny : nanB y = false := by
    cases hny : nanB y
    · rfl
    · unfold sameB at h; rw [hn, hny] at h; simp at h
  have := rk_lt_nan hy hny hn
  unfold cmpN; rw [if_neg (by omega), if_pos this]
theorem cmp_nan_right {x y : Nat} (hx : x < 18446744073709551616) (hn : nanB x = false) (hy : nanB y = true) : cmpN x y = -1 := by
  have := rk_lt_nan hx hn hy
  unfold cmpN; rw [if_pos this]
theorem cmp_lt {x y : Nat} (hx : x < 18446744073709551616) (hy : y < 18446744073709551616) (h : ltB x y = true) : cmpN x y = -1 ∧ cmpN y x = 1 := by
  unfold ltB at h
  simp at h
  obtain ⟨⟨nx, ny⟩, h⟩ := h
  have ex := rk_some hx nx
  have ey := rk_some hy ny
  rw [sr_def, sr_def] at h
  have : rk x < rk y := by
    split at ex <;> split at ey <;> simp_all <;> omega
  unfold cmpN
  exact ⟨by rw [if_pos this], by rw [if_neg (by omega), if_pos this]⟩
/-- Neither is below the other one, and they are not the same: noughts of two signs. -/
theorem cmp_level {x y : Nat} (hx : x < 18446744073709551616) (hy : y < 18446744073709551616) (nx : nanB x = false) (ny : nanB y = false) (h : ltB x y = false) (g : ltB y x = false) (hs : sameB x y = false) : cmpN x y = if sgn x then -1 else 1 := by
  have e1 := bits_rg hx
  have e2 := bits_rg hy
  have l1 := rg_lt x
  have l2 := rg_lt y
  have ex := rk_some hx nx
  have ey := rk_some hy ny
  unfold ltB at h g
  rw [nx, ny] at h g
  simp at h g
  have e : sr x = sr y := by omega
  have ne : x ≠ y := by
    unfold sameB at hs
    rw [nx, ny] at hs
    simpa using hs
  rw [sr_def, sr_def] at e
  unfold cmpN
  cases hsx : sgn x <;> cases hsy : sgn y <;> rw [hsx] at e e1 ex <;> rw [hsy] at e e2 ey <;> simp at e e1 e2 ex ey ⊢ <;> omega

set_option maxRecDepth 100000 in
theorem refCompare_any (x y : Nat) (w : World) (hx : x < 18446744073709551616) (hy : y < 18446744073709551616) : Calls Try.prog 17 #[.float .f64 x, .float .f64 y] w fun e w' => e = .returned (.int .i64 (cmpN x y)) ∧ w = w' := by
  have HX := hid hx
  have HY := hid hy
  clear hx hy
  go_enter Try.func17, Try.ntmps17
  go_wp2_with (first | (go_at_call 55; refine (none_any _ _).mono ?_; rintro e w' ⟨rfl, rfl⟩) | (go_at_call 19; refine (refSame_any _ _ _).mono ?_; rintro e w' ⟨rfl, rfl⟩) | (go_at_call 12; refine (refKind_any _ _ HX.out).mono ?_; rintro e w' ⟨rfl, rfl⟩))
  all_goals
    go_ret
    refine ⟨ret_i ?_, rfl⟩
    have hx := HX.out
    have hy := HY.out
    try simp only [Bool.not_eq_true] at *
    first
      | exact (cmp_same (by assumption)).symm
      | exact (cmp_lt hx hy (by assumption)).1.symm
      | exact (cmp_lt hy hx (by assumption)).2.symm
      | exact (cmp_nan_left hy (by assumption) (by assumption)).symm
      | exact (cmp_nan_right hx (by assumption) (by assumption)).symm
      | (rw [cmp_level hx hy (by assumption) (by assumption) (by assumption) (by assumption) (by assumption)]; first | rw [if_pos (by assumption)] | rw [if_neg (by rw [Bool.not_eq_true]; assumption)])

@[irreducible] def bitsN (x : Nat) : Nat := if nanB x then 9221120237041090561 else x
theorem bitsN_yes {x : Nat} (h : nanB x = true) : bitsN x = 9221120237041090561 := by unfold bitsN; rw [h]; rfl
theorem bitsN_no {x : Nat} (h : nanB x = false) : bitsN x = x := by unfold bitsN; rw [h]; rfl
theorem bits_any (x : Nat) (w : World) : Calls Try.prog 14 #[.float .f64 x] w fun e w' => e = .returned (.int .u64 (bitsN x : Int)) ∧ w = w' := by
  go_enter Try.func14, Try.ntmps14
  go_wp2_with (go_at_call 13; refine (isnan_any _ _).mono ?_; rintro e w' ⟨rfl, rfl⟩)
  all_goals
    go_ret
    refine ⟨ret_u ?_, rfl⟩
    first | (rw [bitsN_yes (by assumption)]; rfl) | rw [bitsN_no (by assumption)]
theorem bits_nan {x : Nat} (h : nanB x = true) : nanB (bitsN x) = true := by rw [bitsN_yes h]; unfold nanB rg; decide
end Go.Proofs.Ytldhbodhpdhncaa
