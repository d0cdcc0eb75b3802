/- The law's own look that the package works at all. -/
import Derived.Test.YtldhbodhpdhncaaMv
import Derived.Test.YtldhbodhpdhncaaMj
set_option linter.unusedSimpArgs false
set_option linter.unusedVariables false
namespace Go.Proofs.Ytldhbodhpdhncaa
open Go.ChangeShapes Go.WideShapes Go.RowKit Go.Mor Go.Fl

/-- 0, 10, 20. -/
abbrev edges3 : List Nat := [0, 4621819117588971520, 4626322717216342016]
theorem nanC (x : Nat) (b : Bool) (h : decide (9218868437227405312 < x % 9223372036854775808) = b) : nanB x = b := by rw [nan_rg]; unfold rg; exact h
theorem cmpC (x y : Nat) (r : Int) (h : (if (if decide (9218868437227405312 < x % 9223372036854775808) then 18446744073709551615 else if (x / 9223372036854775808 % 2 == 1) then 18446744073709551615 - x else x + 9223372036854775808) < (if decide (9218868437227405312 < y % 9223372036854775808) then 18446744073709551615 else if (y / 9223372036854775808 % 2 == 1) then 18446744073709551615 - y else y + 9223372036854775808) then (-1 : Int) else if (if decide (9218868437227405312 < y % 9223372036854775808) then 18446744073709551615 else if (y / 9223372036854775808 % 2 == 1) then 18446744073709551615 - y else y + 9223372036854775808) < (if decide (9218868437227405312 < x % 9223372036854775808) then 18446744073709551615 else if (x / 9223372036854775808 % 2 == 1) then 18446744073709551615 - x else x + 9223372036854775808) then 1 else 0) = r) : cmpN x y = r := by
  unfold cmpN rk; simp only [nan_rg]; unfold rg sgn; exact h
theorem new3 : newC edges3 = 0 := by
  simp only [newC, badK, List.length_cons, List.length_nil, List.drop_zero, badFrom, nanC 0 false (by decide), nanC 4621819117588971520 false (by decide), nanC 4626322717216342016 false (by decide), cmpC 0 4621819117588971520 (-1) (by decide), cmpC 4621819117588971520 4626322717216342016 (-1) (by decide)]
  decide
theorem new11 : newC [4607182418800017408, 4607182418800017408] = 2 := by
  simp only [newC, badK, List.length_cons, List.length_nil, List.drop_zero, badFrom, nanC 4607182418800017408 false (by decide), cmpC 4607182418800017408 4607182418800017408 0 (by decide)]
  decide
theorem newN : newC [9221120237041090561] = 1 := by
  simp only [newC, badK, List.length_cons, List.length_nil, List.drop_zero, badFrom, nanC 9221120237041090561 true (by decide)]
  decide
theorem new0 : newC [] = 7 := by decide
theorem new1 : newC [0] = 0 := by
  simp only [newC, badK, List.length_cons, List.length_nil, List.drop_zero, badFrom, nanC 0 false (by decide)]
  decide
/-- 0, 5, 10, 15, 20. -/
abbrev five : List Nat := [0, 4617315517961601024, 4621819117588971520, 4624633867356078080, 4626322717216342016]
theorem five_at {k : Nat} (h : k < 5) : five[k]? = some (floatOfInt .f64 (5 * (k : Int))) := by
  rcases k with _ | _ | _ | _ | _ | k
  all_goals first | omega | decide +kernel
abbrev fed6 : List Nat := five ++ [9221120237041090561]
theorem some6 : someN fed6 = five := by
  simp [someN, nanC 0 false (by decide), nanC 4617315517961601024 false (by decide), nanC 4621819117588971520 false (by decide), nanC 4624633867356078080 false (by decide), nanC 4626322717216342016 false (by decide), nanC 9221120237041090561 true (by decide)]
theorem bandC (x k : Nat) (h : ([0, 4621819117588971520, 4626322717216342016].countP fun e => decide (cmpN e x ≤ 0)) = k) : bandN edges3 x = k := by unfold bandN; exact h
theorem band3_0 : bandN edges3 0 = 1 := bandC _ _ (by simp [cmpC 0 0 0 (by decide), cmpC 4621819117588971520 0 1 (by decide), cmpC 4626322717216342016 0 1 (by decide)])
theorem band3_5 : bandN edges3 4617315517961601024 = 1 := bandC _ _ (by simp [cmpC 0 4617315517961601024 (-1) (by decide), cmpC 4621819117588971520 4617315517961601024 1 (by decide), cmpC 4626322717216342016 4617315517961601024 1 (by decide)])
theorem band3_10 : bandN edges3 4621819117588971520 = 2 := bandC _ _ (by simp [cmpC 0 4621819117588971520 (-1) (by decide), cmpC 4621819117588971520 4621819117588971520 0 (by decide), cmpC 4626322717216342016 4621819117588971520 1 (by decide)])
theorem band3_15 : bandN edges3 4624633867356078080 = 2 := bandC _ _ (by simp [cmpC 0 4624633867356078080 (-1) (by decide), cmpC 4621819117588971520 4624633867356078080 (-1) (by decide), cmpC 4626322717216342016 4624633867356078080 1 (by decide)])
theorem band3_20 : bandN edges3 4626322717216342016 = 3 := bandC _ _ (by simp [cmpC 0 4626322717216342016 (-1) (by decide), cmpC 4621819117588971520 4626322717216342016 (-1) (by decide), cmpC 4626322717216342016 4626322717216342016 0 (by decide)])
theorem band3_i : bandN edges3 18442240474082181120 = 0 := bandC _ _ (by simp [cmpC 0 18442240474082181120 1 (by decide), cmpC 4621819117588971520 18442240474082181120 1 (by decide), cmpC 4626322717216342016 18442240474082181120 1 (by decide)])
theorem count6 : countN edges3 five = [0, 2, 2, 1] := by
  simp [countN, addC, band3_0, band3_5, band3_10, band3_15, band3_20]
theorem count1 : countN edges3 [18442240474082181120] = [1, 0, 0, 0] := by
  simp [countN, addC, band3_i]
theorem least6 : leastN fed6 = 0 := by
  simp [leastN, stepL, nanC 0 false (by decide), nanC 4617315517961601024 false (by decide), nanC 4621819117588971520 false (by decide), nanC 4624633867356078080 false (by decide), nanC 4626322717216342016 false (by decide), nanC 9221120237041090561 true (by decide),
    cmpC 0 9218868437227405312 (-1) (by decide), cmpC 4617315517961601024 0 1 (by decide), cmpC 4621819117588971520 0 1 (by decide), cmpC 4624633867356078080 0 1 (by decide), cmpC 4626322717216342016 0 1 (by decide)]
theorem great6 : greatN fed6 = 4626322717216342016 := by
  simp [greatN, stepG, nanC 0 false (by decide), nanC 4617315517961601024 false (by decide), nanC 4621819117588971520 false (by decide), nanC 4624633867356078080 false (by decide), nanC 4626322717216342016 false (by decide), nanC 9221120237041090561 true (by decide),
    cmpC 0 18442240474082181120 1 (by decide), cmpC 4617315517961601024 0 1 (by decide), cmpC 4621819117588971520 4617315517961601024 1 (by decide), cmpC 4624633867356078080 4621819117588971520 1 (by decide), cmpC 4626322717216342016 4624633867356078080 1 (by decide)]
theorem sum6 : sumO five = some 4632233691727265792 := by
  unfold sumO stepS; decide +kernel
theorem sum1 : sumO [18442240474082181120] = some 18442240474082181120 := by
  unfold sumO stepS; decide +kernel
theorem some1 : someN [18442240474082181120] = [18442240474082181120] := by
  simp [someN, nanC 18442240474082181120 false (by decide)]
theorem neg_inf (w : World) : (Op.unary .neg (.float .f64 18442240474082181120)).run Try.prog w = .ok (.float .f64 9218868437227405312) w := by kernel_rfl
attribute [local go_sem ↓] neg_inf in
theorem isInf_neg (w : World) : Calls Try.prog 53 #[.float .f64 18442240474082181120, .int .i64 (-1)] w fun e w' => e = .returned (.bool true) ∧ w = w' := by
  have h : ltB 9218868437227405311 9218868437227405312 = true := by unfold ltB; simp only [nan_rg, sr_def]; unfold rg sgn; decide
  go_enter Try.func53, Try.ntmps53
  go_wp2
  go_ret
  exact ⟨rfl, rfl⟩
theorem add_val {x y v r : Nat} (hv : floatBits .add .f64 x y = some v) (h : resB .add x y r = true) : r = v := by
  have hk : okF .add x y = true := by unfold okF; rw [hv]; rfl
  have hw : valF .add x y = v := by unfold valF; rw [hv]; rfl
  unfold resB at h
  rw [hk, hw] at h
  simpa using h
theorem sum_end {r : Nat} (h : resB .add 4632233691727265792 18442240474082181120 r = true) : r = 18442240474082181120 := add_val (by decide +kernel) h
theorem step2 {r : Nat} (h : stepB 4607182418800017408 4602678819172646912 2 r = true) : r = 4611686018427387904 := by
  unfold stepB at h
  have e : floatBits .mul .f64 (floatOfInt .f64 2) 4602678819172646912 = some 4607182418800017408 := by decide +kernel
  rw [e] at h
  exact add_val (by decide +kernel) h
theorem mean_none {r : Nat} (h : partOf 0 0 r = true) : nanB r = true := by
  have hk : okF .quo 0 (floatOfInt .f64 0) = false := by unfold okF; decide +kernel
  unfold partOf resB at h
  rw [hk] at h
  simpa using h
theorem eqF0 : eqB 0 0 = true := by unfold eqB; decide +kernel
theorem eqF20 : eqB 4626322717216342016 4626322717216342016 = true := by unfold eqB; decide +kernel
end Go.Proofs.Ytldhbodhpdhncaa
