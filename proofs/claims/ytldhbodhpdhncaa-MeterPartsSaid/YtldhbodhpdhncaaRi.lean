/- The first words of every law on numbers: that the package works at all. -/
import Derived.Test.YtldhbodhpdhncaaRh
set_option linter.unusedSimpArgs false
set_option linter.unusedVariables false
namespace Go.Proofs.Ytldhbodhpdhncaa
open Go.ChangeShapes Go.WideShapes Go.RowKit Go.Mor Go.Fl

theorem copysign_is (w : World) : Calls Try.prog 50 #[.float .f64 0, .float .f64 13830554455654793216] w fun e w' => e = .returned (.float .f64 9223372036854775808) ∧ w = w' := by
  go_enter Try.func50, Try.ntmps50
  go_wp2
  go_ret
  exact ⟨rfl, rfl⟩
theorem isInf_is (w : World) : Calls Try.prog 53 #[.float .f64 9218868437227405312, .int .i64 1] w fun e w' => e = .returned (.bool true) ∧ w = w' := by
  have h : ltB 9218868437227405311 9218868437227405312 = true := by unfold ltB; simp only [nan_rg, sr_def]; unfold rg sgn; decide
  go_enter Try.func53, Try.ntmps53
  go_wp2
  go_ret
  exact ⟨rfl, rfl⟩
theorem kind_is (w : World) : Calls Try.prog 11 #[.float .f64 9223372036854775808] w fun e w' => e = .returned (.tuple #[.int .i64 2, .bool true]) ∧ w = w' := by
  have h : kindN 9223372036854775808 = 2 := by unfold kindN rg; decide
  have g : sgn 9223372036854775808 = true := by unfold sgn; decide
  have k := kind_any 9223372036854775808 w (by decide)
  rwa [h, g] at k
theorem valI_a : valI 13837084675114480435 = -2 := by unfold valI; decide +kernel
theorem nan_a : nanB 13837084675114480435 = false := by rw [nan_rg]; unfold rg; decide
theorem lt_a1 : ltB 13837084675114480435 14010698440749613056 = false := by unfold ltB; simp only [nan_rg, sr_def]; unfold rg sgn; decide
theorem lt_a2 : ltB 4787326403894837248 13837084675114480435 = false := by unfold ltB; simp only [nan_rg, sr_def]; unfold rg sgn; decide
theorem nan_n : nanB 9221120237041090561 = true := by rw [nan_rg]; unfold rg; decide
theorem nan_i : nanB 9218868437227405312 = false := by rw [nan_rg]; unfold rg; decide
theorem lt_i : ltB 4787326403894837248 9218868437227405312 = true := by unfold ltB; simp only [nan_rg, sr_def]; unfold rg sgn; decide
theorem wA1 : wholeN 13837084675114480435 = -2 := by unfold wholeN; rw [nan_a, lt_a1, lt_a2]; exact valI_a
theorem wA2 : wholeC 13837084675114480435 = 0 := by unfold wholeC; rw [nan_a, lt_a1, lt_a2]; rfl
theorem wB1 : wholeN 9221120237041090561 = 0 := by unfold wholeN; rw [nan_n]; rfl
theorem wB2 : wholeC 9221120237041090561 = 1 := by unfold wholeC; rw [nan_n]; rfl
theorem wC1 : wholeN 9218868437227405312 = 0 := by unfold wholeN; rw [nan_i, lt_i, Bool.or_true]; rfl
theorem wC2 : wholeC 9218868437227405312 = 2 := by unfold wholeC; rw [nan_i, lt_i, Bool.or_true]; rfl
theorem cA : cmpN 9223372036854775808 0 = -1 := by unfold cmpN rk; simp only [nan_rg]; unfold rg sgn; decide
theorem cB : cmpN 9221120237041090561 9218868437227405312 = 1 := by unfold cmpN rk; simp only [nan_rg]; unfold rg sgn; decide
theorem same1 (w : World) : Calls Try.prog 18 #[.float .f64 9221120237041090561, .float .f64 9221120237041090561] w fun e w' => e = .returned (.bool true) ∧ w = w' := by
  have h := same_any 9221120237041090561 9221120237041090561 w
  rwa [same_refl] at h
theorem isnan_of (x : Nat) (h : nanB x = true) (w : World) : Calls Try.prog 13 #[.float .f64 x] w fun e w' => e = .returned (.bool true) ∧ w = w' := by
  have k := isnan_any x w
  rwa [h] at k
theorem bits_is (w : World) : Calls Try.prog 14 #[.float .f64 4607182418800017408] w fun e w' => e = .returned (.int .u64 4607182418800017408) ∧ w = w' := by
  have h : bitsN 4607182418800017408 = 4607182418800017408 := bitsN_no (by rw [nan_rg]; unfold rg; decide)
  have k := bits_any 4607182418800017408 w
  rwa [h] at k
theorem clamp_is (w : World) : Calls Try.prog 29 #[.float .f64 4617315517961601024, .float .f64 0, .float .f64 4611686018427387904] w fun e w' => e = .returned (.float .f64 4611686018427387904) ∧ w = w' := by
  have h : clampN 4617315517961601024 0 4611686018427387904 = 4611686018427387904 := by unfold clampN cmpN rk; simp only [nan_rg]; unfold rg sgn; decide
  have k := clamp_any 4617315517961601024 0 4611686018427387904 w (by decide) (by decide) (by decide)
  unfold ClampPost at k
  rwa [h] at k
theorem span_of (A : Option Addr) (n c : Nat) (l : List Nat) (w : World) (hl : l.length = n) (hm : n ≤ 100000) (hs : Flt w A l) (hf : fits l) (a b : Nat) (ha : leastN l = a) (hb : greatN l = b) :
    Calls Try.prog 24 #[.slice A n c] w fun e w' => e = .returned (.tuple #[.float .f64 a, .float .f64 b]) ∧ w = w' := by
  subst ha; subst hb; exact span_any A n c l w hl hm hs hf
theorem span3 : leastN [9221120237041090561, 4611686018427387904, 13830554455654793216] = 13830554455654793216 ∧ greatN [9221120237041090561, 4611686018427387904, 13830554455654793216] = 4611686018427387904 := by
  unfold leastN greatN
  simp only [List.foldl]
  unfold stepL stepG cmpN rk
  simp only [nan_rg]
  unfold rg sgn
  decide +kernel
theorem part00 {r : Nat} (h : partB 0 0 r = true) : nanB r = true := by
  have g := part_same h part_nought
  unfold sameB at g
  have e : nanB 9221120237041090561 = true := by rw [nan_rg]; unfold rg; decide
  rw [e] at g
  cases hr : nanB r <;> rw [hr] at g <;> simp at g ⊢
theorem part_val {n m : Int} {v r : Nat} (hv : floatBits .quo .f64 (floatOfInt .f64 n) (floatOfInt .f64 m) = some v) (h : partB n m r = true) : r = v := by
  have hk : okF .quo (floatOfInt .f64 n) (floatOfInt .f64 m) = true := by unfold okF; rw [hv]; rfl
  have hw : valF .quo (floatOfInt .f64 n) (floatOfInt .f64 m) = v := by unfold valF; rw [hv]; rfl
  unfold partB resB at h
  rw [hk, hw] at h
  simpa using h
theorem part10 {r : Nat} (h : partB 1 0 r = true) : r = 9218868437227405312 := part_val (by decide +kernel) h
theorem part12 {r : Nat} (h : partB 1 2 r = true) : r = 4602678819172646912 := part_val (by decide +kernel) h
theorem mean12 {r : Nat} (h : meanB [4607182418800017408, 4611686018427387904] 2 r = true) : r = 4609434218613702656 := by
  unfold meanB at h
  have e : sumO [4607182418800017408, 4611686018427387904] = some 4613937818241073152 := by unfold sumO; simp only [List.foldl]; unfold stepS; decide +kernel
  rw [e] at h
  have hq : floatBits .quo .f64 4613937818241073152 (floatOfInt .f64 2) = some 4609434218613702656 := by decide +kernel
  simp only [resB] at h
  have hk : okF .quo 4613937818241073152 (floatOfInt .f64 2) = true := by unfold okF; rw [hq]; rfl
  have hw : valF .quo 4613937818241073152 (floatOfInt .f64 2) = 4609434218613702656 := by unfold valF; rw [hq]; rfl
  rw [hk, hw] at h
  simpa using h
@[irreducible] def eqB (x y : Nat) : Bool := FloatKind.f64.format.order x y == some Ordering.eq
@[go_sem ↓] theorem order_eqB (x y : Nat) : (FloatKind.f64.format.order x y == some Ordering.eq) = eqB x y := by unfold eqB; rfl
@[go_sem] theorem eq_a : eqB 4602678819172646912 4602678819172646912 = true := by unfold eqB; decide +kernel
@[go_sem] theorem eq_b : eqB 13830554455654793216 13830554455654793216 = true := by unfold eqB; decide +kernel
@[go_sem] theorem eq_c : eqB 4611686018427387904 4611686018427387904 = true := by unfold eqB; decide +kernel
@[go_sem] theorem eq_d : eqB 4609434218613702656 4609434218613702656 = true := by unfold eqB; decide +kernel

theorem flt_new (w : World) (l : List Nat) (g : Nat) (cs : Array Value) (hc : cs = (l.map (Value.float .f64)).toArray := by rfl) (hg : g = w.heap.size := by simp) : Flt (w.alloc (.cells cs 23)) (some ⟨g, 0, none⟩) l := by
  subst hg; subst hc
  refine .inr ⟨w.heap.size, 0, rfl, by simp, fun j x h => ?_⟩
  simp [h]
theorem flt_ext {w w' : World} {A : Option Addr} {l : List Nat} (h : Flt w A l) (hb : Below w.heap.size w w') : Flt w' A l := by
  rcases h with h | ⟨b, off, h1, h2, h3⟩
  · exact .inl h
  · exact .inr ⟨b, off, h1, Nat.lt_of_lt_of_le h2 hb.size, fun j x hx => by rw [hb.cell (by exact h2)]; exact h3 j x hx⟩
set_option maxRecDepth 100000 in
set_option maxHeartbeats 2000000 in
theorem works04_any (w : World) : Calls Try.prog 15 #[] w fun e w' => e = .returned (.bool true) ∧ Below w.heap.size w w' := by
  go_enter Try.func15, Try.ntmps15
  go_wp2_with (first
    | (go_at_call 50; refine (copysign_is _).mono ?_; rintro e w' ⟨rfl, rfl⟩)
    | (go_at_call 11; refine (kind_is _).mono ?_; rintro e w' ⟨rfl, rfl⟩)
    | (go_at_call 51; refine (mkNaN_any _).mono ?_; rintro e w' ⟨rfl, rfl⟩)
    | (go_at_call 52; refine (inf_any _ _ _ rfl).mono ?_; rintro e w' ⟨rfl, rfl⟩)
    | (go_at_call 20; refine (whole_any _ _).mono ?_; rintro e w' ⟨rfl, rfl⟩; first | rw [wA1, wA2] | rw [wB1, wB2] | rw [wC1, wC2])
    | (go_at_call 16; refine (compare_any _ _ _ (by decide) (by decide)).mono ?_; rintro e w' ⟨rfl, rfl⟩; first | rw [cA] | rw [cB])
    | (go_at_call 18; refine (same1 _).mono ?_; rintro e w' ⟨rfl, rfl⟩)
    | (go_at_call 53; refine (isInf_is _).mono ?_; rintro e w' ⟨rfl, rfl⟩)
    | (go_at_call 14; refine (bits_is _).mono ?_; rintro e w' ⟨rfl, rfl⟩)
    | (go_at_call 29; refine (clamp_is _).mono ?_; rintro e w' ⟨rfl, rfl⟩))
  refine (span_of _ 3 3 [9221120237041090561, 4611686018427387904, 13830554455654793216] _ rfl (by decide) (flt_new _ _ _ _) (by unfold fits; decide) _ _ span3.1 span3.2).mono ?_
  rintro e w' ⟨rfl, rfl⟩
  go_wp2_with (first
    | (go_at_call 50; refine (copysign_is _).mono ?_; rintro e w' ⟨rfl, rfl⟩)
    | (go_at_call 51; refine (mkNaN_any _).mono ?_; rintro e w' ⟨rfl, rfl⟩)
    | (go_at_call 52; refine (inf_any _ _ _ rfl).mono ?_; rintro e w' ⟨rfl, rfl⟩)
    | (go_at_call 16; refine (compare_any _ _ _ (by decide) (by decide)).mono ?_; rintro e w' ⟨rfl, rfl⟩; first | rw [cA] | rw [cB])
    | (go_at_call 18; refine (same1 _).mono ?_; rintro e w' ⟨rfl, rfl⟩))
  refine (part_any 0 0 _).mono ?_
  rintro e w' ⟨r0, rfl, hr0, hb⟩
  obtain ⟨d0, bs0, rfl⟩ := ext_of_below hb
  have hr0 := hid (part00 hr0)
  clear hb
  go_wp2_with (go_at_call 13; refine (isnan_of _ hr0.out _).mono ?_; rintro e w' ⟨rfl, rfl⟩)
  refine (part_any 1 0 _).mono ?_
  rintro e w' ⟨r1, rfl, hr1, hb⟩
  obtain ⟨d1, bs1, rfl⟩ := ext_of_below hb
  obtain rfl := part10 hr1
  clear hb hr1
  go_wp2_with (go_at_call 53; refine (isInf_is _).mono ?_; rintro e w' ⟨rfl, rfl⟩)
  refine (part_any 1 2 _).mono ?_
  rintro e w' ⟨r2, rfl, hr2, hb⟩
  obtain ⟨d2, bs2, rfl⟩ := ext_of_below hb
  obtain rfl := part12 hr2
  clear hb hr2
  go_wp2_with fail
  refine (mean_any _ 2 2 [4607182418800017408, 4611686018427387904] _ rfl (by decide) (flt_new _ _ _ _)).mono ?_
  rintro e w' ⟨r3, rfl, hr3, hb⟩
  obtain ⟨d3, bs3, rfl⟩ := ext_of_below hb
  obtain rfl := mean12 hr3
  clear hb hr3
  go_wp2_with (first
    | (go_at_call 14; refine (bits_is _).mono ?_; rintro e w' ⟨rfl, rfl⟩)
    | (go_at_call 29; refine (clamp_is _).mono ?_; rintro e w' ⟨rfl, rfl⟩))
  go_ret
  refine ⟨rfl, ?_⟩
  with_reducible refine below_ext' (Below.alloc (below_ext' (Below.alloc (Below.refl _ _) ?_ _) ?_ _ _) ?_ _) ?_ _ _
  all_goals first | exact Nat.le_refl _ | (simp only [size_ext, World.size_alloc]; omega)
end Go.Proofs.Ytldhbodhpdhncaa
