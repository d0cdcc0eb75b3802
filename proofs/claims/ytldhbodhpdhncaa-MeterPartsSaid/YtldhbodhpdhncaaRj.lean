/- The walks of the laws RealKinds, RealOrders and RealParts. -/
import Derived.Test.YtldhbodhpdhncaaRi
set_option linter.unusedSimpArgs false
set_option linter.unusedVariables false
namespace Go.Proofs.Ytldhbodhpdhncaa
open Go.ChangeShapes Go.WideShapes Go.RowKit Go.Mor Go.Fl

@[go_sem] theorem toNat_cast (b : Nat) : (b : Int).toNat = b := Int.toNat_natCast b
theorem kind_nan {b : Nat} (h : nanB b = true) : kindN b = 0 := by
  rw [nan_rg] at h
  unfold kindN; rw [if_pos (by simpa using h)]
theorem kind_some {b : Nat} (h : nanB b = false) : kindN b = 1 ∨ kindN b = 2 ∨ kindN b = 3 ∨ kindN b = 4 := by
  rw [nan_rg] at h
  have : ¬ 9218868437227405312 < rg b := by simpa using h
  unfold kindN; rw [if_neg this]
  split; · exact .inl rfl
  split; · exact .inr (.inl rfl)
  split; · exact .inr (.inr (.inl rfl))
  exact .inr (.inr (.inr rfl))

set_option maxRecDepth 100000 in
set_option maxHeartbeats 1000000 in
theorem realKinds_walk (b : Nat) (hb : b < 18446744073709551616) (w : World) : Calls Try.prog 3 #[.int .u64 (b : Int)] w fun e w' => e = .returned (.bool true) ∧ Below w.heap.size w w' := by
  have HB := hid hb
  clear hb
  cases hn : nanB b with
  | true =>
    have k := kind_nan hn
    have k2 := hid (bits_nan hn)
    go_enter Try.func3, Try.ntmps3
    go_wp2_with (first
      | (go_at_call 11; refine (kind_any _ _ HB.out).mono ?_; rintro e w' ⟨rfl, rfl⟩; rw [k])
      | (go_at_call 12; refine (refKind_any _ _ HB.out).mono ?_; rintro e w' ⟨rfl, rfl⟩; rw [k])
      | (go_at_call 14; refine (bits_any _ _).mono ?_; rintro e w' ⟨rfl, rfl⟩)
      | (go_at_call 13; refine (isnan_any _ _).mono ?_; rintro e w' ⟨rfl, rfl⟩; first | rw [hn] | rw [k2.out])
      | (go_at_call 15; refine (works04_any _).mono ?_; rintro e w' ⟨rfl, hw⟩))
    go_ret
    exact ⟨rfl, hw⟩
  | false =>
    have k := kind_some hn
    have k2 := bitsN_no hn
    rcases k with hK | hK | hK | hK
    all_goals
      go_enter Try.func3, Try.ntmps3
      go_wp2_with (first
        | (go_at_call 11; refine (kind_any _ _ HB.out).mono ?_; rintro e w' ⟨rfl, rfl⟩; rw [hK])
        | (go_at_call 12; refine (refKind_any _ _ HB.out).mono ?_; rintro e w' ⟨rfl, rfl⟩; rw [hK])
        | (go_at_call 14; refine (bits_any _ _).mono ?_; rintro e w' ⟨rfl, rfl⟩; rw [k2])
        | (go_at_call 13; refine (isnan_any _ _).mono ?_; rintro e w' ⟨rfl, rfl⟩; rw [hn])
        | (go_at_call 15; refine (works04_any _).mono ?_; rintro e w' ⟨rfl, hw⟩))
      go_ret
      exact ⟨rfl, hw⟩

theorem cmp_range (x y : Nat) : cmpN x y = -1 ∨ cmpN x y = 0 ∨ cmpN x y = 1 := by
  unfold cmpN; split; · exact .inl rfl
  split; · exact .inr (.inr rfl)
  exact .inr (.inl rfl)
theorem cmp_anti (x y : Nat) : cmpN y x = -cmpN x y := by
  unfold cmpN
  by_cases h1 : rk x < rk y
  · rw [if_neg (by omega), if_pos h1, if_pos h1]; rfl
  · by_cases h2 : rk y < rk x
    · rw [if_pos h2, if_neg h1, if_pos h2]
    · rw [if_neg h2, if_neg h1, if_neg h1, if_neg h2]; rfl
theorem cmp_trans {x y z : Nat} (h1 : cmpN x y ≤ 0) (h2 : cmpN y z ≤ 0) : cmpN x z ≤ 0 := by
  have a : rk x ≤ rk y := by
    unfold cmpN at h1; split at h1; · omega
    split at h1; · omega
    omega
  have b : rk y ≤ rk z := by
    unfold cmpN at h2; split at h2; · omega
    split at h2; · omega
    omega
  unfold cmpN; split; · decide
  rw [if_neg (by omega)]; decide
theorem cmp_zero {x y : Nat} (hx : x < 18446744073709551616) (hy : y < 18446744073709551616) : sameB x y = (cmpN x y == 0) := by
  cases h : sameB x y with
  | true => rw [cmp_same h]; rfl
  | false =>
    symm
    rw [beq_eq_false_iff_ne]
    intro h0
    cases hnx : nanB x with
    | true => rw [cmp_nan_left hy h hnx] at h0; cases h0
    | false =>
      cases hny : nanB y with
      | true => rw [cmp_nan_right hx hnx hny] at h0; cases h0
      | false =>
        cases h1 : ltB x y with
        | true => rw [(cmp_lt hx hy h1).1] at h0; cases h0
        | false =>
          cases h2 : ltB y x with
          | true => rw [(cmp_lt hy hx h2).2] at h0; cases h0
          | false =>
            rw [cmp_level hx hy hnx hny h1 h2 h] at h0
            split at h0 <;> cases h0

set_option maxRecDepth 100000 in
set_option maxHeartbeats 2000000 in
theorem realOrders_walk (x y z : Nat) (hx : x < 18446744073709551616) (hy : y < 18446744073709551616) (hz : z < 18446744073709551616) (w : World) : Calls Try.prog 4 #[.int .u64 (x : Int), .int .u64 (y : Int), .int .u64 (z : Int)] w fun e w' => e = .returned (.bool true) ∧ Below w.heap.size w w' := by
  have HX := hid hx
  have HY := hid hy
  have HZ := hid hz
  obtain ⟨P, hP⟩ : ∃ P, cmpN x y = P := ⟨_, rfl⟩
  obtain ⟨Q, hQ⟩ : ∃ Q, cmpN y z = Q := ⟨_, rfl⟩
  obtain ⟨R, hR⟩ : ∃ R, cmpN x z = R := ⟨_, rfl⟩
  have hA : cmpN y x = -P := by rw [← hP]; exact cmp_anti x y
  have hS : sameB x y = (P == 0) := by rw [← hP]; exact cmp_zero hx hy
  have rP : P = -1 ∨ P = 0 ∨ P = 1 := by rw [← hP]; exact cmp_range x y
  have rQ : Q = -1 ∨ Q = 0 ∨ Q = 1 := by rw [← hQ]; exact cmp_range y z
  have tR : P ≤ 0 → Q ≤ 0 → R ≤ 0 := by rw [← hP, ← hQ, ← hR]; exact cmp_trans
  clear hx hy hz
  rcases rP with rfl | rfl | rfl
  rotate_left 2
  · clear rQ tR
    go_enter Try.func4, Try.ntmps4
    go_wp2_with (first
      | (go_at_call 16; refine (compare_any _ _ _ (by first | exact HX.out | exact HY.out | exact HZ.out) (by first | exact HX.out | exact HY.out | exact HZ.out)).mono ?_; rintro e w' ⟨rfl, rfl⟩; first | rw [hP] | rw [hQ] | rw [hR] | rw [hA])
      | (go_at_call 17; refine (refCompare_any _ _ _ HX.out HY.out).mono ?_; rintro e w' ⟨rfl, rfl⟩; rw [hP])
      | (go_at_call 18; refine (same_any _ _ _).mono ?_; rintro e w' ⟨rfl, rfl⟩; rw [hS])
      | (go_at_call 19; refine (refSame_any _ _ _).mono ?_; rintro e w' ⟨rfl, rfl⟩; rw [hS])
      | (go_at_call 15; refine (works04_any _).mono ?_; rintro e w' ⟨rfl, hw⟩))
    go_ret
    exact ⟨rfl, hw⟩
  all_goals
    rcases rQ with rfl | rfl | rfl
    all_goals
      first
        | have hR0 : R ≤ 0 := tR (by decide) (by decide)
        | skip
      clear tR
      go_enter Try.func4, Try.ntmps4
      go_wp2_with (first
        | (go_at_call 16; refine (compare_any _ _ _ (by first | exact HX.out | exact HY.out | exact HZ.out) (by first | exact HX.out | exact HY.out | exact HZ.out)).mono ?_; rintro e w' ⟨rfl, rfl⟩; first | rw [hP] | rw [hQ] | rw [hR] | rw [hA])
        | (go_at_call 17; refine (refCompare_any _ _ _ HX.out HY.out).mono ?_; rintro e w' ⟨rfl, rfl⟩; rw [hP])
        | (go_at_call 18; refine (same_any _ _ _).mono ?_; rintro e w' ⟨rfl, rfl⟩; rw [hS])
        | (go_at_call 19; refine (refSame_any _ _ _).mono ?_; rintro e w' ⟨rfl, rfl⟩; rw [hS])
        | (go_at_call 15; refine (works04_any _).mono ?_; rintro e w' ⟨rfl, hw⟩))
      go_ret
      exact ⟨rfl, hw⟩

set_option maxRecDepth 100000 in
set_option maxHeartbeats 1000000 in
theorem realParts_walk (n m : Int) (b : Nat) (w : World) : Calls Try.prog 5 #[.int .i64 n, .int .i64 m, .int .u64 (b : Int)] w fun e w' => e = .returned (.bool true) ∧ Below w.heap.size w w' := by
  go_enter Try.func5, Try.ntmps5
  go_wp2_with (first
    | (go_at_call 20; refine (whole_any _ _).mono ?_; rintro e w' ⟨rfl, rfl⟩)
    | (go_at_call 21; refine (refWhole_any _ _).mono ?_; rintro e w' ⟨rfl, rfl⟩))
  refine (part_any _ _ _).mono ?_
  rintro e w' ⟨r, rfl, hr, h1⟩
  obtain ⟨d1, bs1, rfl⟩ := ext_of_below h1
  go_wp2_with fail
  refine (refPart_any _ _ _).mono ?_
  rintro e w' ⟨s, rfl, hs, h2⟩
  obtain ⟨d2, bs2, rfl⟩ := ext_of_below h2
  have hrs := part_same hr hs
  clear hr hs h1 h2
  go_wp2_with (first
    | (go_at_call 18; refine (same_any _ _ _).mono ?_; rintro e w' ⟨rfl, rfl⟩; rw [hrs])
    | (go_at_call 15; refine (works04_any _).mono ?_; rintro e w' ⟨rfl, hw⟩))
  go_ret
  refine ⟨rfl, ?_⟩
  obtain ⟨d3, bs3, rfl⟩ := ext_of_below hw
  with_reducible refine below_ext' (below_ext' (Below.refl _ _) ?_ _ _) ?_ _ _
  all_goals first | exact Nat.le_refl _ | (simp only [size_ext, World.size_alloc]; omega)
end Go.Proofs.Ytldhbodhpdhncaa
