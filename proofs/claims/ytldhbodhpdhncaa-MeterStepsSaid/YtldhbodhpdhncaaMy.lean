/- The walk of MeterSteps. -/
import Derived.Test.YtldhbodhpdhncaaMx
set_option linter.unusedSimpArgs false
set_option linter.unusedVariables false
namespace Go.Proofs.Ytldhbodhpdhncaa
open Go.ChangeShapes Go.WideShapes Go.RowKit Go.Mor Go.Fl

set_option maxRecDepth 100000 in
set_option maxHeartbeats 2000000 in
theorem meterSteps_walk (x y : Nat) (n : Int) (w : World) (hx : x < 18446744073709551616) (hy : y < 18446744073709551616) : Calls Try.prog 9 #[.int .u64 (x : Int), .int .u64 (y : Int), .int .i64 n] w fun e w' => e = .returned (.bool true) ∧ Below w.heap.size w w' := by
  clear hx hy
  by_cases h1 : n < 1 ∨ 63 < n
  · go_enter Try.func9, Try.ntmps9
    go_wp2_with fail
    refine (steps_any x y n _).mono ?_
    rintro e w1 ⟨hb, hS⟩
    have he : e = .returned (.tuple #[.slice none 0 0, .int .i64 7]) := by
      rcases hS with ⟨_, he⟩ | ⟨_, _, _⟩
      · exact he
      · omega
    subst he
    have HB := hid hb
    clear hb hS
    rcases h1 with h1 | h1
    · go_wp2_with fail
      refine (works39_any _).mono ?_
      rintro e w2 ⟨rfl, hb2⟩
      have HB2 : Hid (Below w.heap.size w w2) := hid (HB.out.trans (hb2.mono HB.out.size))
      clear hb2
      go_wp2
      go_ret
      exact ⟨rfl, HB2.out⟩
    · have h2 : ¬ n < 1 := by omega
      go_wp2_with fail
      refine (works39_any _).mono ?_
      rintro e w2 ⟨rfl, hb2⟩
      have HB2 : Hid (Below w.heap.size w w2) := hid (HB.out.trans (hb2.mono HB.out.size))
      clear hb2
      go_wp2
      go_ret
      exact ⟨rfl, HB2.out⟩
  · obtain ⟨N, rfl⟩ : ∃ N : Nat, n = (N : Int) := ⟨n.toNat, by omega⟩
    have h2 : (1 : Int) ≤ (N : Int) := by omega
    have h3 : (N : Int) ≤ 63 := by omega
    clear h1
    go_enter Try.func9, Try.ntmps9
    go_wp2_with fail
    refine (steps_any x y N _).mono ?_
    rintro e w1 ⟨hb, hS⟩
    obtain ⟨A, c, vs, rfl, hvl, hF, hvs⟩ : ∃ A c vs, e = .returned (.tuple #[.slice A N c, .int .i64 0]) ∧ vs.length = N ∧ Flt w1 A vs ∧ ∀ (j r : Nat), vs[j]? = some r → stepB x y (j : Int) r = true := by
      rcases hS with ⟨_, _⟩ | ⟨_, _, A, c, vs, he, hl, hF, hvs⟩
      · omega
      · exact ⟨A, c, vs, he, by simpa using hl, hF, hvs⟩
    have HB := hid hb
    have HL := hid hvl
    have HF := hid hF
    have HV := hid hvs
    clear hb hS hvl hF hvs
    go_wp2
    go_loopw [11, 12] (fun t _ wr => ∃ j q : Nat, j ≤ N ∧ t = .int .i64 j ∧ wr = w1.drewN q) (fun t _ _ => N - (intOf t).toNat)
    case atStart => exact ⟨0, 0, Nat.zero_le _, rfl, rfl⟩
    case round =>
      obtain ⟨j, q, hj, rfl, rfl⟩ := hrel
      by_cases hlt : j < N
      · obtain ⟨r, hr⟩ : ∃ r, vs[j]? = some r := ⟨_, List.getElem?_eq_getElem (by have := HL.out; omega)⟩
        obtain ⟨g, o, rfl, hbw, hc⟩ := HF.out.at hr
        have HR := hid (HV.out j r hr)
        clear hr
        have hi0 : (0 : Int) ≤ (j : Int) := by omega
        have hi1 : (j : Int) < (N : Int) := by omega
        cases hm : okF .mul (floatOfInt .f64 (j : Int)) y
        · have hna := fun t => no_add x t
          go_wp2_with (go_at_call 18; refine (same_any _ _ _).mono ?_; rintro e w' ⟨rfl, rfl⟩; rw [step_same HR.out (step_no hm _)])
          exact ⟨⟨j + 1, _, by omega, by go_num, rfl⟩, by simp [intOf]; omega⟩
        · cases ha : okF .add x (valF .mul (floatOfInt .f64 (j : Int)) y)
          · go_wp2_with (go_at_call 18; refine (same_any _ _ _).mono ?_; rintro e w' ⟨rfl, rfl⟩; rw [step_same HR.out (step_add hm ha _)])
            exact ⟨⟨j + 1, _, by omega, by go_num, rfl⟩, by simp [intOf]; omega⟩
          · go_wp2_with (go_at_call 18; refine (same_any _ _ _).mono ?_; rintro e w' ⟨rfl, rfl⟩; rw [step_same HR.out (step_ok hm ha)])
            exact ⟨⟨j + 1, _, by omega, by go_num, rfl⟩, by simp [intOf]; omega⟩
      · go_wp2_with fail
        refine (works39_any _).mono ?_
        rintro e w2 ⟨rfl, hb2⟩
        have HB2 : Hid (Below w.heap.size w w2) := hid ((below_drewN HB.out q).trans (hb2.mono (below_drewN HB.out q).size))
        clear hb2
        go_wp2
        go_ret
        exact ⟨rfl, HB2.out⟩
end Go.Proofs.Ytldhbodhpdhncaa
