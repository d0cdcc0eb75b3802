/- Making a meter. -/
import Derived.Test.YtldhbodhpdhncaaMi
import Derived.Deep.RegionWith
set_option linter.unusedSimpArgs false
set_option linter.unusedVariables false
namespace Go.Proofs.Ytldhbodhpdhncaa
open Go.ChangeShapes Go.WideShapes Go.RowKit Go.Mor Go.Fl

theorem new_bad {l : List Nat} {w : World} {c : Int} {w' : World} (h : newC l = c) (hc : c ≠ 0) (hb : Below w.heap.size w w') : NewPost l w (.returned (.tuple #[.pointer none, .int .i64 c])) w' := by
  subst h; exact ⟨hb, .inl ⟨hc, rfl⟩⟩
set_option maxHeartbeats 2000000 in
set_option maxRecDepth 100000 in
theorem new_any (A : Option Addr) (n c : Nat) (l : List Nat) (w : World) (hl : l.length = n) (hm : n ≤ 100000) (hs : Flt w A l) (hf : fits l) :
    Calls Try.prog 33 #[.slice A n c] w (NewPost l w) := by
  have HS := hid hs
  have HF := hid hf
  have HL := hid hl
  clear hs hf hl
  by_cases h1 : n < 1 ∨ 63 < n
  · have e : newC l = 7 := by unfold newC; rw [HL.out, if_pos h1]
    have HE := hid e
    clear e
    rcases h1 with h1 | h1
    · go_enter Try.func33, Try.ntmps33
      go_wp2
      go_ret2
      exact new_bad HE.out (by decide) (Below.refl _ _)
    · have h2 : (64 : Int) ≤ (n : Int) := by omega
      go_enter Try.func33, Try.ntmps33
      go_wp2
      go_ret2
      exact new_bad HE.out (by decide) (Below.refl _ _)
  · have e : newC l = badK l 0 := by unfold newC; rw [HL.out, if_neg h1]
    have HE := hid e
    have h2 : (1 : Int) ≤ (n : Int) := by omega
    have h3 : (n : Int) < 64 := by omega
    clear e h1
    go_enter Try.func33, Try.ntmps33
    go_wp2
    go_loop [4, 5, 16] (fun _ _ i => ∃ k : Nat, k ≤ n ∧ i = .int .i64 k ∧ Hid (newC l = badK l k)) (fun _ _ i => n - (intOf i).toNat)
    case atStart => exact ⟨0, Nat.zero_le _, rfl, HE⟩
    case round =>
      obtain ⟨k, hk, rfl, HK⟩ := hrel
      by_cases hlt : k < n
      · obtain ⟨x, hx⟩ : ∃ x, l[k]? = some x := ⟨_, List.getElem?_eq_getElem (by have := HL.out; omega)⟩
        obtain ⟨g, o, rfl, hb, hc⟩ := HS.out.at hx
        have hi0 : (0 : Int) ≤ (k : Int) := by omega
        have hi1 : (k : Int) < (n : Int) := by omega
        have LX := hid (fits_get HF.out hx)
        have HX := hid hx
        clear hx
        cases hn : nanB x with
        | true =>
          go_wp2_with (go_at_call 13; refine (isnan_any _ _).mono ?_; rintro e w' ⟨rfl, rfl⟩; rw [hn])
          go_ret2
          exact new_bad (by rw [HK.out, badK_nan HX.out hn]) (by decide) (Below.refl _ _)
        | false =>
          rcases Nat.eq_zero_or_pos k with h0 | h0
          · subst h0
            have hc0 : w.cell? ⟨g, o, none⟩ = some (.float .f64 x) := by simpa using hc
            go_wp2_with (go_at_call 13; refine (isnan_any _ _).mono ?_; rintro e w' ⟨rfl, rfl⟩; rw [hn])
            refine ⟨⟨1, by omega, rfl, hid ?_⟩, by simp [intOf]; omega⟩
            rw [HK.out, badK_first HX.out hn]
          · obtain ⟨j, rfl⟩ : ∃ j, k = j + 1 := ⟨k - 1, by omega⟩
            obtain ⟨y, hy⟩ : ∃ y, l[j]? = some y := ⟨_, List.getElem?_eq_getElem (by have := HL.out; omega)⟩
            obtain ⟨g2, o2, hA, hb2, hc2⟩ := HS.out.at hy
            injection hA with hA
            injection hA with hA1 hA2
            subst hA1
            subst hA2
            have LY := hid (fits_get HF.out hy)
            have HY := hid hy
            clear hy
            have hi2 : (j : Int) < (n : Int) := by omega
            have hi3 : (0 : Int) < (j : Int) + 1 := by omega
            go_wp2_with (first | (go_at_call 13; refine (isnan_any _ _).mono ?_; rintro e w' ⟨rfl, rfl⟩; rw [hn]) | (go_at_call 16; refine (compare_any _ _ _ LY.out LX.out).mono ?_; rintro e w' ⟨rfl, rfl⟩))
            · go_ret2
              exact new_bad (by rw [HK.out, badK_down HX.out HY.out hn (by assumption)]) (by decide) (Below.refl _ _)
            · refine ⟨⟨j + 2, by omega, by go_num, hid ?_⟩, by simp [intOf]; omega⟩
              rw [HK.out, badK_up HX.out HY.out hn (by assumption)]
      · have hz : newC l = 0 := by rw [HK.out, badK_end l k (by have := HL.out; omega)]
        have HZ := hid hz
        obtain ⟨x, hx⟩ : ∃ x, l[0]? = some x := ⟨_, List.getElem?_eq_getElem (by have := HL.out; omega)⟩
        obtain ⟨g, o, rfl, hb, hc⟩ := HS.out.at hx
        have HC : ∀ w', Below w.heap.size w w' → Calls Try.prog 57 #[.slice (some ⟨g, o, none⟩) n c] w' (CloneF n l w') := fun w' hb => cloneF_any _ n c l w' HL.out (by omega) (HS.out.rd.keep hb)
        have HC := hid HC
        clear hz hx hc HK
        obtain ⟨i0, hi, hz0, hz1, hz2⟩ := info_parts info3
        have hmk : ∀ w' : World, (Instr.makeSlice 55 (.int .i64 (IntKind.i64.wrap ((n : Int) + 1))) (.int .i64 (IntKind.i64.wrap ((n : Int) + 1)))).run Try.prog w' = .ok (.slice (some ⟨w'.heap.size, 0, none⟩) (n + 1) (n + 1)) (w'.alloc (.cells (madeCells #[Value.int .i64 0] (n + 1)) 3)) := fun w' => by
          rw [IntWalk.i64_in _ (by omega : -9223372036854775808 ≤ (n : Int) + 1 ∧ (n : Int) + 1 ≤ 9223372036854775807)]
          have hr := run_makeSlice (P := Try.prog) w' 55 3 i0 _ under55 hi hz0 .i64 .i64 ((n : Int) + 1) ((n : Int) + 1) (by omega) (Int.le_refl _) (by rw [hz1]; omega) (by rw [hz2]; omega) (by omega)
          have e : ((n : Int) + 1).toNat = n + 1 := by omega
          rw [e, hz1, Nat.mul_one] at hr
          exact hr
        clear hi hz0 hz1 hz2
        go_wp2
        go_region_with (first
          | (go_at_call 57; (first | refine (HC.out w.drew (Below.refl _ _).drew).mono ?_ | refine (HC.out (w.drew.alloc _) ((Below.refl _ _).drew.alloc (Nat.le_refl _) _)).mono ?_ | refine (HC.out (w.alloc _).drew (((Below.refl _ _).alloc (Nat.le_refl _) _).drew)).mono ?_); rintro e w' ⟨A1, c1, rfl, hb1, hown⟩; obtain ⟨d1, bs1, rfl⟩ := ext_of_below hb1; have HO := hid hown; clear hown hb1)
          | (go_at_call 52; refine (inf_any _ _ _ rfl).mono ?_; rintro e w' ⟨rfl, rfl⟩))
        all_goals
          go_wp2
          go_ret2
          first
            | exact new_A HO.out HL.out HZ.out HF.out
            | exact new_B HO.out HL.out HZ.out HF.out
end Go.Proofs.Ytldhbodhpdhncaa
