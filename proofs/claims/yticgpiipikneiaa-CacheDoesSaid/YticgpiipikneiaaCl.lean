/- The walk of the law's own look. No condition. -/
import Derived.Test.YticgpiipikneiaaCk
set_option linter.unusedSimpArgs false
set_option linter.unusedVariables false
namespace Go.Proofs.Yticgpiipikneiaa
open Go.ChangeShapes Go.WideShapes Go.RowKit Go.Mor Go.Cch Go.Maps

set_option maxRecDepth 100000 in
set_option maxHeartbeats 4000000 in
theorem works40_any (w : World) : Calls Try.prog 8 #[] w fun e w' => e = .returned (.bool true) ∧ Below w.heap.size w w' := by
  go_enter Try.func8, Try.ntmps8
  go_wp2_with fail
  refine (new_st _).mono ?_
  rintro e w0 ⟨c, mb, rfl, hS, hb, hc, hm⟩
  have S0 : Hid (StS w0 c mb [] 0 0 none [] w0) := hid hS
  have B0 : Hid (Below w.heap.size w w0 ∧ w.heap.size ≤ c ∧ w.heap.size ≤ mb) := hid ⟨hb, hc, hm⟩
  clear hS hb hc hm
  go_wp2_with fail
  refine (new_bad _).mono ?_
  rintro e w1 ⟨rfl, e1⟩
  subst e1
  go_wp2_with fail
  refine (put_st S0.out _ (by decide) _).mono ?_
  rintro e v1 ⟨he, hS⟩
  have he : e = .returned (.tuple #[.string ByteArray.empty, .bool false]) := he
  subst he
  have S1 : Hid (StS w1 c mb [(.string [97], 1)] 0 0 none [] v1) := hid hS
  clear S0 hS
  go_wp2_with fail
  refine (put_st S1.out _ (by decide) _).mono ?_
  rintro e v2 ⟨he, hS⟩
  have he : e = .returned (.tuple #[.string ByteArray.empty, .bool false]) := he
  subst he
  have S2 : Hid (StS w1 c mb [(.string [98], 2), (.string [97], 1)] 0 0 none [] v2) := hid hS
  clear S1 hS
  go_wp2_with fail
  refine (get_st S2.out (by decide) (by decide) _ (by decide)).mono ?_
  rintro e v3 ⟨he, hS⟩
  have he : e = .returned (.tuple #[.int .i64 1, .bool true]) := he
  subst he
  have S3 : Hid (StS w1 c mb [(.string [97], 1), (.string [98], 2)] 1 0 none [] v3) := hid hS
  clear S2 hS
  go_wp2_with fail
  refine (put_st S3.out _ (by decide) _).mono ?_
  rintro e v4 ⟨he, hS⟩
  have he : e = .returned (.tuple #[.string ⟨#[98]⟩, .bool true]) := he
  subst he
  have S4 : Hid (StS w1 c mb [(.string [99], 3), (.string [97], 1)] 1 0 none [] v4) := hid hS
  clear S3 hS
  go_wp2_with fail
  refine (get_st S4.out (by decide) (by decide) _ (by decide)).mono ?_
  rintro e v5 ⟨he, hS⟩
  have he : e = .returned (.tuple #[.int .i64 0, .bool false]) := he
  subst he
  have S5 : Hid (StS w1 c mb [(.string [99], 3), (.string [97], 1)] 1 1 none [] v5) := hid hS
  clear S4 hS
  go_wp2_with fail
  refine (keys_st S5.out).mono ?_
  rintro e v6 ⟨A, cA, he, hS⟩
  have he : e = .returned (.slice A 2 cA) := he
  subst he
  have S6 : Hid (StS w1 c mb [(.string [99], 3), (.string [97], 1)] 1 1 A [.string ⟨#[99]⟩, .string ⟨#[97]⟩] v6) := hid hS
  clear S5 hS
  go_wp2_with fail
  refine (through_st S6.out (by decide) (by decide) _ (by decide) rfl (fun w => read1_any _ rfl w)).mono ?_
  rintro e v7 ⟨he, hS⟩
  have he : e = .returned (.tuple #[.int .i64 1, .int .i64 0]) := he
  subst he
  have S7 : Hid (StS w1 c mb [(.string [100], 1), (.string [99], 3)] 1 2 A [.string ⟨#[99]⟩, .string ⟨#[97]⟩] v7) := hid hS
  clear S6 hS
  go_wp2_with fail
  refine (through_st_nil S7.out (by decide) (by decide) _ (by decide) rfl).mono ?_
  rintro e v8 ⟨he, hS⟩
  have he : e = .returned (.tuple #[.int .i64 0, .int .i64 1]) := he
  subst he
  have S8 : Hid (StS w1 c mb [(.string [100], 1), (.string [99], 3)] 1 3 A [.string ⟨#[99]⟩, .string ⟨#[97]⟩] v8) := hid hS
  clear S7 hS
  go_wp2_with fail
  refine (through_st_no S8.out (by decide) (by decide) _ (by decide) rfl (fun w => read2_any _ w)).mono ?_
  rintro e v9 ⟨he, hS⟩
  have he : e = .returned (.tuple #[.int .i64 0, .int .i64 8]) := he
  subst he
  have S9 : Hid (StS w1 c mb [(.string [100], 1), (.string [99], 3)] 1 4 A [.string ⟨#[99]⟩, .string ⟨#[97]⟩] v9) := hid hS
  clear S8 hS
  go_wp2_with fail
  refine (met_st S9.out).mono ?_
  rintro e v10 ⟨he, hS⟩
  have he : e = .returned (.tuple #[.int .i64 1, .int .i64 4]) := he
  subst he
  have S10 : Hid (StS w1 c mb [(.string [100], 1), (.string [99], 3)] 1 4 A [.string ⟨#[99]⟩, .string ⟨#[97]⟩] v10) := hid hS
  clear S9 hS
  go_wp2_with fail
  refine (drop_st S10.out _ (by decide)).mono ?_
  rintro e v11 ⟨he, hS⟩
  have he : e = .returned (.bool true) := he
  subst he
  have S11 : Hid (StS w1 c mb [(.string [99], 3)] 1 4 A [.string ⟨#[99]⟩, .string ⟨#[97]⟩] v11) := hid hS
  clear S10 hS
  go_wp2_with fail
  refine (sound_st S11.out).mono ?_
  rintro e v12 ⟨rfl, nd, rfl⟩
  have S12 : Hid (StS w1 c mb [(.string [99], 3)] 1 4 A [.string ⟨#[99]⟩, .string ⟨#[97]⟩] (v11.drewN nd)) := hid (st_drew S11.out nd)
  clear S11
  go_wp2_with fail
  refine (clear_st S12.out).mono ?_
  rintro e v13 ⟨he, hS⟩
  have he : e = .returned (.tuple #[]) := he
  subst he
  have S13 : Hid (StS w1 c mb [] 0 0 A [.string ⟨#[99]⟩, .string ⟨#[97]⟩] v13) := hid hS
  clear S12 hS
  obtain ⟨b, rfl, hbw, k0⟩ : ∃ b, A = some ⟨b, 0, none⟩ ∧ within b v13 = true ∧ v13.cell? ⟨b, 0, none⟩ = some (.string ⟨#[99]⟩) := by obtain ⟨ns, _, _, _, V⟩ := S13.out; exact V.at rfl
  have k1 : v13.cell? ⟨b, 1, none⟩ = some (.string ⟨#[97]⟩) := by
    obtain ⟨ns, _, _, _, V⟩ := S13.out
    obtain ⟨b', hb', _, h⟩ := V.at (j := 1) (u := .string ⟨#[97]⟩) rfl
    injection hb' with hb'
    injection hb' with hb' _
    subst hb'
    exact h
  go_wp2_with (go_at_call 55; refine (len_st S13.out).mono ?_; rintro e w' ⟨rfl, rfl⟩)
  refine (sound_st S13.out).mono ?_
  rintro e x ⟨rfl, n2, rfl⟩
  have S14 := hid (st_drew S13.out n2)
  go_wp2_with fail
  refine (has_st S14.out _ (by decide)).mono ?_
  rintro e y ⟨he, rfl⟩
  have he : e = .returned (.bool false) := he
  subst he
  go_wp2
  go_ret
  exact ⟨rfl, S14.out.below B0.out.1 B0.out.2.1 B0.out.2.2⟩
end Go.Proofs.Yticgpiipikneiaa
