/- The band of a part: the walk of the meter's Quantile. -/
import Derived.Test.YtldhbodhpdhncaaMq
import Derived.Test.YtldhbodhpdhncaaFg
set_option linter.unusedSimpArgs false
set_option linter.unusedVariables false
namespace Go.Proofs.Ytldhbodhpdhncaa
open Go.ChangeShapes Go.WideShapes Go.RowKit Go.Mor Go.Fl

section
variable {g h : Nat} {E C : List Nat} {nn lo hi s : Nat} {A : Option Addr} {c k : Nat} {w : World}
/-- There is none: nothing is counted, or the part is none, or beyond. -/
theorem quant_none (m : MeterAt w g h E C nn lo hi s A c k) (hcap : ∀ v ∈ C, v < 1000000) (p : Nat) (hq : C.sum = 0 ∨ nanB p = true ∨ ltB p 0 = true ∨ ltB 4607182418800017408 p = true) :
    Calls Try.prog 46 #[.pointer (some ⟨g, 0, none⟩), .float .f64 p] w fun e w' => e = .returned (.int .i64 (-1)) ∧ w = w' := by
  have HL := hid (len_of m hcap)
  clear m hcap
  obtain ⟨S, hS⟩ : ∃ S : Nat, C.sum = S := ⟨_, rfl⟩
  rw [hS] at HL hq
  clear hS
  by_cases h0 : S = 0
  · subst h0
    clear hq
    go_enter Try.func46, Try.ntmps46
    go_wp2_with (go_at_call 42; refine HL.out.mono ?_; rintro e w' ⟨rfl, rfl⟩)
    go_ret
    exact ⟨rfl, rfl⟩
  · have hs : ((S : Int) == 0) = false := by rw [beq_eq_false_iff_ne]; omega
    cases h1 : nanB p <;> cases h2 : ltB p 0 <;> cases h3 : ltB 4607182418800017408 p
    all_goals
      try (exfalso; rw [h1, h2, h3] at hq; simp at hq; omega)
    all_goals
      clear hq h0
      go_enter Try.func46, Try.ntmps46
      go_wp2_with (first | (go_at_call 42; refine HL.out.mono ?_; rintro e w' ⟨rfl, rfl⟩) | (go_at_call 13; refine (isnan_any _ _).mono ?_; rintro e w' ⟨rfl, rfl⟩; rw [h1]))
      go_ret
      exact ⟨rfl, rfl⟩
def QuantPost (C : List Nat) (r : Nat) (w : World) (e : Ending) (w' : World) : Prop := (∃ i : Nat, e = .returned (.int .i64 (i : Int)) ∧ i < C.length ∧ (C.take i).sum ≤ r ∧ r < (C.take (i + 1)).sum) ∧ w = w'
set_option maxHeartbeats 1000000 in
theorem quant_some (m : MeterAt w g h E C nn lo hi s A c k) (hcap : ∀ v ∈ C, v < 1000000) (p q r : Nat) (hS : C.sum = q + 1) (hq : q ≤ 100) (h1 : nanB p = false) (h2 : ltB p 0 = false) (h3 : ltB 4607182418800017408 p = false)
    (hr : wholeN (valF .mul p (floatOfInt .f64 (q : Int))) = (r : Int)) (hrq : r ≤ q) :
    Calls Try.prog 46 #[.pointer (some ⟨g, 0, none⟩), .float .f64 p] w (QuantPost C r w) := by
  have HL := hid (len_of m hcap)
  rw [hS] at HL
  have hok := (part_index h1 h2 h3 hq).1
  have hc1 := m.c1
  have hg := within_of m.lg
  have hh := within_of m.lh
  have hcs := hid m.cs
  have hC := hid hcap
  have hle : C.length ≤ 1001 := by have := m.lc; have := m.le; omega
  obtain ⟨n, hn⟩ : ∃ n, C.length = n := ⟨_, rfl⟩
  rw [hn] at hc1 hle
  have HN := hid hn
  have HR := hid hr
  have HS := hid hS
  clear m hcap hn hr hS
  have hs : ((((q + 1 : Nat) : Int)) == 0) = false := by rw [beq_eq_false_iff_ne]; omega
  have hs2 : (((q : Int) + 1) == 0) = false := by rw [beq_eq_false_iff_ne]; omega
  go_enter Try.func46, Try.ntmps46
  go_wp2_with (first | (go_at_call 42; refine HL.out.mono ?_; rintro e w' ⟨rfl, rfl⟩) | (go_at_call 13; refine (isnan_any _ _).mono ?_; rintro e w' ⟨rfl, rfl⟩; rw [h1]) | (go_at_call 20; refine (whole_any _ _).mono ?_; rintro e w' ⟨rfl, rfl⟩; rw [HR.out]))
  have htot : Hid ((C.take n).sum = q + 1) := hid (by rw [List.take_of_length_le (by have := HN.out; omega)]; exact HS.out)
  go_loop [6, 8, 39] (fun t _ i => ∃ j R : Nat, j ≤ n ∧ i = .int .i64 j ∧ t = .int .i64 R ∧ R ≤ q ∧ Hid ((C.take j).sum + R = r)) (fun _ _ i => n - (intOf i).toNat)
  case atStart => exact ⟨0, r, Nat.zero_le _, rfl, rfl, hrq, hid (by simp)⟩
  case round =>
    obtain ⟨j, R, hj, rfl, rfl, hR, EJ⟩ := hrel
    by_cases hlt : j < n
    · obtain ⟨v, hv⟩ : ∃ v, C[j]? = some v := ⟨_, List.getElem?_eq_getElem (by have := HN.out; omega)⟩
      have hcell := hcs.out j v hv
      have hvb := hC.out v (List.mem_of_getElem? hv)
      have hi0 : (0 : Int) ≤ (j : Int) := by omega
      have hi1 : (j : Int) < (n : Int) := by omega
      have ST := hid (sum_take hv)
      clear hv
      by_cases hc : R < v
      · have hc2 : (R : Int) < (v : Int) := by omega
        clear hc
        go_wp2
        go_ret
        exact ⟨⟨j, rfl, by rw [HN.out]; exact hlt, by have := EJ.out; omega, by rw [ST.out]; have := EJ.out; omega⟩, rfl⟩
      · obtain ⟨D, rfl⟩ : ∃ D, R = v + D := ⟨R - v, by omega⟩
        clear hc
        go_wp2
        refine ⟨⟨j + 1, D, by omega, by go_num, ?_, by omega, hid ?_⟩, by simp [intOf]; omega⟩
        · first | rfl | go_num
        · rw [ST.out]; have := EJ.out; omega
    · exfalso
      have hjn : j = n := by omega
      subst hjn
      have := EJ.out
      have := htot.out
      omega
end
end Go.Proofs.Ytldhbodhpdhncaa
