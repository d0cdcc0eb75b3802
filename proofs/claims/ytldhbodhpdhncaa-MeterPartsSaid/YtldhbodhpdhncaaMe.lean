/- The methods of the meter that only read it. -/
import Derived.Test.YtldhbodhpdhncaaMc
set_option linter.unusedSimpArgs false
set_option linter.unusedVariables false
namespace Go.Proofs.Ytldhbodhpdhncaa
open Go.ChangeShapes Go.WideShapes Go.RowKit Go.Mor Go.Fl
section
variable {g h : Nat} {E C : List Nat} {nn lo hi s : Nat} {A : Option Addr} {c k : Nat} {w : World}
theorem none_of (m : MeterAt w g h E C nn lo hi s A c k) : Calls Try.prog 43 #[.pointer (some ⟨g, 0, none⟩)] w fun e w' => e = .returned (.int .i64 (nn : Int)) ∧ w = w' := by
  have h2 := m.c2
  have hg := within_of m.lg
  clear m
  go_enter Try.func43, Try.ntmps43
  go_wp2
  go_ret
  exact ⟨rfl, rfl⟩
theorem sum_of (m : MeterAt w g h E C nn lo hi s A c k) : Calls Try.prog 44 #[.pointer (some ⟨g, 0, none⟩)] w fun e w' => e = .returned (.float .f64 s) ∧ w = w' := by
  have h5 := m.c5
  have hg := within_of m.lg
  clear m
  go_enter Try.func44, Try.ntmps44
  go_wp2
  go_ret
  exact ⟨rfl, rfl⟩
theorem ends_of (m : MeterAt w g h E C nn lo hi s A c k) : Calls Try.prog 37 #[.pointer (some ⟨g, 0, none⟩)] w fun e w' => e = .returned (.tuple #[.float .f64 lo, .float .f64 hi]) ∧ Below w.heap.size w w' := by
  have h3 := m.c3
  have h4 := m.c4
  have hg := within_of m.lg
  clear m
  go_enter Try.func37, Try.ntmps37
  go_wp2
  go_quiet (fail)
  go_wp2
  go_ret2
  exact ⟨rfl, rfl, rfl, rfl, Nat.le_refl _, fun _ _ => rfl⟩
theorem sum_take {l : List Nat} {k x : Nat} (h : l[k]? = some x) : (l.take (k + 1)).sum = (l.take k).sum + x := by
  rw [take_succ h, List.sum_append]; simp
theorem sum_le (l : List Nat) (b : Nat) (hb : ∀ v ∈ l, v ≤ b) : l.sum ≤ l.length * b := by
  induction l with
  | nil => simp
  | cons x r ih =>
    have h1 := hb x (List.mem_cons_self ..)
    have h2 := ih fun v hv => hb v (List.mem_cons_of_mem _ hv)
    simp only [List.sum_cons, List.length_cons, Nat.succ_mul]
    omega
set_option maxHeartbeats 1000000 in
theorem len_of (m : MeterAt w g h E C nn lo hi s A c k) (hcap : ∀ v ∈ C, v < 1000000) : Calls Try.prog 42 #[.pointer (some ⟨g, 0, none⟩)] w fun e w' => e = .returned (.int .i64 (C.sum : Int)) ∧ w = w' := by
  have h1 := m.c1
  have hg := within_of m.lg
  have hh := within_of m.lh
  have hcs := hid m.cs
  have hC := hid hcap
  have hle : C.length ≤ 1001 := by have := m.lc; have := m.le; omega
  obtain ⟨n, hn⟩ : ∃ n, C.length = n := ⟨_, rfl⟩
  rw [hn] at h1 hle
  have HN := hid hn
  clear m hcap hn
  go_enter Try.func42, Try.ntmps42
  go_wp2
  go_loop [3, 5, 11] (fun t _ i => ∃ j T : Nat, j ≤ n ∧ i = .int .i64 j ∧ t = .int .i64 T ∧ T ≤ j * 1000000 ∧ Hid (T = (C.take j).sum)) (fun _ _ i => n - (intOf i).toNat)
  case atStart => exact ⟨0, 0, Nat.zero_le _, rfl, rfl, by omega, by rw [List.take_zero]; exact rfl⟩
  case round =>
    obtain ⟨j, T, hj, rfl, rfl, hT, ET⟩ := hrel
    by_cases hlt : j < n
    · obtain ⟨v, hv⟩ : ∃ v, C[j]? = some v := ⟨_, List.getElem?_eq_getElem (by have := HN.out; omega)⟩
      have hcell := hcs.out j v hv
      have hvb := hC.out v (List.mem_of_getElem? hv)
      have hi0 : (0 : Int) ≤ (j : Int) := by omega
      have hi1 : (j : Int) < (n : Int) := by omega
      have ST := hid (sum_take hv)
      have hT2 : T + v ≤ (j + 1) * 1000000 := by omega
      have hT3 : T ≤ 2000000000 := by omega
      clear hv
      go_wp2
      refine ⟨⟨j + 1, T + v, by omega, by go_num, by go_num, hT2, hid ?_⟩, by simp [intOf]; omega⟩
      rw [ST.out, ← ET.out]
    · have hjn : j = n := by omega
      go_wp2
      go_ret
      refine ⟨ret_i ?_, rfl⟩
      rw [ET.out, List.take_of_length_le (by have := HN.out; omega)]
/-- What the mean of a meter may be. -/
@[irreducible] def partOf (s : Nat) (n : Int) (r : Nat) : Bool := resB .quo s (floatOfInt .f64 n) r
def MeanOf (s : Nat) (n : Int) (w : World) (e : Ending) (w' : World) : Prop := ∃ r, e = .returned (.float .f64 r) ∧ partOf s n r = true ∧ Below w.heap.size w w'
theorem mean_of (m : MeterAt w g h E C nn lo hi s A c k) (hcap : ∀ v ∈ C, v < 1000000) : Calls Try.prog 45 #[.pointer (some ⟨g, 0, none⟩)] w (MeanOf s (C.sum : Int) w) := by
  have h5 := m.c5
  have hg := within_of m.lg
  have M := hid m
  have HC := hid hcap
  clear m hcap
  obtain ⟨S, hS⟩ : ∃ S : Nat, C.sum = S := ⟨_, rfl⟩
  have HS := hid hS
  rw [hS]
  clear hS
  have L : ∀ w', Below w.heap.size w w' → Calls Try.prog 42 #[.pointer (some ⟨g, 0, none⟩)] w' fun e w'' => e = .returned (.int .i64 (S : Int)) ∧ w'' = w' := fun w' hb => by
    have h := len_of (M.out.keep hb) HC.out
    rw [HS.out] at h
    exact h.mono fun e w'' ⟨h1, h2⟩ => ⟨h1, h2.symm⟩
  have L := hid L
  cases hok : okF .quo s (floatOfInt .f64 (S : Int))
  all_goals
    go_enter Try.func45, Try.ntmps45
    go_wp2
    go_still_tail 7, (by kernel_rfl)
    still_call (L.out _ ⟨rfl, rfl, rfl, Nat.le_refl _, fun _ _ => rfl⟩)
    repeat still_step
    refine wpStill_nil ?_
    change wpList _ _ _ _ _ w.drew
    go_wp2
    go_ret
    first
      | exact ⟨_, rfl, by unfold partOf; exact resB_ok hok, (Below.refl _ _).drew⟩
      | exact ⟨_, rfl, by unfold partOf; exact resB_no hok _, (Below.refl _ _).drew.drew⟩
end
end Go.Proofs.Ytldhbodhpdhncaa
