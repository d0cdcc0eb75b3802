/- Edges step by step. -/
import Derived.Test.YtldhbodhpdhncaaMf
set_option linter.unusedSimpArgs false
set_option linter.unusedVariables false
namespace Go.Proofs.Ytldhbodhpdhncaa
open Go.ChangeShapes Go.WideShapes Go.RowKit Go.Mor Go.Fl

theorem add_nan_right {b : Nat} (x : Nat) (h : nanB b = true) : floatBits .add .f64 x b = none := by
  obtain ⟨s, f, hr⟩ := nan_read h
  show (((Ieee.double.read x).sum (Ieee.double.read b)).map Ieee.double.write) = none
  rw [hr]
  cases Ieee.double.read x <;> rfl
/-- What the i-th edge may be. -/
@[irreducible] def stepB (x y : Nat) (i : Int) (r : Nat) : Bool := match floatBits .mul .f64 (floatOfInt .f64 i) y with | none => nanB r | some m => resB .add x m r
theorem step_same {x y r s : Nat} {i : Int} (h : stepB x y i r = true) (g : stepB x y i s = true) : sameB r s = true := by
  unfold stepB at h g
  cases hm : floatBits .mul .f64 (floatOfInt .f64 i) y with
  | none => rw [hm] at h g; exact same_nan h g
  | some m => rw [hm] at h g; exact res_same h g
theorem step_ok {x y : Nat} {i : Int} (hm : okF .mul (floatOfInt .f64 i) y = true) (ha : okF .add x (valF .mul (floatOfInt .f64 i) y) = true) : stepB x y i (valF .add x (valF .mul (floatOfInt .f64 i) y)) = true := by
  unfold stepB; rw [okF_spec hm]; exact resB_ok ha
theorem step_add {x y : Nat} {i : Int} (hm : okF .mul (floatOfInt .f64 i) y = true) (ha : okF .add x (valF .mul (floatOfInt .f64 i) y) = false) (t : Nat) : stepB x y i (nanOf t) = true := by
  unfold stepB; rw [okF_spec hm]; exact resB_no ha t
theorem step_no {x y : Nat} {i : Int} (hm : okF .mul (floatOfInt .f64 i) y = false) (t : Nat) : stepB x y i (nanOf t) = true := by
  unfold stepB; rw [okF_no hm]; exact nanOf_nan t
theorem no_add (x t : Nat) : okF .add x (nanOf t) = false := okF_none (add_nan_right x (nanOf_nan t))

def StepsIn (x y n : Nat) (w : World) (v t : Value) (wr : World) : Prop :=
  ∃ (i : Nat) (A : Option Addr) (c d : Nat) (bs : Array Obj) (vs : List Nat), i ≤ n ∧ t = .int .i64 i ∧ v = .slice A i c ∧ wr = ext w d bs ∧ (ext w d bs).ownsRow w.heap.size 23 1 (.slice A i c) i (fltV vs) ∧ ∀ (j r : Nat), vs[j]? = some r → stepB x y (j : Int) r = true
def StepsPost (x y : Nat) (n : Int) (w : World) (e : Ending) (w' : World) : Prop :=
  Below w.heap.size w w' ∧ (((n < 1 ∨ 63 < n) ∧ e = .returned (.tuple #[.slice none 0 0, .int .i64 7])) ∨
    (1 ≤ n ∧ n ≤ 63 ∧ ∃ A c vs, e = .returned (.tuple #[.slice A n.toNat c, .int .i64 0]) ∧ vs.length = n.toNat ∧ Flt w' A vs ∧ ∀ (j r : Nat), vs[j]? = some r → stepB x y (j : Int) r = true))
set_option maxHeartbeats 2000000 in
set_option maxRecDepth 100000 in
theorem steps_any (x y : Nat) (n : Int) (w : World) : Calls Try.prog 48 #[.float .f64 x, .float .f64 y, .int .i64 n] w (StepsPost x y n w) := by
  by_cases h1 : n < 1 ∨ 63 < n
  · rcases h1 with h1 | h1
    · go_enter Try.func48, Try.ntmps48
      go_wp2
      go_ret2
      exact ⟨Below.refl _ _, .inl ⟨.inl h1, rfl⟩⟩
    · have h2 : 64 ≤ n := by omega
      have h3 : ¬ n < 1 := by omega
      go_enter Try.func48, Try.ntmps48
      go_wp2
      go_ret2
      exact ⟨Below.refl _ _, .inl ⟨.inr (by omega), rfl⟩⟩
  · obtain ⟨N, rfl⟩ : ∃ N : Nat, n = (N : Int) := ⟨n.toNat, by omega⟩
    have h2 : (1 : Int) ≤ (N : Int) := by omega
    have h3 : (N : Int) < 64 := by omega
    clear h1
    obtain ⟨i0, hi, hz0, hz1, hz2⟩ := info_parts info23
    go_enter Try.func48, Try.ntmps48
    go_wp2
    go_loopw [8, 9, 17] (fun v _ t wr => StepsIn x y N w v t wr) (fun _ _ t _ => N - (intOf t).toNat)
    case atStart => exact ⟨0, none, 0, _, #[], [], Nat.zero_le _, rfl, rfl, by simp [ext]; rfl, World.ownsRow_nil _ _ _ _, fun j r h => by simp at h⟩
    case round =>
      obtain ⟨i, A1, c1, d, bs, vs, hi1, rfl, rfl, rfl, hown, hvs⟩ := hrel
      have HO := hid hown
      have HV := hid hvs
      have HLn : Hid (vs.length = i) := hid (by have := hown.1; simpa [fltV] using this)
      clear hown hvs
      by_cases hlt : i < N
      · have hi2 : (0 : Int) ≤ (i : Int) := by omega
        have hi3 : (i : Int) < (N : Int) := by omega
        cases hm : okF .mul (floatOfInt .f64 (i : Int)) y
        · have hna := fun t => no_add x t
          go_wp2_with (at_builtin; refine wpList_append_ext rfl _ _ 40 rfl w ?hw 23 i0 (.float .f64 0) 1 8 under40 hi hz0 hz1 hz2 rfl (by decide) _ i (fltV vs) rfl ?own (some ⟨w.heap.size + bs.size, 0, none⟩) 1 1 [.float .f64 _] rfl (rd_newF _ _ _) rfl ?ho ?h63 ?hb ?_)
          case hw => first | exact (below_ext _ _ _).alloc (by simp) _ | exact ((below_ext _ _ _).drew).alloc (by simp) _ | exact ((below_ext _ _ _).alloc (by simp) _).drew | exact ((below_ext _ _ _).drew.drew).alloc (by simp) _
          case own => first | exact HO.out.alloc _ | exact (owns_ext HO.out rfl rfl _).alloc _
          case ho => intro u hu; simp at hu; subst hu; rfl
          case h63 => unfold maxLen; omega
          case hb => omega
          intro A2 c2 d2 bs2 hown2
          have HO2 := hid hown2
          clear hown2
          go_wp2
          refine ⟨⟨i + 1, A2, c2, d2, bs2, vs ++ [_], by omega, by go_num, rfl, rfl, by rw [fltV, List.map_append]; exact HO2.out, ?_⟩, by simp [intOf]; omega⟩
          intro j r hj
          by_cases hji : j < i
          · rw [List.getElem?_append_left (by have := HLn.out; omega)] at hj; exact HV.out j r hj
          · have hlt2 := (List.getElem?_eq_some_iff.1 hj).1
            have hj2 : j = i := by have := HLn.out; simp at hlt2; omega
            subst hj2
            rw [List.getElem?_append_right (by have := HLn.out; omega), show j - vs.length = 0 by have := HLn.out; omega] at hj
            simp at hj
            subst hj
            first | exact step_no hm _ | exact step_add hm ha _ | exact step_ok hm ha
        · cases ha : okF .add x (valF .mul (floatOfInt .f64 (i : Int)) y)
          · go_wp2_with (at_builtin; refine wpList_append_ext rfl _ _ 40 rfl w ?hw 23 i0 (.float .f64 0) 1 8 under40 hi hz0 hz1 hz2 rfl (by decide) _ i (fltV vs) rfl ?own (some ⟨w.heap.size + bs.size, 0, none⟩) 1 1 [.float .f64 _] rfl (rd_newF _ _ _) rfl ?ho ?h63 ?hb ?_)
            case hw => first | exact (below_ext _ _ _).alloc (by simp) _ | exact ((below_ext _ _ _).drew).alloc (by simp) _ | exact ((below_ext _ _ _).alloc (by simp) _).drew | exact ((below_ext _ _ _).drew.drew).alloc (by simp) _
            case own => first | exact HO.out.alloc _ | exact (owns_ext HO.out rfl rfl _).alloc _
            case ho => intro u hu; simp at hu; subst hu; rfl
            case h63 => unfold maxLen; omega
            case hb => omega
            intro A2 c2 d2 bs2 hown2
            have HO2 := hid hown2
            clear hown2
            go_wp2
            refine ⟨⟨i + 1, A2, c2, d2, bs2, vs ++ [_], by omega, by go_num, rfl, rfl, by rw [fltV, List.map_append]; exact HO2.out, ?_⟩, by simp [intOf]; omega⟩
            intro j r hj
            by_cases hji : j < i
            · rw [List.getElem?_append_left (by have := HLn.out; omega)] at hj; exact HV.out j r hj
            · have hlt2 := (List.getElem?_eq_some_iff.1 hj).1
              have hj2 : j = i := by have := HLn.out; simp at hlt2; omega
              subst hj2
              rw [List.getElem?_append_right (by have := HLn.out; omega), show j - vs.length = 0 by have := HLn.out; omega] at hj
              simp at hj
              subst hj
              first | exact step_no hm _ | exact step_add hm ha _ | exact step_ok hm ha
          · go_wp2_with (at_builtin; refine wpList_append_ext rfl _ _ 40 rfl w ?hw 23 i0 (.float .f64 0) 1 8 under40 hi hz0 hz1 hz2 rfl (by decide) _ i (fltV vs) rfl ?own (some ⟨w.heap.size + bs.size, 0, none⟩) 1 1 [.float .f64 _] rfl (rd_newF _ _ _) rfl ?ho ?h63 ?hb ?_)
            case hw => first | exact (below_ext _ _ _).alloc (by simp) _ | exact ((below_ext _ _ _).drew).alloc (by simp) _ | exact ((below_ext _ _ _).alloc (by simp) _).drew | exact ((below_ext _ _ _).drew.drew).alloc (by simp) _
            case own => first | exact HO.out.alloc _ | exact (owns_ext HO.out rfl rfl _).alloc _
            case ho => intro u hu; simp at hu; subst hu; rfl
            case h63 => unfold maxLen; omega
            case hb => omega
            intro A2 c2 d2 bs2 hown2
            have HO2 := hid hown2
            clear hown2
            go_wp2
            refine ⟨⟨i + 1, A2, c2, d2, bs2, vs ++ [_], by omega, by go_num, rfl, rfl, by rw [fltV, List.map_append]; exact HO2.out, ?_⟩, by simp [intOf]; omega⟩
            intro j r hj
            by_cases hji : j < i
            · rw [List.getElem?_append_left (by have := HLn.out; omega)] at hj; exact HV.out j r hj
            · have hlt2 := (List.getElem?_eq_some_iff.1 hj).1
              have hj2 : j = i := by have := HLn.out; simp at hlt2; omega
              subst hj2
              rw [List.getElem?_append_right (by have := HLn.out; omega), show j - vs.length = 0 by have := HLn.out; omega] at hj
              simp at hj
              subst hj
              first | exact step_no hm _ | exact step_add hm ha _ | exact step_ok hm ha
      · have hin : i = N := by omega
        subst hin
        go_wp2
        go_ret2
        refine ⟨below_ext _ _ _, .inr ⟨h2, by omega, A1, c1, vs, rfl, ?_, Flt.of_rd (owns_rd HO.out), HV.out⟩⟩
        rw [HLn.out]; omega
end Go.Proofs.Ytldhbodhpdhncaa
