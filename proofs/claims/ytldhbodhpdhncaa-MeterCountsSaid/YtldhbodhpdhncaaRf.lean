/- The whole part of a number; a number within others. -/
import Derived.Test.YtldhbodhpdhncaaRe
set_option linter.unusedSimpArgs false
set_option linter.unusedVariables false
namespace Go.Proofs.Ytldhbodhpdhncaa
open Go.ChangeShapes Go.WideShapes Go.RowKit Go.Mor Go.Fl

@[irreducible] def okI (x : Nat) : Bool := (floatToIntVal .f64 x .i64).isSome
@[irreducible] def valI (x : Nat) : Int := (floatToIntVal .f64 x .i64).getD 0
section
variable (a : Act) (w : World) (x : Operand) (d : Option Tmp) (t : TypeId) (pos : String) (af : Array Edge) (gd : Option (Nat × Bool))
@[go_sem ↓] theorem exec_whole (h1 : isF64 (a.eval x) = true) (h : okI (fbits (a.eval x)) = true) :
    (execOp a.eval (Oper.mk d (.convert 23 3 x) t pos af gd)).run Try.prog w = .ok (.value (.int .i64 (valI (fbits (a.eval x))))) w := by
  have e := isF64_spec h1
  generalize fbits (a.eval x) = b at *
  unfold okI at h
  obtain ⟨n, hn⟩ := Option.isSome_iff_exists.1 h
  have g : valI b = n := by unfold valI; rw [hn]; rfl
  rw [g]
  simp only [execOp, e]
  rw [Sem.run_bind, run_convert_float_int w 23 3 .f64 .i64 b n (by kernel_rfl) Try.underlying3 hn]
  rfl
end
@[irreducible] def wholeN (x : Nat) : Int := if nanB x then 0 else if ltB x 14010698440749613056 || ltB 4787326403894837248 x then 0 else valI x
@[irreducible] def wholeC (x : Nat) : Int := if nanB x then 1 else if ltB x 14010698440749613056 || ltB 4787326403894837248 x then 2 else 0
theorem far_sr : sr 14010698440749613056 = -4787326403894837248 ∧ sr 4787326403894837248 = 4787326403894837248 ∧ nanB 14010698440749613056 = false ∧ nanB 4787326403894837248 = false := by
  refine ⟨?_, ?_, ?_, ?_⟩ <;> (first | rw [sr_def] | rw [nan_rg]) <;> unfold rg <;> (try unfold sgn) <;> decide
theorem okI_near {x : Nat} (hn : nanB x = false) (h1 : ltB x 14010698440749613056 = false) (h2 : ltB 4787326403894837248 x = false) : okI x = true := by
  obtain ⟨e1, e2, e3, e4⟩ := far_sr
  unfold ltB at h1 h2
  rw [hn, e3, e1] at h1
  rw [hn, e4, e2] at h2
  simp at h1 h2
  rw [sr_def] at h1 h2
  have : rg x < 4841369599423283200 := by split at h1 <;> split at h2 <;> simp_all <;> omega
  obtain ⟨n, hn, _⟩ := whole_some this
  unfold okI; rw [hn]; rfl
def WholePost (x : Nat) (w : World) (e : Ending) (w' : World) : Prop := e = .returned (.tuple #[.int .i64 (wholeN x), .int .i64 (wholeC x)]) ∧ w = w'
theorem ret_ii {a b c d : Int} (h : a = b) (g : c = d) : Ending.returned (.tuple #[.int .i64 a, .int .i64 c]) = .returned (.tuple #[.int .i64 b, .int .i64 d]) := by rw [h, g]
theorem whole_any (x : Nat) (w : World) : Calls Try.prog 20 #[.float .f64 x] w (WholePost x w) := by
  have eN : ∀ a b c, nanB x = a → ltB x 14010698440749613056 = b → ltB 4787326403894837248 x = c → wholeN x = (if a then 0 else if b || c then 0 else valI x) := by rintro a b c rfl rfl rfl; unfold wholeN; rfl
  have eC : ∀ a b c, nanB x = a → ltB x 14010698440749613056 = b → ltB 4787326403894837248 x = c → wholeC x = (if a then 1 else if b || c then 2 else 0) := by rintro a b c rfl rfl rfl; unfold wholeC; rfl
  cases h1 : nanB x <;> cases h2 : ltB x 14010698440749613056 <;> cases h3 : ltB 4787326403894837248 x <;> (have E1 := hid (eN _ _ _ h1 h2 h3); have E2 := hid (eC _ _ _ h1 h2 h3); clear eN eC)
  all_goals
    try have hi := okI_near h1 h2 h3
    go_enter Try.func20, Try.ntmps20
    go_wp2_with (go_at_call 13; refine (isnan_any _ _).mono ?_; rintro e w' ⟨rfl, rfl⟩)
    go_ret2
    exact ⟨ret_ii (by rw [E1.out]; simp) (by rw [E2.out]; simp), rfl⟩
theorem refWhole_any (x : Nat) (w : World) : Calls Try.prog 21 #[.float .f64 x] w (WholePost x w) := by
  have eN : ∀ a b c, nanB x = a → ltB x 14010698440749613056 = b → ltB 4787326403894837248 x = c → wholeN x = (if a then 0 else if b || c then 0 else valI x) := by rintro a b c rfl rfl rfl; unfold wholeN; rfl
  have eC : ∀ a b c, nanB x = a → ltB x 14010698440749613056 = b → ltB 4787326403894837248 x = c → wholeC x = (if a then 1 else if b || c then 2 else 0) := by rintro a b c rfl rfl rfl; unfold wholeC; rfl
  cases h1 : nanB x <;> cases h2 : ltB x 14010698440749613056 <;> cases h3 : ltB 4787326403894837248 x <;> (have E1 := hid (eN _ _ _ h1 h2 h3); have E2 := hid (eC _ _ _ h1 h2 h3); clear eN eC)
  all_goals
    try have hi := okI_near h1 h2 h3
    go_enter Try.func21, Try.ntmps21
    go_wp2_with (go_at_call 55; refine (none_any _ _).mono ?_; rintro e w' ⟨rfl, rfl⟩)
    go_ret2
    exact ⟨ret_ii (by rw [E1.out]; simp) (by rw [E2.out]; simp), rfl⟩

/-- A number within others. -/
@[irreducible] def clampN (x lo hi : Nat) : Nat := if 0 < cmpN lo hi ∨ nanB x = true then 9221120237041090561 else if cmpN x lo < 0 then lo else if 0 < cmpN x hi then hi else x
def ClampPost (x lo hi : Nat) (w : World) (e : Ending) (w' : World) : Prop := e = .returned (.float .f64 (clampN x lo hi)) ∧ w = w'
theorem clamp_cases (x lo hi : Nat) : (0 < cmpN lo hi → clampN x lo hi = 9221120237041090561) ∧ (nanB x = true → clampN x lo hi = 9221120237041090561) ∧
    (cmpN lo hi ≤ 0 → nanB x = false → cmpN x lo < 0 → clampN x lo hi = lo) ∧ (cmpN lo hi ≤ 0 → nanB x = false → 0 ≤ cmpN x lo → 0 < cmpN x hi → clampN x lo hi = hi) ∧ (cmpN lo hi ≤ 0 → nanB x = false → 0 ≤ cmpN x lo → cmpN x hi ≤ 0 → clampN x lo hi = x) := by
  unfold clampN
  refine ⟨fun h => if_pos (.inl h), fun h => if_pos (.inr h), fun h1 h2 h3 => ?_, fun h1 h2 h3 h4 => ?_, fun h1 h2 h3 h4 => ?_⟩
  all_goals
    rw [if_neg (by simp [h2]; omega)]
    first | rw [if_pos h3] | (rw [if_neg (by omega)]; first | rw [if_pos h4] | rw [if_neg (by omega)])
theorem ret_f {a b : Nat} (h : a = b) : Ending.returned (.float .f64 a) = .returned (.float .f64 b) := by rw [h]
theorem clamp_any (x lo hi : Nat) (w : World) (hx : x < 18446744073709551616) (hl : lo < 18446744073709551616) (hh : hi < 18446744073709551616) : Calls Try.prog 29 #[.float .f64 x, .float .f64 lo, .float .f64 hi] w (ClampPost x lo hi w) := by
  have C := hid (clamp_cases x lo hi)
  have HX := hid hx
  have HL := hid hl
  have HH := hid hh
  clear hx hl hh
  go_enter Try.func29, Try.ntmps29
  go_wp2_with (first | (go_at_call 16; refine (compare_any _ _ _ (by first | exact HX.out | exact HL.out | exact HH.out) (by first | exact HX.out | exact HL.out | exact HH.out)).mono ?_; rintro e w' ⟨rfl, rfl⟩) | (go_at_call 13; refine (isnan_any _ _).mono ?_; rintro e w' ⟨rfl, rfl⟩) | (go_at_call 51; refine (mkNaN_any _).mono ?_; rintro e w' ⟨rfl, rfl⟩))
  all_goals
    go_ret
    refine ⟨ret_f ?_, rfl⟩
    obtain ⟨c1, c2, c3, c4, c5⟩ := C.out
    rcases Bool.eq_false_or_eq_true (nanB x) with hq | hq
    all_goals
      first
        | exact (c1 (by omega)).symm
        | exact (c3 (by omega) hq (by omega)).symm
        | exact (c4 (by omega) hq (by omega) (by omega)).symm
        | exact (c5 (by omega) hq (by omega) (by omega)).symm
        | exact (c2 hq).symm
        | (exfalso; simp_all; try omega)
set_option maxRecDepth 100000 in
theorem refClamp_any (x lo hi : Nat) (w : World) (hx : x < 18446744073709551616) (hl : lo < 18446744073709551616) (hh : hi < 18446744073709551616) : Calls Try.prog 30 #[.float .f64 x, .float .f64 lo, .float .f64 hi] w (ClampPost x lo hi w) := by
  have C := hid (clamp_cases x lo hi)
  have HX := hid hx
  have HL := hid hl
  have HH := hid hh
  clear hx hl hh
  go_enter Try.func30, Try.ntmps30
  go_wp2_with (first | (go_at_call 17; refine (refCompare_any _ _ _ (by first | exact HX.out | exact HL.out | exact HH.out) (by first | exact HX.out | exact HL.out | exact HH.out)).mono ?_; rintro e w' ⟨rfl, rfl⟩) | (go_at_call 55; refine (none_any _ _).mono ?_; rintro e w' ⟨rfl, rfl⟩) | (go_at_call 51; refine (mkNaN_any _).mono ?_; rintro e w' ⟨rfl, rfl⟩))
  all_goals
    go_ret
    refine ⟨ret_f ?_, rfl⟩
    obtain ⟨c1, c2, c3, c4, c5⟩ := C.out
    rcases Bool.eq_false_or_eq_true (nanB x) with hq | hq
    all_goals
      first
        | exact (c1 (by omega)).symm
        | exact (c3 (by omega) hq (by omega)).symm
        | exact (c4 (by omega) hq (by omega) (by omega)).symm
        | exact (c5 (by omega) hq (by omega) (by omega)).symm
        | exact (c2 hq).symm
        | (exfalso; simp_all; try omega)
end Go.Proofs.Ytldhbodhpdhncaa
