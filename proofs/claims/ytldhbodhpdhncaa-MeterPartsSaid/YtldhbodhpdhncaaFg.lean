/- The index of a part of so many lies among them. -/
import Derived.Test.YtldhbodhpdhncaaFe
import Derived.Test.YtldhbodhpdhncaaRf
set_option linter.unusedSimpArgs false
set_option linter.unusedVariables false
namespace Go.Proofs.Ytldhbodhpdhncaa
open Go.Fl Ieee

/-- What the float64 of a small count is, exactly. -/
def tabB (q : Nat) : Bool :=
  let R := floatOfInt .f64 (q : Int)
  decide (R < 4645744490609377280) && (V R == q * 2 ^ 1074) && (q == 0 || (decide (4503599627370496 ≤ mg R) && decide (mg R < 9007199254740992) && decide (pl R ≤ 1074) && (R == pl R * 4503599627370496 + mg R)))
theorem tab_all : ((List.range 101).all tabB) = true := by decide +kernel
theorem tab_at {q : Nat} (h : q ≤ 100) : tabB q = true := by
  have := List.all_eq_true.1 tab_all q (List.mem_range.2 (by omega))
  exact this
theorem rg_small {x : Nat} (h : x < 9223372036854775808) : rg x = x ∧ sgn x = false := by
  unfold rg sgn; constructor
  · omega
  · simp; omega
theorem V_le {r s : Nat} (h : r ≤ s) : V r ≤ V s := by
  rcases Nat.lt_or_ge r s with c | c
  · exact Nat.le_of_lt (V_lt c)
  · have : r = s := by omega
    rw [this]; exact Nat.le_refl _
theorem cut_div (s : Bool) (n k : Nat) : Toward.zero.cut s n k = n / 2 ^ min k (n.log2 + 2) ∨ Toward.zero.cut s n k = n / 2 ^ k := by
  left; unfold Toward.cut; simp [Nat.shiftLeft_eq, Nat.shiftRight_eq_div_pow]
theorem cut_le_zero (s : Bool) (n k q : Nat) (h : n ≤ q * 2 ^ k) : Toward.zero.cut s n k ≤ q := by
  unfold Toward.cut
  simp only [Bool.toNat_false, Nat.add_zero]
  by_cases hk : k ≤ n.log2 + 2
  · rw [Nat.min_eq_left hk, Nat.shiftLeft_eq, Nat.one_mul]
    rw [Nat.div_le_iff_le_mul_add_pred (Nat.two_pow_pos k)]
    have : q * 2 ^ k = 2 ^ k * q := Nat.mul_comm _ _
    omega
  · have hk2 : n.log2 + 2 ≤ k := by omega
    rw [Nat.min_eq_right hk2, Nat.shiftLeft_eq, Nat.one_mul]
    have hlt : n < 2 ^ (n.log2 + 1) := Nat.lt_log2_self
    have h2 : 2 ^ (n.log2 + 2) = 2 * 2 ^ (n.log2 + 1) := by rw [Nat.pow_succ, Nat.mul_comm]
    rw [Nat.div_eq_of_lt (by omega)]; omega
/-- A word of no sign up to that of a count has a whole part up to it. -/
theorem valI_le {y q R : Nat} (hR : R < 4645744490609377280) (hv : V R = q * 2 ^ 1074) (hy : rg y ≤ R) (hs : sgn y = true → rg y = 0) : ∃ r : Nat, r ≤ q ∧ valI y = (r : Int) := by
  obtain ⟨n, h1, h2⟩ := whole_some (x := y) (by omega)
  have e : valI y = n := by unfold valI; rw [h1]; rfl
  have hp : pl (rg y) ≤ 1074 := by unfold pl; omega
  have hc : Toward.zero.cut (sgn y) (mg (rg y)) (1074 - pl (rg y)) ≤ q := by
    apply cut_le_zero
    have h3 := V_le hy
    rw [hv] at h3
    have h4 : q * 2 ^ 1074 = (q * 2 ^ (1074 - pl (rg y))) * 2 ^ pl (rg y) := by rw [Nat.mul_assoc, ← Nat.pow_add]; congr 2; omega
    rw [h4] at h3
    exact Nat.le_of_mul_le_mul_right h3 (Nat.two_pow_pos _)
  refine ⟨_, hc, ?_⟩
  rw [e, h2]
  cases hsg : sgn y
  · simp
  · have h0 := hs hsg
    rw [h0]
    have hm : mg 0 = 0 := by decide
    have hz : Toward.zero.cut true (mg 0) (1074 - pl 0) = 0 := by decide +kernel
    rw [hz]; simp
theorem word_rg (s : Bool) (R : Nat) (h : R < 9223372036854775808) : rg (double.word s R) = R ∧ sgn (double.word s R) = s ∧ double.word s R < 18446744073709551616 := by
  have e : double.word s R = if s then 9223372036854775808 + R else R := by
    unfold Format.word
    rw [show double.signWeight = 9223372036854775808 by decide]

  rw [e]
  unfold rg sgn
  cases s <;> simp <;> omega
theorem one_V : V 4607182418800017408 = 2 ^ 1074 := by decide +kernel
theorem write_number (s : Bool) (m : Nat) (i : Int) : double.write (.number s m i) = double.nearest s m i := rfl
theorem nearest_zero (s : Bool) (i : Int) : double.nearest s 0 i = double.word s 0 := by unfold Format.nearest; rw [if_pos rfl]
/-- Of a part in [0, 1] and a count: the product is a word that is not above the count's. -/
theorem part_word {p q : Nat} (hn : nanB p = false) (h0 : ltB p 0 = false) (h1 : ltB 4607182418800017408 p = false) (hq : q ≤ 100) :
    ∃ y, floatBits .mul .f64 p (floatOfInt .f64 (q : Int)) = some y ∧ rg y ≤ floatOfInt .f64 (q : Int) ∧ (sgn y = true → rg y = 0) := by
  have ht := tab_at hq
  unfold tabB at ht
  simp only [Bool.and_eq_true, Bool.or_eq_true, decide_eq_true_eq, beq_iff_eq] at ht
  generalize hx : floatOfInt .f64 (q : Int) = R at *
  obtain ⟨⟨hR, hV⟩, ht⟩ := ht
  generalize 2 ^ 1074 = K at hV
  obtain ⟨eR, sR⟩ := rg_small (x := R) (by omega)
  have e1 : sr 4607182418800017408 = 4607182418800017408 := by rw [sr_def]; unfold rg sgn; decide
  have e0 : sr 0 = 0 := by rw [sr_def]; unfold rg sgn; decide
  have n1 : nanB 4607182418800017408 = false := by rw [nan_rg]; unfold rg; decide
  have n0 : nanB 0 = false := by rw [nan_rg]; unfold rg; decide
  unfold ltB at h0 h1
  rw [hn, n0, e0] at h0
  rw [hn, n1, e1] at h1
  simp at h0 h1
  rw [sr_def] at h0 h1
  have hz : sgn p = true → rg p = 0 := by intro hs; rw [hs] at h0; simp at h0; omega
  have hle : rg p ≤ 4607182418800017408 := by
    cases hs : sgn p
    · rw [hs] at h1; simp at h1; omega
    · rw [hz hs]; omega
  show ∃ y, ((double.read p).product (double.read R)).map double.write = some y ∧ _
  rw [read_eq p, if_pos (by omega), read_eq R, eR, sR, if_pos (by omega)]
  simp only [Datum.product, Option.map_some, write_number, Bool.xor_false]
  refine ⟨_, rfl, ?_⟩
  by_cases hm : mg (rg p) * mg R = 0
  · rw [hm, nearest_zero]
    obtain ⟨w1, w2, _⟩ := word_rg (sgn p) 0 (by decide)
    rw [w1]
    exact ⟨Nat.zero_le _, fun _ => rfl⟩
  · have hs : sgn p = false := by
      cases hs : sgn p
      · rfl
      · rw [hz hs] at hm
        exact absurd (by rw [show mg 0 = 0 by decide, Nat.zero_mul]) hm
    have hV0 : q = 0 → V R = 0 := fun h => by rw [hV, h, Nat.zero_mul]
    have hq0 : q ≠ 0 := by
      intro h
      have hV := hV0 h
      have : mg R = 0 := by
        unfold V at hV
        rcases Nat.mul_eq_zero.1 hV with h | h
        · exact h
        · have := Nat.two_pow_pos (pl R); omega
      rw [this, Nat.mul_zero] at hm; exact hm rfl
    rcases ht with h | ⟨⟨⟨m1, m2⟩, m3⟩, m4⟩
    · exact absurd h hq0
    have pp : pl (rg p) ≤ 1074 := by unfold pl; omega
    have hmp : mg (rg p) ≤ 2 ^ (1074 - pl (rg p)) := by
      have h3 := V_le hle
      rw [one_V] at h3
      have h4 : 2 ^ 1074 = 2 ^ (1074 - pl (rg p)) * 2 ^ pl (rg p) := by rw [← Nat.pow_add]; congr 1; omega
      rw [h4] at h3
      exact Nat.le_of_mul_le_mul_right h3 (Nat.two_pow_pos _)
    obtain ⟨R', hR', hle'⟩ := nearest_le (sgn p) (mg (rg p) * mg R) (mg R) (-1074 + (pl (rg p) : Int) + (-1074 + (pl R : Int))) (-1074 + (pl R : Int)) hm m1 m2 (by omega) (by omega) (by omega) (by
      have z1 : (-(-1074 + (pl R : Int))).toNat = 1074 - pl R := by omega
      have z2 : (-(-1074 + (pl (rg p) : Int) + (-1074 + (pl R : Int)))).toNat = (1074 - pl (rg p)) + (1074 - pl R) := by omega
      rw [z1, z2, Nat.pow_add, Nat.mul_comm (mg (rg p)) (mg R), Nat.mul_assoc]
      exact Nat.mul_le_mul_left _ (Nat.mul_le_mul_right _ hmp))
    rw [hR']
    have z3 : (-1074 + (pl R : Int) + 1074).toNat = pl R := by omega
    rw [z3, ← m4] at hle'
    obtain ⟨w1, w2, _⟩ := word_rg (sgn p) R' (by omega)
    rw [w1, w2, hs]
    exact ⟨hle', fun h => by cases h⟩
/-- The index of a part. -/
theorem part_index {p q : Nat} (hn : nanB p = false) (h0 : ltB p 0 = false) (h1 : ltB 4607182418800017408 p = false) (hq : q ≤ 100) :
    okF .mul p (floatOfInt .f64 (q : Int)) = true ∧ ∃ r : Nat, r ≤ q ∧ okI (valF .mul p (floatOfInt .f64 (q : Int))) = true ∧ valI (valF .mul p (floatOfInt .f64 (q : Int))) = (r : Int) ∧ wholeN (valF .mul p (floatOfInt .f64 (q : Int))) = (r : Int) ∧ wholeC (valF .mul p (floatOfInt .f64 (q : Int))) = 0 := by
  obtain ⟨y, hy, hle, hs⟩ := part_word hn h0 h1 hq
  have ht := tab_at hq
  unfold tabB at ht
  simp only [Bool.and_eq_true, Bool.or_eq_true, decide_eq_true_eq, beq_iff_eq] at ht
  obtain ⟨⟨hR, hV⟩, _⟩ := ht
  have ho : okF .mul p (floatOfInt .f64 (q : Int)) = true := by unfold okF; rw [hy]; rfl
  have hv : valF .mul p (floatOfInt .f64 (q : Int)) = y := by unfold valF; rw [hy]; rfl
  rw [hv]
  obtain ⟨r, hr, e⟩ := valI_le hR hV hle hs
  have ny : nanB y = false := by rw [nan_rg]; simp; omega
  obtain ⟨f1, f2, f3, f4⟩ := far_sr
  have l1 : ltB y 14010698440749613056 = false := by
    unfold ltB; rw [ny, f3, f1, sr_def]
    cases hsy : sgn y
    · simp <;> omega
    · rw [hs hsy]; decide
  have l2 : ltB 4787326403894837248 y = false := by
    unfold ltB; rw [ny, f4, f2, sr_def]
    cases hsy : sgn y
    · simp <;> omega
    · rw [hs hsy]; decide
  refine ⟨ho, r, hr, okI_near ny l1 l2, e, ?_, ?_⟩
  · unfold wholeN; rw [ny, l1, l2]; exact e
  · unfold wholeC; rw [ny, l1, l2]; rfl
end Go.Proofs.Ytldhbodhpdhncaa
