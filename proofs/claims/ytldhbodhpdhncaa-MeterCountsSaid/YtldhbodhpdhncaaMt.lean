/- The reference's band of a part. -/
import Derived.Test.YtldhbodhpdhncaaMs
import Derived.Test.YtldhbodhpdhncaaMr
set_option linter.unusedSimpArgs false
set_option linter.unusedVariables false
namespace Go.Proofs.Ytldhbodhpdhncaa
open Go.ChangeShapes Go.WideShapes Go.RowKit Go.Mor Go.Fl

theorem eqB_spec (x y : Nat) : eqB x y = (!nanB x && !nanB y && decide (sr x = sr y)) := by
  unfold eqB
  show (Ieee.double.order x y == some Ordering.eq) = _
  rw [order_eq, cmp_def]
  cases nanB x <;> cases nanB y <;> simp
  by_cases h : sr x < sr y
  · simp [h]; omega
  · by_cases h2 : sr x = sr y <;> simp [h, h2]
theorem ltB_spec (x y : Nat) : ltB x y = (!nanB x && !nanB y && decide (sr x < sr y)) := by unfold ltB; rfl
theorem ends_sr : sr 0 = 0 ∧ sr 4607182418800017408 = 4607182418800017408 ∧ nanB 0 = false ∧ nanB 4607182418800017408 = false := by
  refine ⟨?_, ?_, ?_, ?_⟩ <;> (first | rw [sr_def] | rw [nan_rg]) <;> unfold rg <;> (try unfold sgn) <;> decide
/-- Between nought and one, both let in, as the reference asks. -/
theorem in_yes {p : Nat} {a b c d : Bool} (ha : ltB 0 p = a) (hb : eqB p 0 = b) (hc : ltB p 4607182418800017408 = c) (hd : eqB p 4607182418800017408 = d) (h : ((a || b) && (c || d)) = true) : nanB p = false ∧ ltB p 0 = false ∧ ltB 4607182418800017408 p = false := by
  obtain ⟨e1, e2, e3, e4⟩ := ends_sr
  rw [ltB_spec, e3, e1] at ha
  rw [eqB_spec, e3, e1] at hb
  rw [ltB_spec, e4, e2] at hc
  rw [eqB_spec, e4, e2] at hd
  rw [ltB_spec, ltB_spec, e3, e4, e1, e2]
  subst ha; subst hb; subst hc; subst hd
  cases hn : nanB p
  · rw [hn] at h; simp at h ⊢; omega
  · rw [hn] at h; simp at h
theorem in_no {p : Nat} {a b c d : Bool} (ha : ltB 0 p = a) (hb : eqB p 0 = b) (hc : ltB p 4607182418800017408 = c) (hd : eqB p 4607182418800017408 = d) (h : ((a || b) && (c || d)) = false) : nanB p = true ∨ ltB p 0 = true ∨ ltB 4607182418800017408 p = true := by
  obtain ⟨e1, e2, e3, e4⟩ := ends_sr
  rw [ltB_spec, e3, e1] at ha
  rw [eqB_spec, e3, e1] at hb
  rw [ltB_spec, e4, e2] at hc
  rw [eqB_spec, e4, e2] at hd
  rw [ltB_spec, ltB_spec, e3, e4, e1, e2]
  subst ha; subst hb; subst hc; subst hd
  cases hn : nanB p
  · rw [hn] at h; simp at h ⊢; omega
  · simp
set_option maxHeartbeats 2000000 in
theorem refQuant_none (A B : Option Addr) (n c m d p : Nat) (E l : List Nat) (w : World) (hl : l.length = m) (hm : m ≤ 100) (hB : Flt w B l) (hf : fits l) (hq : (someN l).length = 0 ∨ nanB p = true ∨ ltB p 0 = true ∨ ltB 4607182418800017408 p = true) :
    Calls Try.prog 47 #[.slice A n c, .slice B m d, .float .f64 p] w fun e w' => e = .returned (.int .i64 (-1)) ∧ Below w.heap.size w w' := by
  have HS := some_any B m d l w hl (by omega) hB
  have hsf : fits (someN l) := fun x hx => hf x (List.mem_filter.1 hx).1
  have hsm : (someN l).length ≤ 1000 := by
    have : (someN l).length ≤ l.length := List.length_filter_le _ _
    omega
  obtain ⟨S, hSl⟩ : ∃ S, someN l = S := ⟨_, rfl⟩
  obtain ⟨k, hk⟩ : ∃ k, S.length = k := ⟨_, rfl⟩
  have HSl := hid hSl
  have HK := hid hk
  have HF := hid hsf
  rw [hSl] at HF hsm hq
  rw [hk] at hsm hq
  clear hl hB hf hsf hSl hk
  go_enter Try.func47, Try.ntmps47
  go_wp2_with fail
  refine HS.mono ?_
  rintro e w1 ⟨B1, c1, rfl, hb1, hB1, -⟩
  rw [HSl.out, HK.out]
  rw [HSl.out] at hB1
  go_wp2_with fail
  refine (sorted_any _ k _ S _ HK.out hsm hB1 HF.out).mono ?_
  rintro e w2 ⟨B2, c2, rfl, hb2, hB2⟩
  rw [HK.out]
  have HB : Hid (Below w.heap.size w w2) := hid (hb1.trans (hb2.mono hb1.size))
  clear hb1 hB1 hb2 hB2 HS
  by_cases h0 : k = 0
  · subst h0
    clear hq
    go_wp2
    go_ret
    exact ⟨rfl, HB.out⟩
  · have hs : ((k : Int) == 0) = false := by rw [beq_eq_false_iff_ne]; omega
    cases ha : ltB 0 p <;> cases hb : eqB p 0 <;> cases hc : ltB p 4607182418800017408 <;> cases hd : eqB p 4607182418800017408
    all_goals
      first
        | (exfalso; obtain ⟨x1, x2, x3⟩ := in_yes ha hb hc hd rfl; rw [x1, x2, x3] at hq; simp at hq; omega)
        | (clear hq h0
           go_wp2
           go_ret
           exact ⟨rfl, HB.out⟩)
set_option maxHeartbeats 2000000 in
theorem refQuant_some (A B : Option Addr) (n c m d p q r x : Nat) (E l : List Nat) (w : World) (hE : E.length = n) (hn : n ≤ 100000) (hA : Flt w A E) (fE : fits E) (hl : l.length = m) (hm : m ≤ 100) (hB : Flt w B l) (hf : fits l)
    (hS : (someN l).length = q + 1) (h1 : nanB p = false) (h2 : ltB p 0 = false) (h3 : ltB 4607182418800017408 p = false)
    (hr : valI (valF .mul p (floatOfInt .f64 (q : Int))) = (r : Int)) (hrq : r ≤ q) (hx : (sortN (someN l))[r]? = some x) :
    Calls Try.prog 47 #[.slice A n c, .slice B m d, .float .f64 p] w fun e w' => e = .returned (.int .i64 (bandN E x)) ∧ Below w.heap.size w w' := by
  have HS := some_any B m d l w hl (by omega) hB
  have hsf : fits (someN l) := fun x hx => hf x (List.mem_filter.1 hx).1
  have hsm : q + 1 ≤ 100 := by
    have : (someN l).length ≤ l.length := List.length_filter_le _ _
    omega
  have hokm := (part_index h1 h2 h3 (q := q) (by omega)).1
  have hoki : okI (valF .mul p (floatOfInt .f64 (q : Int))) = true := by
    obtain ⟨r', _, g, _⟩ := (part_index h1 h2 h3 (q := q) (by omega)).2
    exact g
  have hxf : x < 18446744073709551616 := hsf x ((sortN_perm _).mem_iff.1 (List.mem_of_getElem? hx))
  obtain ⟨S, hSl⟩ : ∃ S, someN l = S := ⟨_, rfl⟩
  rw [hSl] at hS hsf hx
  have HSl := hid hSl
  have HK := hid hS
  have HF := hid hsf
  have HR := hid hr
  have HX := hid hx
  have HXF := hid hxf
  have HE := hid hE
  have HA := hid hA
  have FE := hid fE
  clear hl hB hf hsf hSl hS hr hx hxf hE hA fE
  cases ha : ltB 0 p <;> cases hb : eqB p 0 <;> cases hc : ltB p 4607182418800017408 <;> cases hd : eqB p 4607182418800017408
  all_goals
    first
      | (exfalso; have x0 := in_no ha hb hc hd rfl; rw [h1, h2, h3] at x0; simp at x0; done)
      | skip
  all_goals
    clear h1 h2 h3
    go_enter Try.func47, Try.ntmps47
    go_wp2_with fail
    refine HS.mono ?_
    rintro e w1 ⟨B1, c1, rfl, hb1, hB1, -⟩
    rw [HSl.out, HK.out]
    rw [HSl.out] at hB1
    go_wp2_with fail
    refine (sorted_any _ (q + 1) _ S _ HK.out (by omega) hB1 HF.out).mono ?_
    rintro e w2 ⟨B2, c2, rfl, hb2, hB2⟩
    rw [HK.out]
    have HB : Hid (Below w.heap.size w w2) := hid (hb1.trans (hb2.mono hb1.size))
    obtain ⟨g2, o2, rfl, hbb, hcell⟩ := hB2.at HX.out
    have FA : Hid (Flt w2 A E) := hid (flt_ext HA.out HB.out)
    clear hb1 hB1 hb2 hB2 HS
    have hs : ((((q + 1 : Nat) : Int)) == 0) = false := by rw [beq_eq_false_iff_ne]; omega
    have hs2 : (((q : Int) + 1) == 0) = false := by rw [beq_eq_false_iff_ne]; omega
    have hr0 : (0 : Int) ≤ (r : Int) := by omega
    have hr1 : (r : Int) < (q : Int) + 1 := by omega
    have hr3 := HR.out
    go_wp2_with (go_at_call 60; refine (refBand_any A n c x E _ HE.out hn FA.out FE.out HXF.out).mono ?_; rintro e w' ⟨rfl, rfl⟩)
    go_ret
    exact ⟨rfl, HB.out⟩
end Go.Proofs.Ytldhbodhpdhncaa
