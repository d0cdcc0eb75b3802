/- The walk of the law's own look. -/
import Derived.Test.YtldhbodhpdhncaaMw
set_option linter.unusedSimpArgs false
set_option linter.unusedVariables false
namespace Go.Proofs.Ytldhbodhpdhncaa
open Go.ChangeShapes Go.WideShapes Go.RowKit Go.Mor Go.Fl

theorem new_no {l : List Nat} {w : World} {c : Int} (hc : newC l = c) (h0 : c ≠ 0) {e : Ending} {w' : World} (h : NewPost l w e w') : e = .returned (.tuple #[.pointer none, .int .i64 c]) ∧ Below w.heap.size w w' := by
  obtain ⟨hb, ⟨_, he⟩ | ⟨h, _⟩⟩ := h
  · rw [hc] at he; exact ⟨he, hb⟩
  · rw [hc] at h; exact absurd h h0
def NewYes (l : List Nat) (w : World) (e : Ending) (w' : World) : Prop := ∃ g h A c k, e = .returned (.tuple #[.pointer (some ⟨g, 0, none⟩), .int .i64 0]) ∧ Below w.heap.size w w' ∧ w.heap.size ≤ g ∧ w.heap.size ≤ h ∧ FedAt w' g h l [] A c k ∧ ∀ b off, A = some ⟨b, off, none⟩ → w.heap.size ≤ b
theorem new_yes {l : List Nat} {w : World} (hc : newC l = 0) {e : Ending} {w' : World} (h : NewPost l w e w') : NewYes l w e w' := by
  obtain ⟨hb, ⟨h, _⟩ | ⟨_, g, hh, A, c, k, he, h1, h2, m, h3⟩⟩ := h
  · exact absurd hc h
  · exact ⟨g, hh, A, c, k, he, hb, h1, h2, fed_new m, h3⟩
theorem fits_lit {l : List Nat} (h : l.all (fun x => decide (x < 18446744073709551616)) = true) : fits l := fun x hx => by simpa using List.all_eq_true.1 h x hx
theorem below_alloc (w : World) (o : Obj) : Below w.heap.size w (w.alloc o) := (Below.refl _ _).alloc (Nat.le_refl _) _
theorem fed6_at {w : World} {g h : Nat} {A : Option Addr} {c k : Nat} (m : FedAt w g h edges3 fed6 A c k) : MeterAt w g h edges3 [0, 2, 2, 1] 1 0 4626322717216342016 4632233691727265792 A c k := by
  obtain ⟨s, hs, m⟩ := m
  rw [some6] at hs
  rw [some6, count6, least6, great6] at m
  rw [sum6] at hs
  have hs : s = 4632233691727265792 := hs
  subst hs
  exact m
theorem fed1_at {w : World} {g h : Nat} {A : Option Addr} {c k : Nat} (m : FedAt w g h edges3 [18442240474082181120] A c k) : ∃ lo hi, MeterAt w g h edges3 [1, 0, 0, 0] 0 lo hi 18442240474082181120 A c k := by
  obtain ⟨s, hs, m⟩ := m
  rw [some1] at hs
  rw [some1, count1] at m
  rw [sum1] at hs
  have hs : s = 18442240474082181120 := hs
  subst hs
  exact ⟨_, _, m⟩
theorem fed0_at {w : World} {g h : Nat} {A : Option Addr} {c k : Nat} (m : FedAt w g h [0] [] A c k) : ∃ lo hi, MeterAt w g h [0] [0, 0] 0 lo hi 0 A c k := by
  obtain ⟨s, hs, m⟩ := m
  have hs : stR (sumO []) s := hs
  rw [sumO_nil] at hs
  have hs : s = 0 := hs
  subst hs
  exact ⟨_, _, m⟩
theorem MeterAt.edge_lt {w : World} {g h : Nat} {E C : List Nat} {nn lo hi s : Nat} {A : Option Addr} {c k : Nat} (m : MeterAt w g h E C nn lo hi s A c k) (hE : E ≠ []) {b off : Nat} (hA : A = some ⟨b, off, none⟩) : b < w.heap.size := by
  rcases m.ed with x | ⟨b2, off2, h1, h2, _⟩
  · exact absurd x hE
  · rw [h1] at hA; injection hA with hA; injection hA with hA _ _; omega
/-- A meter that was there before: new blocks are none of its own. -/
theorem apart_new {w : World} {g h g2 h2 : Nat} {E C : List Nat} {nn lo hi s : Nat} {A : Option Addr} {c k : Nat} (m : MeterAt w g h E C nn lo hi s A c k) (hE : E ≠ []) (h1 : w.heap.size ≤ g2) (h3 : w.heap.size ≤ h2) : Apart g2 h2 g h A :=
  ⟨by have := m.lg; omega, by have := m.lg; omega, by have := m.lh; omega, by have := m.lh; omega, fun b off hA => by have := m.edge_lt hE hA; omega⟩
theorem apart_old {w : World} {g h g2 h2 : Nat} {E C : List Nat} {nn lo hi s : Nat} {A A2 : Option Addr} {c k : Nat} (m : MeterAt w g h E C nn lo hi s A c k) (h1 : w.heap.size ≤ g2) (h3 : w.heap.size ≤ h2) (h4 : ∀ b off, A2 = some ⟨b, off, none⟩ → w.heap.size ≤ b) : Apart g h g2 h2 A2 :=
  ⟨by have := m.lg; omega, by have := m.lh; omega, by have := m.lg; omega, by have := m.lh; omega, fun b off hA => by have := h4 b off hA; have := m.lg; have := m.lh; omega⟩
theorem joinC_eq {F : List Nat} (h : JoinC [0, 2, 2, 1] [1, 0, 0, 0] 4 F) (hl : F.length = 4) : F = [1, 2, 2, 1] := by
  obtain ⟨a, b, c, d, rfl⟩ : ∃ a b c d, F = [a, b, c, d] := by
    match F, hl with
    | [a, b, c, d], _ => exact ⟨a, b, c, d, rfl⟩
  have h0 := h 0 0 1 rfl rfl
  have h1 := h 1 2 0 rfl rfl
  have h2 := h 2 2 0 rfl rfl
  have h3 := h 3 1 0 rfl rfl
  simp at h0 h1 h2 h3
  rw [h0, h1, h2, h3]
theorem quant_first {w : World} {g h : Nat} {lo hi s : Nat} {A : Option Addr} {c k : Nat} (m : MeterAt w g h edges3 [1, 0, 0, 0] 0 lo hi s A c k) :
    Calls Try.prog 46 #[.pointer (some ⟨g, 0, none⟩), .float .f64 4607182418800017408] w fun e w' => e = .returned (.int .i64 0) ∧ w = w' := by
  obtain ⟨e1, e2, e3, e4⟩ := ends_sr
  have n1 : nanB 4607182418800017408 = false := e4
  have l1 : ltB 4607182418800017408 0 = false := by rw [ltB_spec, e3, e4, e1, e2]; decide
  have l2 : ltB 4607182418800017408 4607182418800017408 = false := by rw [ltB_spec, e4, e2]; decide
  obtain ⟨_, r, hr, _, _, hw, _⟩ := part_index n1 l1 l2 (q := 0) (by decide)
  obtain rfl : r = 0 := by omega
  refine (quant_some m (by decide) 4607182418800017408 0 0 rfl (by decide) n1 l1 l2 hw (Nat.le_refl _)).mono ?_
  rintro e w' ⟨⟨i, he, hi, s1, s2⟩, hww⟩
  have : i = 0 := by
    rcases i with _ | i
    · rfl
    · exfalso
      have : 1 ≤ (List.take (i + 1) [1, 0, 0, 0]).sum := by simp
      omega
  subst this
  exact ⟨he, hww⟩
set_option maxRecDepth 100000 in
set_option maxHeartbeats 4000000 in
theorem works39_any (w : World) : Calls Try.prog 31 #[] w fun e w' => e = .returned (.bool true) ∧ Below w.heap.size w w' := by
  go_enter Try.func31, Try.ntmps31
  go_wp2_with fail
  refine (new_any _ 3 3 edges3 _ rfl (by decide) (flt_new _ _ _ _) (fits_lit (by decide))).mono ?_
  intro e w1 hp
  obtain ⟨g, h, A, c, k, rfl, hb, hg, hh, M, hA⟩ := new_yes new3 hp
  have B1 : Hid (Below w.heap.size w w1) := hid ((below_alloc _ _).trans (hb.mono (by simp)))
  have G1 : Hid (w.heap.size ≤ g ∧ w.heap.size ≤ h) := hid (by simp at hg hh; omega)
  have L1 : Hid (g < w1.heap.size ∧ h < w1.heap.size) := hid (by obtain ⟨s, _, m⟩ := M; exact ⟨m.lg, m.lh⟩)
  have M1 := hid M
  clear hp hb hg hh M hA
  go_wp2_with fail
  refine (new_any _ 2 2 [4607182418800017408, 4607182418800017408] _ rfl (by decide) (flt_new _ _ _ _) (fits_lit (by decide))).mono ?_
  intro e w2 hp
  obtain ⟨rfl, hb⟩ := new_no new11 (by decide) hp
  have B2 : Hid (Below w1.heap.size w1 w2) := hid ((below_alloc _ _).trans (hb.mono (by simp)))
  clear hp hb
  go_wp2_with (go_at_call 51; refine (mkNaN_any _).mono ?_; rintro e w' ⟨rfl, rfl⟩)
  refine (new_any _ 1 1 [9221120237041090561] _ rfl (by decide) (flt_new _ _ _ _) (fits_lit (by decide))).mono ?_
  intro e w3 hp
  obtain ⟨rfl, hb⟩ := new_no newN (by decide) hp
  have B3 : Hid (Below w1.heap.size w1 w3) := hid (B2.out.trans (((below_alloc _ _).trans (hb.mono (by simp))).mono B2.out.size))
  clear hp hb B2
  go_wp2_with fail
  refine (new_any none 0 0 [] _ rfl (by decide) (.inl rfl) (fits_lit (by decide))).mono ?_
  intro e w4 hp
  obtain ⟨rfl, hb⟩ := new_no new0 (by decide) hp
  have B4 : Hid (Below w1.heap.size w1 w4) := hid (B3.out.trans (hb.mono B3.out.size))
  have M4 : Hid (FedAt w4 g h edges3 (five.take 0) A c k) := hid (M1.out.keep B4.out)
  clear hp hb B3
  go_wp2
  go_loopw [9] (fun t wr => ∃ j : Nat, j ≤ 5 ∧ t = .int .i64 j ∧ Kp g h w4 wr ∧ FedAt wr g h edges3 (five.take j) A c k) (fun t _ => 5 - (intOf t).toNat)
  case atStart => exact ⟨0, by omega, rfl, Kp.refl _ _ _, M4.out⟩
  case round =>
    rename_i wr
    obtain ⟨j, hj, rfl, kp, mF⟩ := hrel
    have KP := hid kp
    have MF := hid mF
    clear kp mF
    by_cases hlt : j < 5
    · have hx := five_at hlt
      have HT := hid (take_succ hx)
      have hi0 : (0 : Int) ≤ (j : Int) := by omega
      have hi1 : (j : Int) < 5 := by omega
      have hxl : Hid (floatOfInt .f64 (5 * (j : Int)) < 18446744073709551616) := hid (fits_lit (l := five) (by decide) _ (List.mem_of_getElem? hx))
      have hl5 : Hid ((five.take j).length < 100000) := hid (by have := List.length_take_le j five; omega)
      clear hx
      go_wp2_with fail
      refine (add_fed MF.out hl5.out hxl.out).mono ?_
      rintro e w' ⟨rfl, k2, m2⟩
      have K2 := hid (KP.out.trans k2)
      have M2 := hid m2
      clear k2 m2
      go_wp2
      refine ⟨⟨j + 1, by omega, by go_num, K2.out, by rw [HT.out]; exact M2.out⟩, by simp [intOf]; omega⟩
    · have hj5 : j = 5 := by omega
      subst hj5
      clear hlt
      go_wp2_with (go_at_call 51; refine (mkNaN_any _).mono ?_; rintro e w' ⟨rfl, rfl⟩)
      refine (add_fed MF.out (by decide) (by decide)).mono ?_
      rintro e w5 ⟨rfl, k2, m2⟩
      have K5 : Hid (Kp g h w4 w5) := hid (KP.out.trans k2)
      have M5 : Hid (MeterAt w5 g h edges3 [0, 2, 2, 1] 1 0 4626322717216342016 4632233691727265792 A c k) := hid (fed6_at m2)
      have B5 : Hid (Below w.heap.size w w5) := hid (B1.out.trans ((B4.out.mono B1.out.size).trans (K5.out.below (Nat.le_trans B1.out.size B4.out.size) G1.out.1 G1.out.2)))
      clear k2 m2 KP MF M4 K5 B4 M1 L1 B1
      go_wp2_with fail
      refine (counts_of2 M5.out).mono ?_
      rintro e w6 ⟨AI, ci, rfl, hb, hI, hI2⟩
      have B6 : Hid (Below w5.heap.size w5 w6) := hid hb
      have I6 : Hid (Ins w6 AI [0, 2, 2, 1]) := hid hI
      have I6b := hid hI2
      have I6c : Hid (∀ b off, AI = some ⟨b, off, none⟩ → b < w6.heap.size) := hid (fun b off hA => by
        rcases hI with x | ⟨b2, off2, h1, h2, _⟩
        · cases x
        · rw [h1] at hA; injection hA with hA; injection hA with hA _ _; omega)
      have M6 := hid (M5.out.keep hb)
      clear hb hI hI2
      go_wp2_with fail
      refine (ends_of M6.out).mono ?_
      rintro e w7 ⟨rfl, hb⟩
      have B7 := hid hb
      have M7 := hid (M6.out.keep hb)
      have I7 := hid (I6.out.keep hb)
      clear hb
      go_wp2_with fail
      refine (new_any _ 3 3 edges3 _ rfl (by decide) (flt_new _ _ _ _) (fits_lit (by decide))).mono ?_
      intro e w8 hp
      obtain ⟨g2, h2, A2, c2, k2, rfl, hb, hg, hh, O8, hA⟩ := new_yes new3 hp
      have B8 : Hid (Below w7.heap.size w7 w8) := hid ((below_alloc _ _).trans (hb.mono (by simp)))
      have G2 : Hid (w7.heap.size ≤ g2 ∧ w7.heap.size ≤ h2 ∧ ∀ b off, A2 = some ⟨b, off, none⟩ → w7.heap.size ≤ b) := hid (by
        simp at hg hh
        exact ⟨by omega, by omega, fun b off h => by have := hA b off h; simp at this; omega⟩)
      have O8 := hid O8
      have M8 := hid (M7.out.keep B8.out)
      have I8 := hid (I7.out.keep B8.out)
      clear hp hb hg hh hA
      go_wp2_with fail
      refine (new_any _ 1 1 [0] _ rfl (by decide) (flt_new _ _ _ _) (fits_lit (by decide))).mono ?_
      intro e w9 hp
      obtain ⟨g3, h3, A3, c3, k3, rfl, hb, hg, hh, P9, hA⟩ := new_yes new1 hp
      have B9 : Hid (Below w8.heap.size w8 w9) := hid ((below_alloc _ _).trans (hb.mono (by simp)))
      have G3 : Hid (w8.heap.size ≤ g3 ∧ w8.heap.size ≤ h3 ∧ ∀ b off, A3 = some ⟨b, off, none⟩ → w8.heap.size ≤ b) := hid (by
        simp at hg hh
        exact ⟨by omega, by omega, fun b off h => by have := hA b off h; simp at this; omega⟩)
      have P9 := hid P9
      have O9 := hid (O8.out.keep B9.out)
      have M9 := hid (M8.out.keep B9.out)
      have I9 := hid (I8.out.keep B9.out)
      clear hp hb hg hh hA
      go_wp2_with (go_at_call 52; refine (inf_any _ _ _ rfl).mono ?_; rintro e w' ⟨rfl, rfl⟩)
      refine (add_fed O9.out (by decide) (by decide)).mono ?_
      rintro e w10 ⟨rfl, kk, mm⟩
      have K10 := hid kk
      have O10 : Hid (FedAt w10 g2 h2 edges3 [18442240474082181120] A2 c2 k2) := hid mm
      have I67 : Hid (w6.heap.size ≤ w7.heap.size) := hid B7.out.size
      have I10 : Hid (Ins w10 AI [0, 2, 2, 1]) := hid (I9.out.kp kk (fun b off hA => by have := I6c.out b off hA; have := I67.out; have := G2.out.1; have := G2.out.2.1; omega))
      have M10 := hid (M9.out.kp kk (apart_new M7.out (by decide) G2.out.1 G2.out.2.1))
      have P10 := hid (P9.out.kp kk (by obtain ⟨s, _, mO⟩ := O8.out; exact apart_old mO G3.out.1 G3.out.2.1 G3.out.2.2))
      clear kk mm
      obtain ⟨lo2, hi2, mO⟩ := fed1_at O10.out
      have MO := hid mO
      clear mO
      have AP2 : Hid (Apart g h g2 h2 A2) := hid (apart_old M7.out G2.out.1 G2.out.2.1 G2.out.2.2)
      have AP3 : Hid (Apart g h g3 h3 A3) := hid (apart_old M8.out G3.out.1 G3.out.2.1 G3.out.2.2)
      go_wp2_with fail
      refine (join_of M10.out MO.out AP2.out (by decide) (by decide) (by decide) (by decide)).mono ?_
      rintro e w11 ⟨F, s3, rfl, jF, hs3, kk, mm⟩
      obtain rfl := joinC_eq jF mm.lc
      obtain rfl := sum_end hs3
      have K11 := hid kk
      have M11 := hid mm
      have I11 : Hid (Ins w11 AI [0, 2, 2, 1]) := hid (I10.out.kp kk (fun b off hA => by have := I6b.out b off hA; have := M5.out.lg; have := M5.out.lh; omega))
      have O11 := hid (MO.out.kp kk AP2.out)
      have P11 := hid (P10.out.kp kk AP3.out)
      clear kk mm jF hs3
      obtain ⟨lo3, hi3, mP⟩ := fed0_at P11.out
      have MP := hid mP
      clear mP
      go_wp2_with fail
      refine (join_len M11.out MP.out (by decide)).mono ?_
      rintro e w12 ⟨rfl, hb⟩
      have B12 := hid hb
      have M12 := hid (M11.out.keep hb)
      have O12 := hid (O11.out.keep hb)
      have P12 := hid (MP.out.keep hb)
      have I12 := hid (I11.out.keep hb)
      clear hb
      go_wp2_with fail
      refine (steps_any 4607182418800017408 4602678819172646912 3 _).mono ?_
      rintro e w13 ⟨hb, hS⟩
      obtain ⟨AS, cS, vs, rfl, hvl, hvF, hvs⟩ : ∃ A c vs, e = .returned (.tuple #[.slice A 3 c, .int .i64 0]) ∧ vs.length = 3 ∧ Flt w13 A vs ∧ ∀ (j r : Nat), vs[j]? = some r → stepB 4607182418800017408 4602678819172646912 (j : Int) r = true := by
        rcases hS with ⟨hx, _⟩ | ⟨_, _, hS⟩
        · omega
        · exact hS
      obtain ⟨r2, hr2⟩ : ∃ r, vs[2]? = some r := ⟨_, List.getElem?_eq_getElem (by omega)⟩
      obtain ⟨gs, os, rfl, hws, hcs⟩ := hvF.at hr2
      obtain rfl := step2 (hvs 2 r2 hr2)
      have B13 := hid hb
      have M13 := hid (M12.out.keep hb)
      have O13 := hid (O12.out.keep hb)
      have P13 := hid (P12.out.keep hb)
      obtain ⟨gi, oi, rfl, hwi, hc0⟩ := (I12.out.keep hb).at (k := 0) (x := 0) rfl
      have hI13 := hid (I12.out.keep hb)
      have hc1 : w13.cell? ⟨gi, oi + 1, none⟩ = some (.int .i64 2) := by
        rcases hI13.out with x | ⟨b, off, h1, h2, h3⟩
        · cases x
        · injection h1 with h1; injection h1 with e1 e2 _; subst e1; subst e2; exact h3 1 2 rfl
      have hc2 : w13.cell? ⟨gi, oi + 2, none⟩ = some (.int .i64 2) := by
        rcases hI13.out with x | ⟨b, off, h1, h2, h3⟩
        · cases x
        · injection h1 with h1; injection h1 with e1 e2 _; subst e1; subst e2; exact h3 2 2 rfl
      have hc3 : w13.cell? ⟨gi, oi + 3, none⟩ = some (.int .i64 1) := by
        rcases hI13.out with x | ⟨b, off, h1, h2, h3⟩
        · cases x
        · injection h1 with h1; injection h1 with e1 e2 _; subst e1; subst e2; exact h3 3 1 rfl
      clear hb hS hvl hvF hvs hr2
      have hc0' : w13.cell? ⟨gi, oi, none⟩ = some (.int .i64 0) := hc0
      have e0 := eqF0
      have e20 := eqF20
      have BF : Hid (Below w.heap.size w w13) := hid (by
        have b7 := B5.out.trans ((B6.out.trans (B7.out.mono B6.out.size)).mono B5.out.size)
        have b9 := b7.trans ((B8.out.trans (B9.out.mono B8.out.size)).mono b7.size)
        have hs1 : w.heap.size ≤ g2 ∧ w.heap.size ≤ h2 := ⟨Nat.le_trans b7.size G2.out.1, Nat.le_trans b7.size G2.out.2.1⟩
        have b10 := b9.trans (K10.out.below b9.size hs1.1 hs1.2)
        have b11 := b10.trans (K11.out.below b10.size G1.out.1 G1.out.2)
        exact b11.trans ((B12.out.trans (B13.out.mono B12.out.size)).mono b11.size))
      clear hc0
      go_wp2_with (first
        | (go_at_call 43; refine (none_of M13.out).mono ?_; rintro e w' ⟨rfl, rfl⟩)
        | (go_at_call 42; refine (len_of M13.out (by decide)).mono ?_; rintro e w' ⟨rfl, rfl⟩)
        | (go_at_call 44; refine (sum_of M13.out).mono ?_; rintro e w' ⟨rfl, rfl⟩)
        | (go_at_call 53; refine (isInf_neg _).mono ?_; rintro e w' ⟨rfl, rfl⟩))
      refine (quant_first O13.out).mono ?_
      rintro e w' ⟨rfl, rfl⟩
      go_wp2_with fail
      refine (quant_none P13.out (by decide) 0 (.inl rfl)).mono ?_
      rintro e w' ⟨rfl, rfl⟩
      go_wp2_with fail
      refine (mean_of P13.out (by decide)).mono ?_
      rintro e w14 ⟨r, rfl, hr, hb⟩
      have HR := hid (mean_none hr)
      have B14 : Hid (Below w.heap.size w w14) := hid (BF.out.trans (hb.mono BF.out.size))
      clear hb hr
      go_wp2_with (go_at_call 13; refine (isnan_of _ HR.out _).mono ?_; rintro e w' ⟨rfl, rfl⟩)
      go_ret
      exact ⟨rfl, B14.out⟩
end Go.Proofs.Ytldhbodhpdhncaa
