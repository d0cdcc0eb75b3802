/- The walk of MeterCounts. -/
import Derived.Test.YtldhbodhpdhncaaMx
set_option linter.unusedSimpArgs false
set_option linter.unusedVariables false
namespace Go.Proofs.Ytldhbodhpdhncaa
open Go.ChangeShapes Go.WideShapes Go.RowKit Go.Mor Go.Fl

theorem mean_same2 {o : Option Nat} {s r r1 r2 : Nat} {n : Int} (hs : stR o s) (hr : stR o r) (h1 : partOf s n r1 = true) (h2 : resB .quo r (floatOfInt .f64 n) r2 = true) : sameB r1 r2 = true := by
  unfold partOf at h1
  cases o with
  | some v =>
    obtain rfl : s = v := hs
    obtain rfl : r = s := hr
    exact res_same h1 h2
  | none =>
    have k1 : okF .quo s (floatOfInt .f64 n) = false := okF_none (quo_nan _ hs)
    have k2 : okF .quo r (floatOfInt .f64 n) = false := okF_none (quo_nan _ hr)
    unfold resB at h1 h2
    rw [k1] at h1
    rw [k2] at h2
    exact same_nan (by simpa using h1) (by simpa using h2)
set_option maxRecDepth 100000 in
set_option maxHeartbeats 8000000 in
theorem meterCounts_walk (w : World) (A0 A1 : Option Addr) (n0 c0 n1 c1 : Nat) (a l : List Nat) (e0 : a.length = n0) (u0 : Us w A0 a) (f0 : fits a) (e1 : l.length = n1) (u1 : Us w A1 l) (f1 : fits l) :
    Calls Try.prog 7 #[.slice A0 n0 c0, .slice A1 n1 c1] w fun e w' => e = .returned (.bool true) ∧ Below w.heap.size w w' := by
  have E0 := hid e0
  have U0 := hid u0
  have F0 := hid f0
  have E1 := hid e1
  have U1 := hid u1
  have F1 := hid f1
  clear e0 u0 f0 e1 u1 f1
  by_cases h1 : 80 < n0
  · have h1' : (80 : Int) < (n0 : Int) := by omega
    go_enter Try.func7, Try.ntmps7
    go_wp2_with fail
    refine (works39_any _).mono ?_
    rintro e w2 ⟨rfl, hb2⟩
    have HB2 := hid hb2
    clear hb2
    go_wp2
    go_ret
    exact ⟨rfl, HB2.out⟩
  · have h1' : (n0 : Int) ≤ 80 := by omega
    by_cases h2 : 100 < n1
    · have h2' : (100 : Int) < (n1 : Int) := by omega
      go_enter Try.func7, Try.ntmps7
      go_wp2_with fail
      refine (works39_any _).mono ?_
      rintro e w2 ⟨rfl, hb2⟩
      have HB2 := hid hb2
      clear hb2
      go_wp2
      go_ret
      exact ⟨rfl, HB2.out⟩
    · have h2' : (n1 : Int) ≤ 100 := by omega
      go_enter Try.func7, Try.ntmps7
      go_wp2_with fail
      refine (reals_any A0 n0 c0 a _ E0.out (by omega) U0.out).mono ?_
      rintro e w1 ⟨B0, d0, rfl, hb1, hF0⟩
      have B1 := hid hb1
      have FA1 := hid hF0
      have U11 : Hid (Us w1 A1 l) := hid (U1.out.keep hb1)
      clear hb1 hF0
      go_wp2_with fail
      refine (reals_any A1 n1 c1 l _ E1.out (by omega) U11.out).mono ?_
      rintro e w2 ⟨B1', d1, rfl, hb2, hF1⟩
      have B2 : Hid (Below w.heap.size w w2) := hid (B1.out.trans (hb2.mono B1.out.size))
      have FA2 : Hid (Flt w2 B0 a) := hid (flt_ext FA1.out hb2)
      have FL2 := hid hF1
      clear hb2 hF1
      go_wp2_with fail
      refine (new_any B0 n0 d0 a _ E0.out (by omega) FA2.out F0.out).mono ?_
      rintro e w3 ⟨hb3, hN⟩
      have B3 := hid hb3
      have BW3 : Hid (Below w.heap.size w w3) := hid (B2.out.trans (hb3.mono B2.out.size))
      have FA3 : Hid (Flt w3 B0 a) := hid (flt_ext FA2.out hb3)
      clear hb3
      rcases hN with ⟨hne, rfl⟩ | ⟨hz, g, h, A, c, k, rfl, hg, hh, hM, _⟩
      · have hn : (newC a != 0) = true := by rw [bne_iff_ne]; exact hne
        have hn2 : (newC a != newC a) = false := by simp
        clear hne
        go_wp2_with fail
        refine (refNew_any B0 n0 d0 a _ E0.out (by omega) FA3.out F0.out).mono ?_
        rintro e w4 ⟨rfl, hb4⟩
        have B4 : Hid (Below w.heap.size w w4) := hid (BW3.out.trans (hb4.mono BW3.out.size))
        clear hb4
        generalize newC a = C at *
        go_wp2_with fail
        refine (works39_any _).mono ?_
        rintro e w5 ⟨rfl, hb5⟩
        have HB5 : Hid (Below w.heap.size w w5) := hid (B4.out.trans (hb5.mono B4.out.size))
        clear hb5
        go_wp2
        go_ret
        exact ⟨rfl, HB5.out⟩
      · have HZ := hid hz
        have G := hid (And.intro hg hh)
        have M3 : Hid (FedAt w3 g h a (l.take 0) A c k) := hid (fed_new hM)
        have L3 : Hid (g < w3.heap.size ∧ h < w3.heap.size) := hid ⟨hM.lg, hM.lh⟩
        clear hg hh hM hz
        go_wp2_with fail
        refine (refNew_any B0 n0 d0 a _ E0.out (by omega) FA3.out F0.out).mono ?_
        rintro e w4 ⟨rfl, hb4⟩
        rw [HZ.out]
        have B4 : Hid (Below w2.heap.size w2 w4) := hid (B3.out.trans (hb4.mono B3.out.size))
        have M4 := hid (M3.out.keep hb4)
        clear hb4
        go_wp2
        go_loopw [9] (fun t wr => ∃ j : Nat, j ≤ n1 ∧ t = .int .i64 j ∧ Kp g h w4 wr ∧ FedAt wr g h a (l.take j) A c k) (fun t _ => n1 - (intOf t).toNat)
        case atStart => exact ⟨0, by omega, rfl, Kp.refl _ _ _, M4.out⟩
        case round =>
          rename_i wr
          obtain ⟨j, hj, rfl, kp, mF⟩ := hrel
          have KP := hid kp
          have MF := hid mF
          have B2r : Hid (Below w2.heap.size w2 wr) := hid (B4.out.trans (kp.below B4.out.size G.out.1 G.out.2))
          have FLr : Hid (Flt wr B1' l) := hid (flt_ext FL2.out B2r.out)
          clear kp mF
          by_cases hlt : j < n1
          · obtain ⟨x, hx⟩ : ∃ x, l[j]? = some x := ⟨_, List.getElem?_eq_getElem (by have := E1.out; omega)⟩
            obtain ⟨g2, o2, hB, hbw, hc⟩ := FLr.out.at hx
            subst hB
            have HT := hid (take_succ hx)
            have hi0 : (0 : Int) ≤ (j : Int) := by omega
            have hi1 : (j : Int) < (n1 : Int) := by omega
            have HX := hid (fits_get F1.out hx)
            have hl5 : Hid ((l.take j).length < 100000) := hid (by have := List.length_take_le j l; omega)
            clear hx
            go_wp2_with fail
            refine (add_fed MF.out hl5.out HX.out).mono ?_
            rintro e w' ⟨rfl, k2, m2⟩
            have K2 := hid (KP.out.trans k2)
            have M2 := hid m2
            clear k2 m2
            go_wp2
            refine ⟨⟨j + 1, by omega, by go_num, K2.out, by rw [HT.out]; exact M2.out⟩, by simp [intOf]; omega⟩
          · have hjn : j = n1 := by omega
            have mFl : FedAt wr g h a l A c k := by
              have h := MF.out
              rwa [List.take_of_length_le (by have := E1.out; omega)] at h
            have BWr : Hid (Below w.heap.size w wr) := hid (B2.out.trans (B2r.out.mono B2.out.size))
            have FAr : Hid (Flt wr B0 a) := hid (flt_ext FA2.out B2r.out)
            obtain ⟨s, hs, mM⟩ := mFl
            obtain ⟨S, hS⟩ : ∃ S, (someN l).length = S := ⟨_, rfl⟩
            obtain ⟨T, hT⟩ : ∃ T, n1 = S + T := ⟨n1 - S, by have := someN_le l; have := E1.out; omega⟩
            rw [hS] at mM
            have hTT : l.length - S = T := by have := E1.out; omega
            rw [hTT] at mM
            have hcap : ∀ v ∈ countN a (someN l), v < 1000000 := fun v hv => by have := countN_cap a (someN l) v hv; have := someN_le l; have := E1.out; omega
            have HCap := hid hcap
            have HS := hid hs
            have HSl := hid hS
            have HTn := hid hT
            have Mr := hid mM
            have hCl : Hid ((countN a (someN l)).length = n0 + 1) := hid (by rw [countN_length, E0.out])
            have hCs : Hid ((countN a (someN l)).sum = S) := hid (by rw [countN_sum, hS])
            clear hs mM hcap hTT hS hT hjn MF
            go_wp2_with fail
            refine (some_any B1' n1 d1 l _ E1.out (by omega) FLr.out).mono ?_
            rintro e w5 ⟨SA, sc, rfl, hb5, hF5, -⟩
            rw [HSl.out]
            have BF5 : Hid (Below wr.heap.size wr w5) := hid hb5
            have M5 := hid (Mr.out.keep hb5)
            have FA5 := hid (flt_ext FAr.out hb5)
            have FL5 := hid (flt_ext FLr.out hb5)
            clear hb5 hF5
            go_wp2_with fail
            refine (ends_of M5.out).mono ?_
            rintro e w6 ⟨rfl, hb6⟩
            have BF6 : Hid (Below wr.heap.size wr w6) := hid (BF5.out.trans (hb6.mono BF5.out.size))
            have M6 := hid (M5.out.keep hb6)
            have FA6 := hid (flt_ext FA5.out hb6)
            have FL6 := hid (flt_ext FL5.out hb6)
            clear hb6
            go_wp2_with fail
            refine (refSum_any B1' n1 d1 l _ E1.out (by omega) FL6.out).mono ?_
            rintro e w7 ⟨r, rfl, hr, hb7⟩
            have HR := hid hr
            have BF7 : Hid (Below wr.heap.size wr w7) := hid (BF6.out.trans (hb7.mono BF6.out.size))
            have M7 := hid (M6.out.keep hb7)
            have FA7 := hid (flt_ext FA6.out hb7)
            have FL7 := hid (flt_ext FL6.out hb7)
            clear hr hb7
            go_wp2_with fail
            refine (counts_of M7.out).mono ?_
            rintro e w8 ⟨CA, cc, rfl, hb8, hI8⟩
            rw [hCl.out]
            have BF8 : Hid (Below wr.heap.size wr w8) := hid (BF7.out.trans (hb8.mono BF7.out.size))
            have M8 := hid (M7.out.keep hb8)
            have FA8 := hid (flt_ext FA7.out hb8)
            have FL8 := hid (flt_ext FL7.out hb8)
            have I8 := hid hI8
            clear hb8 hI8
            go_wp2_with fail
            refine (refCounts_any B0 B1' n0 d0 n1 d1 a l _ E0.out (by omega) FA8.out F0.out E1.out (by omega) FL8.out F1.out).mono ?_
            rintro e w9 ⟨DA, dc, rfl, hb9, hI9⟩
            rw [E0.out]
            have BF9 : Hid (Below wr.heap.size wr w9) := hid (BF8.out.trans (hb9.mono BF8.out.size))
            have M9 := hid (M8.out.keep hb9)
            have FL9 := hid (flt_ext FL8.out hb9)
            have I9 := hid (I8.out.keep hb9)
            have J9 := hid hI9
            clear hb9 hI9
            go_wp2_with fail
            refine (ints_yes CA DA (n0 + 1) cc dc _ _ hCl.out (by omega) I9.out J9.out).mono ?_
            rintro e w10 ⟨rfl, hb10⟩
            have BF10 : Hid (Below wr.heap.size wr w10) := hid (BF9.out.trans (hb10.mono BF9.out.size))
            have M10 := hid (M9.out.keep hb10)
            have FL10 := hid (flt_ext FL9.out hb10)
            clear hb10
            have hS1 : (S : Int) ≤ (n1 : Int) := by have := HTn.out; omega
            have hd : ((T : Int) == (n1 : Int) - (S : Int)) = true := by have := HTn.out; rw [beq_iff_eq]; omega
            go_wp2_with (first
              | (go_at_call 42; refine (len_of M10.out HCap.out).mono ?_; rintro e w' ⟨rfl, rfl⟩; rw [hCs.out])
              | (go_at_call 43; refine (none_of M10.out).mono ?_; rintro e w' ⟨rfl, rfl⟩)
              | (go_at_call 25; refine (least_any B1' n1 d1 l _ E1.out (by omega) FL10.out F1.out).mono ?_; rintro e w' ⟨rfl, rfl⟩)
              | (go_at_call 26; refine (greatest_any B1' n1 d1 l _ E1.out (by omega) FL10.out F1.out).mono ?_; rintro e w' ⟨rfl, rfl⟩)
              | (go_at_call 44; refine (sum_of M10.out).mono ?_; rintro e w' ⟨rfl, rfl⟩)
              | (go_at_call 18; refine (same_any _ _ _).mono ?_; rintro e w' ⟨rfl, rfl⟩; first | rw [same_refl] | rw [st_same HS.out HR.out]))
            refine (mean_of M10.out HCap.out).mono ?_
            rintro e w11 ⟨r1, rfl, hr1, hb11⟩
            rw [hCs.out] at hr1
            have HR1 := hid hr1
            have BF11 : Hid (Below wr.heap.size wr w11) := hid (BF10.out.trans (hb11.mono BF10.out.size))
            clear hr1 hb11
            have BW11 : Hid (Below w.heap.size w w11) := hid (BWr.out.trans (BF11.out.mono BWr.out.size))
            cases hok : okF .quo r (floatOfInt .f64 (S : Int))
            · go_wp2_with (go_at_call 18; refine (same_any _ _ _).mono ?_; rintro e w' ⟨rfl, rfl⟩; rw [mean_same2 HS.out HR.out HR1.out (resB_no hok _)])
              refine (works39_any _).mono ?_
              rintro e w12 ⟨rfl, hb12⟩
              have BW12 : Hid (Below w.heap.size w w12) := hid (BW11.out.trans (((Below.refl _ _).drew.trans hb12).mono BW11.out.size))
              clear hb12
              go_wp2
              go_ret
              exact ⟨rfl, BW12.out⟩
            · go_wp2_with (go_at_call 18; refine (same_any _ _ _).mono ?_; rintro e w' ⟨rfl, rfl⟩; rw [mean_same2 HS.out HR.out HR1.out (resB_ok hok)])
              refine (works39_any _).mono ?_
              rintro e w12 ⟨rfl, hb12⟩
              have BW12 : Hid (Below w.heap.size w w12) := hid (BW11.out.trans (hb12.mono BW11.out.size))
              clear hb12
              go_wp2
              go_ret
              exact ⟨rfl, BW12.out⟩
end Go.Proofs.Ytldhbodhpdhncaa
