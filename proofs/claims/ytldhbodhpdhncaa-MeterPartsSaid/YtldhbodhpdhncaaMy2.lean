/- The walk of MeterParts. -/
import Derived.Test.YtldhbodhpdhncaaMx
set_option linter.unusedSimpArgs false
set_option linter.unusedVariables false
namespace Go.Proofs.Ytldhbodhpdhncaa
open Go.ChangeShapes Go.WideShapes Go.RowKit Go.Mor Go.Fl

theorem us_ext {w w' : World} {A : Option Addr} {l : List Nat} (h : Us w A l) (hb : Below w.heap.size w w') : Us w' A l := h.keep hb
set_option maxRecDepth 100000 in
set_option maxHeartbeats 4000000 in
theorem meterParts_walk (w : World) (A0 A1 : Option Addr) (n0 c0 n1 c1 : Nat) (a l : List Nat) (b : Nat) (e0 : a.length = n0) (u0 : Us w A0 a) (f0 : fits a) (e1 : l.length = n1) (u1 : Us w A1 l) (f1 : fits l) (hb : b < 18446744073709551616) :
    Calls Try.prog 8 #[.slice A0 n0 c0, .slice A1 n1 c1, .int .u64 (b : Int)] w fun e w' => e = .returned (.bool true) ∧ Below w.heap.size w w' := by
  have E0 := hid e0
  have U0 := hid u0
  have F0 := hid f0
  have E1 := hid e1
  have U1 := hid u1
  have F1 := hid f1
  clear e0 u0 f0 e1 u1 f1 hb
  by_cases h1 : 80 < n0
  · have h1' : (80 : Int) < (n0 : Int) := by omega
    go_enter Try.func8, Try.ntmps8
    go_wp2_with fail
    refine (works39_any _).mono ?_
    rintro e w2 ⟨rfl, hb2⟩
    have HB2 := hid hb2
    clear hb2
    go_wp2
    go_ret
    exact ⟨rfl, HB2.out⟩
  · have h1' : (n0 : Int) ≤ 80 := by omega
    by_cases h2 : 60 < n1
    · have h2' : (60 : Int) < (n1 : Int) := by omega
      go_enter Try.func8, Try.ntmps8
      go_wp2_with fail
      refine (works39_any _).mono ?_
      rintro e w2 ⟨rfl, hb2⟩
      have HB2 := hid hb2
      clear hb2
      go_wp2
      go_ret
      exact ⟨rfl, HB2.out⟩
    · have h2' : (n1 : Int) ≤ 60 := by omega
      go_enter Try.func8, Try.ntmps8
      go_wp2_with fail
      refine (reals_any A0 n0 c0 a _ E0.out (by omega) U0.out).mono ?_
      rintro e w1 ⟨B0, d0, rfl, hb1, hF0⟩
      have B1 := hid hb1
      have FA1 := hid hF0
      have U11 : Hid (Us w1 A1 l) := hid (us_ext U1.out hb1)
      clear hb1 hF0
      go_wp2_with fail
      refine (reals_any A1 n1 c1 l _ E1.out (by omega) U11.out).mono ?_
      rintro e w2 ⟨B1', d1, rfl, hb2, hF1⟩
      have B2 : Hid (Below w.heap.size w w2) := hid (B1.out.trans (hb2.mono B1.out.size))
      have FA2 : Hid (Flt w2 B0 a) := hid (flt_ext FA1.out hb2)
      have FL2 := hid hF1
      clear hb2 hF1
      go_wp2_with fail
      refine (new_any B0 n0 d0 a _ E0.out (by omega) FA2.out F0.out).mono ?_
      rintro e w3 ⟨hb3, hN⟩
      have B3 := hid hb3
      have BW3 : Hid (Below w.heap.size w w3) := hid (B2.out.trans (hb3.mono B2.out.size))
      clear hb3
      rcases hN with ⟨hne, rfl⟩ | ⟨hz, g, h, A, c, k, rfl, hg, hh, hM, _⟩
      · have hn : (newC a != 0) = true := by rw [bne_iff_ne]; exact hne
        clear hne
        generalize newC a = C at *
        go_wp2_with fail
        refine (works39_any _).mono ?_
        rintro e w4 ⟨rfl, hb4⟩
        have HB4 : Hid (Below w.heap.size w w4) := hid (BW3.out.trans (hb4.mono BW3.out.size))
        clear hb4
        go_wp2
        go_ret
        exact ⟨rfl, HB4.out⟩
      · have G := hid (And.intro hg hh)
        have M3 : Hid (FedAt w3 g h a (l.take 0) A c k) := hid (fed_new hM)
        clear hg hh hM hz
        go_wp2
        go_loopw [12] (fun t wr => ∃ j : Nat, j ≤ n1 ∧ t = .int .i64 j ∧ Kp g h w3 wr ∧ FedAt wr g h a (l.take j) A c k) (fun t _ => n1 - (intOf t).toNat)
        case atStart => exact ⟨0, by omega, rfl, Kp.refl _ _ _, M3.out⟩
        case round =>
          rename_i wr
          obtain ⟨j, hj, rfl, kp, mF⟩ := hrel
          have KP := hid kp
          have MF := hid mF
          have B2r : Hid (Below w2.heap.size w2 wr) := hid (B3.out.trans (kp.below B3.out.size G.out.1 G.out.2))
          have FLr : Hid (Flt wr B1' l) := hid (flt_ext FL2.out B2r.out)
          clear kp mF
          by_cases hlt : j < n1
          · obtain ⟨x, hx⟩ : ∃ x, l[j]? = some x := ⟨_, List.getElem?_eq_getElem (by have := E1.out; omega)⟩
            obtain ⟨g2, o2, hB, hbw, hc⟩ := FLr.out.at hx
            subst hB
            have HT := hid (take_succ hx)
            have hi0 : (0 : Int) ≤ (j : Int) := by omega
            have hi1 : (j : Int) < (n1 : Int) := by omega
            have HX := hid (fits_get F1.out hx)
            have hl5 : Hid ((l.take j).length < 100000) := hid (by have := List.length_take_le j l; omega)
            clear hx
            go_wp2_with fail
            refine (add_fed MF.out hl5.out HX.out).mono ?_
            rintro e w' ⟨rfl, k2, m2⟩
            have K2 := hid (KP.out.trans k2)
            have M2 := hid m2
            clear k2 m2
            go_wp2
            refine ⟨⟨j + 1, by omega, by go_num, K2.out, by rw [HT.out]; exact M2.out⟩, by simp [intOf]; omega⟩
          · have hjn : j = n1 := by omega
            have MFl : Hid (FedAt wr g h a l A c k) := hid (by
              have h := MF.out
              rwa [List.take_of_length_le (by have := E1.out; omega)] at h)
            have BWr : Hid (Below w.heap.size w wr) := hid (B2.out.trans (B2r.out.mono B2.out.size))
            have FAr : Hid (Flt wr B0 a) := hid (flt_ext FA2.out B2r.out)
            obtain ⟨v, q1, q2⟩ := quant_both a l b (by have := E1.out; omega) F1.out
            have Q1 := hid (q1 wr g h A c k MFl.out)
            have Q2 := hid (q2 wr B0 B1' n0 d0 n1 d1 E0.out (by omega) FAr.out F0.out E1.out FLr.out)
            clear q1 q2
            go_wp2_with fail
            refine Q1.out.mono ?_
            rintro e w5 ⟨rfl, rfl⟩
            go_wp2_with fail
            refine Q2.out.mono ?_
            rintro e w5 ⟨rfl, hb5⟩
            have B5 : Hid (Below w.heap.size w w5) := hid (BWr.out.trans (hb5.mono BWr.out.size))
            clear hb5
            go_wp2_with fail
            refine (works39_any _).mono ?_
            rintro e w6 ⟨rfl, hb6⟩
            have B6 : Hid (Below w.heap.size w w6) := hid (B5.out.trans (hb6.mono B5.out.size))
            clear hb6
            go_wp2
            go_ret
            exact ⟨rfl, B6.out⟩
end Go.Proofs.Ytldhbodhpdhncaa
