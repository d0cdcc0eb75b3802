/- The contracts of the search for a band, and of the reference's count. -/
import Derived.Test.YtldhbodhpdhncaaMa
set_option linter.unusedSimpArgs false
set_option linter.unusedVariables false
namespace Go.Proofs.Ytldhbodhpdhncaa
open Go.ChangeShapes Go.WideShapes Go.RowKit Go.Mor Go.Fl

theorem Flt.at {w : World} {A : Option Addr} {l : List Nat} (h : Flt w A l) {k x : Nat} (hx : l[k]? = some x) : ∃ b off, A = some ⟨b, off, none⟩ ∧ within b w = true ∧ w.cell? ⟨b, off + k, none⟩ = some (.float .f64 x) := by
  rcases h with h | ⟨b, off, h1, h2, h3⟩
  · subst h; simp at hx
  · exact ⟨b, off, h1, within_of h2, h3 k _ hx⟩

set_option maxHeartbeats 1000000 in
theorem refBand_any (A : Option Addr) (n c x : Nat) (l : List Nat) (w : World) (hl : l.length = n) (hm : n ≤ 100000) (hs : Flt w A l) (hf : fits l) (hx : x < 18446744073709551616) :
    Calls Try.prog 60 #[.slice A n c, .float .f64 x] w fun e w' => e = .returned (.int .i64 (bandN l x)) ∧ w = w' := by
  have HS := hid hs
  have HF := hid hf
  have HL := hid hl
  have HX := hid hx
  clear hs hf hl hx
  go_enter Try.func60, Try.ntmps60
  go_wp2
  go_loop [5, 6] (fun m i => ∃ k b : Nat, k ≤ n ∧ i = .int .i64 k ∧ m = .int .i64 b ∧ b ≤ k ∧ Hid (b = bandN (l.take k) x)) (fun _ i => n - (intOf i).toNat)
  case atStart => exact ⟨0, 0, Nat.zero_le _, rfl, rfl, Nat.zero_le _, by rw [List.take_zero, band_nil]; exact rfl⟩
  case round =>
    obtain ⟨k, b, hk, rfl, rfl, hbk, EB⟩ := hrel
    by_cases hlt : k < n
    · obtain ⟨e, he⟩ : ∃ e, l[k]? = some e := ⟨_, List.getElem?_eq_getElem (by have := HL.out; omega)⟩
      obtain ⟨g, o, rfl, hb, hc⟩ := HS.out.at he
      have hi0 : (0 : Int) ≤ (k : Int) := by omega
      have hi1 : (k : Int) < (n : Int) := by omega
      have SB := hid (band_succ (x := x) he)
      have LE := hid (fits_get HF.out he)
      clear he
      go_wp2_with (go_at_call 17; refine (refCompare_any _ _ _ LE.out HX.out).mono ?_; rintro e w' ⟨rfl, rfl⟩)
      · refine ⟨⟨k + 1, b + 1, by omega, by go_num, by go_num, by omega, hid ?_⟩, by simp [intOf]; omega⟩
        rw [SB.out, ← EB.out, if_pos (by assumption)]
      · refine ⟨⟨k + 1, b, by omega, by go_num, rfl, by omega, hid ?_⟩, by simp [intOf]; omega⟩
        rw [SB.out, ← EB.out, if_neg (by omega)]; rfl
    · have hkn : k = n := by omega
      go_wp2
      go_ret
      refine ⟨ret_i ?_, rfl⟩
      rw [EB.out, List.take_of_length_le (by have := HL.out; omega)]

def SearchPost (l : List Nat) (x n : Nat) (w : World) (e : Ending) (w' : World) : Prop := (∃ (i : Nat) (b : Bool), e = .returned (.tuple #[.int .i64 i, .bool b]) ∧ i ≤ n ∧ bandN l x = if b then i + 1 else i) ∧ w = w'
set_option maxHeartbeats 2000000 in
theorem search_any (A : Option Addr) (n c x : Nat) (l : List Nat) (w : World) (hl : l.length = n) (hm : n ≤ 100000) (hs : Flt w A l) (hf : fits l) (hx : x < 18446744073709551616) (hr : rising l) :
    Calls Try.prog 64 #[.slice A n c, .float .f64 x, .func (.func 16) #[] #[]] w (SearchPost l x n w) := by
  have HS := hid hs
  have HF := hid hf
  have HL := hid hl
  have HX := hid hx
  have HR := hid hr
  clear hs hf hl hx hr
  go_enter Try.func64, Try.ntmps64
  go_wp2
  go_loop [9, 10, 11] (fun p q _ => ∃ i j : Nat, i ≤ j ∧ j ≤ n ∧ p = .int .i64 i ∧ q = .int .i64 j ∧ Hid (halves l x i j)) (fun p q _ => (intOf q).toNat - (intOf p).toNat)
  case atStart => exact ⟨0, n, Nat.zero_le _, Nat.le_refl _, rfl, rfl, hid (halves_start l x n HL.out)⟩
  case round =>
    obtain ⟨i, j, hij, hjn, rfl, rfl, HH⟩ := hrel
    by_cases hlt : i < j
    · obtain ⟨e, he⟩ : ∃ e, l[(i + j) / 2]? = some e := ⟨_, List.getElem?_eq_getElem (by have := HL.out; omega)⟩
      obtain ⟨g, o, rfl, hb, hc⟩ := HS.out.at he
      have hi1 : (i : Int) < (j : Int) := by omega
      have LE := hid (fits_get HF.out he)
      have HE := hid he
      clear he
      go_wp2_with (go_at_call 16; refine (compare_any _ _ _ LE.out HX.out).mono ?_; rintro e w' ⟨rfl, rfl⟩)
      · refine ⟨⟨(i + j) / 2 + 1, j, by omega, by omega, by congr 1, rfl, hid (halves_up HR.out HH.out HE.out (by assumption))⟩, by simp [intOf]; omega⟩
      · refine ⟨⟨i, (i + j) / 2, by omega, by omega, rfl, by congr 1, hid (halves_down HR.out HH.out HE.out (by assumption))⟩, by simp [intOf]; omega⟩
    · obtain rfl : i = j := by omega
      by_cases hin : i < n
      · obtain ⟨e, he⟩ : ∃ e, l[i]? = some e := ⟨_, List.getElem?_eq_getElem (by have := HL.out; omega)⟩
        obtain ⟨g, o, rfl, hb, hc⟩ := HS.out.at he
        have hi1 : (i : Int) < (n : Int) := by omega
        have LE := hid (fits_get HF.out he)
        have HE := hid he
        clear he
        by_cases h0 : cmpN e x = 0
        · go_wp2_with (go_at_call 16; refine (compare_any _ _ _ LE.out HX.out).mono ?_; rintro e w' ⟨rfl, rfl⟩; rw [h0])
          go_ret2
          exact ⟨⟨i, true, rfl, by omega, halves_found HR.out HH.out HE.out h0⟩, rfl⟩
        · have h1 : (cmpN e x == 0) = false := by simpa using h0
          have HQ := hid h0
          clear h0
          obtain ⟨K, hK⟩ : ∃ K, cmpN e x = K := ⟨_, rfl⟩
          rw [hK] at h1
          go_wp2_with (go_at_call 16; refine (compare_any _ _ _ LE.out HX.out).mono ?_; rintro e w' ⟨rfl, rfl⟩; rw [hK])
          go_ret2
          have hb : bandN l x = i := halves_not (by have := HL.out; omega) HR.out HH.out (fun f hf => by have h := HE.out; rw [hf] at h; injection h with h; subst h; exact HQ.out)
          exact ⟨⟨i, false, rfl, by omega, hb⟩, rfl⟩
      · obtain rfl : i = n := by omega
        go_wp2
        go_ret2
        have hb : bandN l x = i := halves_not (by have := HL.out; omega) HR.out HH.out (fun f hf => by have h1 := (List.getElem?_eq_some_iff.1 hf).1; have := HL.out; omega)
        exact ⟨⟨i, false, rfl, by omega, hb⟩, rfl⟩
end Go.Proofs.Ytldhbodhpdhncaa
