/- The walk of the law RealLists. -/
import Derived.Test.YtldhbodhpdhncaaRj
import Derived.Test.YtldhbodhpdhncaaBaseE
set_option linter.unusedSimpArgs false
set_option linter.unusedVariables false
namespace Go.Proofs.Ytldhbodhpdhncaa
open Go.ChangeShapes Go.WideShapes Go.RowKit Go.Mor Go.Fl

theorem info23 : (Try.prog.info? 23).map (fun i => (i.zero, i.size, i.bytes)) = some (some (.float .f64 0), 1, 8) := by kernel_rfl
theorem under40 : Try.prog.underlying 40 = some (.slice 23) := by kernel_rfl
def fltV (l : List Nat) : List Value := l.map (Value.float .f64)
theorem fltV_one (l : List Nat) : ∀ u ∈ fltV l, u.oneCell' = true := by
  intro u hu
  obtain ⟨x, _, rfl⟩ := List.mem_map.1 hu
  rfl
/-- A slice of uint64 reads as the list. -/
def Us (w : World) (A : Option Addr) (l : List Nat) : Prop := l = [] ∨ ∃ b off, A = some ⟨b, off, none⟩ ∧ b < w.heap.size ∧ ∀ (j x : Nat), l[j]? = some x → w.cell? ⟨b, off + j, none⟩ = some (.int .u64 (x : Int))
theorem Us.keep {w w' : World} {A : Option Addr} {l : List Nat} (h : Us w A l) (hb : Below w.heap.size w w') : Us w' A l := by
  rcases h with h | ⟨b, off, h1, h2, h3⟩
  · exact .inl h
  · exact .inr ⟨b, off, h1, Nat.lt_of_lt_of_le h2 hb.size, fun j x hx => by rw [hb.cell (by exact h2)]; exact h3 j x hx⟩
theorem Flt.of_rd {w : World} {A : Option Addr} {l : List Nat} (h : Rd w A (fltV l)) : Flt w A l := by
  cases l with
  | nil => exact .inl rfl
  | cons x r =>
    rcases h with h | ⟨⟨b, off, spot⟩, h1, h2, h3⟩
    · simp [fltV] at h
    · have h0 := h3 0 (.float .f64 x) rfl
      have hsp : spot = none := by simpa [Addr.add] using World.cell?_spot h0
      subst hsp
      refine .inr ⟨b, off, h1, h2, fun j s hj => ?_⟩
      have := h3 j (.float .f64 s) (by rw [fltV, List.getElem?_map, hj]; rfl)
      simpa [Addr.add_lit] using this
theorem rd_newF (W : World) (x g : Nat) (h : g = W.heap.size := by simp) : Rd (W.alloc (.cells #[.float .f64 x] 23)) (some ⟨g, 0, none⟩) [.float .f64 x] := by
  subst h
  refine .inr ⟨_, rfl, by simp, fun j u hj => ?_⟩
  match j, hj with
  | 0, hj => simp at hj; subst hj; simp [Addr.add_lit]

theorem cmp_refl (x : Nat) : cmpN x x = 0 := cmp_same (same_refl x)
theorem clampN_lt {x lo hi : Nat} (hx : x < 18446744073709551616) (hl : lo < 18446744073709551616) (hh : hi < 18446744073709551616) : clampN x lo hi < 18446744073709551616 := by
  unfold clampN; split; · decide
  split; · exact hl
  split <;> assumption
theorem clamp_in (x lo hi : Nat) : nanB (clampN x lo hi) = false → cmpN lo (clampN x lo hi) ≤ 0 ∧ cmpN (clampN x lo hi) hi ≤ 0 := by
  intro hn
  unfold clampN at *
  split at hn
  · rw [nan_n] at hn; cases hn
  · rename_i h1
    rw [if_neg h1]
    have h2 : cmpN lo hi ≤ 0 := by
      have : ¬ 0 < cmpN lo hi := fun h => h1 (.inl h)
      omega
    split
    · rw [cmp_refl]; exact ⟨Int.le_refl _, h2⟩
    · split
      · rw [cmp_refl]; exact ⟨h2, Int.le_refl _⟩
      · have := cmp_anti x lo
        omega

def Lots (l : List Nat) (n : Nat) (w : World) (v t : Value) (wr : World) : Prop :=
  ∃ (i : Nat) (A : Option Addr) (c d : Nat) (bs : Array Obj), i ≤ n ∧ t = .int .i64 i ∧ v = .slice A i c ∧ wr = ext w d bs ∧ (ext w d bs).ownsRow w.heap.size 23 1 (.slice A i c) i (fltV (l.take i))

set_option maxRecDepth 100000 in
set_option maxHeartbeats 4000000 in
theorem realLists_walk (w : World) (A : Option Addr) (n c : Nat) (l : List Nat) (a b r : Nat) (hl : l.length = n) (hA : Us w A l) (hf : fits l) (ha : a < 18446744073709551616) (hb : b < 18446744073709551616) (hr : r < 18446744073709551616) :
    Calls Try.prog 6 #[.slice A n c, .int .u64 (a : Int), .int .u64 (b : Int), .int .u64 (r : Int)] w fun e w' => e = .returned (.bool true) ∧ Below w.heap.size w w' := by
  have HL := hid hl
  have HS := hid hA
  have HF := hid hf
  have HA := hid ha
  have HB := hid hb
  have HR := hid hr
  clear hl hA hf ha hb hr
  by_cases hn : (100 : Int) < (n : Int)
  · go_enter Try.func6, Try.ntmps6
    go_wp2_with (go_at_call 15; refine (works04_any _).mono ?_; rintro e w' ⟨rfl, hw⟩)
    go_ret
    exact ⟨rfl, hw⟩
  have hn : (n : Int) ≤ 100 := by omega
  obtain ⟨i0, hi, hz0, hz1, hz2⟩ := info_parts info23
  go_enter Try.func6, Try.ntmps6
  go_wp2
  go_loopw [9, 10] (Lots l n w) (fun _ t _ => n - (intOf t).toNat)
  case atStart => exact ⟨0, none, 0, _, #[], Nat.zero_le _, rfl, rfl, by simp [ext]; rfl, World.ownsRow_nil _ _ _ _⟩
  case round =>
    obtain ⟨i, A1, c1, d, bs, hi1, rfl, rfl, rfl, hown⟩ := hrel
    have HO := hid hown
    clear hown
    by_cases hlt : i < n
    · obtain ⟨x, hx⟩ : ∃ x, l[i]? = some x := ⟨_, List.getElem?_eq_getElem (by have := HL.out; omega)⟩
      obtain ⟨g, off, rfl, hbw, hcell⟩ : ∃ b off, A = some ⟨b, off, none⟩ ∧ within b w = true ∧ w.cell? ⟨b, off + i, none⟩ = some (.int .u64 (x : Int)) := by
        rcases HS.out with h | ⟨b, off, h1, h2, h3⟩
        · subst h; simp at hx
        · exact ⟨b, off, h1, within_of h2, h3 i _ hx⟩
      have HX := hid hx
      clear hx
      have hi2 : (0 : Int) ≤ (i : Int) := by omega
      have hi3 : (i : Int) < (n : Int) := by omega
      go_wp2_with (at_builtin; refine wpList_append_ext rfl _ _ 40 rfl w ?hw 23 i0 (.float .f64 0) 1 8 under40 hi hz0 hz1 hz2 rfl (by decide) _ i (fltV (l.take i)) rfl ?own (some ⟨w.heap.size + bs.size, 0, none⟩) 1 1 [.float .f64 x] rfl ?hr rfl ?ho ?h63 ?hb ?_)
      case hw => exact (below_ext _ _ _).alloc (by simp) _
      case own => exact HO.out.alloc _
      case hr => exact rd_newF _ _ _
      case ho => intro u hu; simp at hu; subst hu; rfl
      case h63 => unfold maxLen; omega
      case hb => omega
      intro A2 c2 d2 bs2 hown2
      have HO2 := hid hown2
      clear hown2
      go_wp2
      refine ⟨⟨i + 1, A2, c2, d2, bs2, by omega, by go_num, rfl, rfl, ?_⟩, by simp [intOf]; omega⟩
      rw [take_succ HX.out]
      simpa [fltV] using HO2.out
    · have hin : i = n := by omega
      subst hin
      have hF : Flt (ext w d bs) A1 l := by
        have h := Flt.of_rd (owns_rd HO.out)
        rwa [List.take_of_length_le (by have := HL.out; omega)] at h
      have HFl := hid hF
      clear hF HO
      go_wp2_with (first
        | (go_at_call 24; refine (span_any _ _ _ l _ HL.out (by omega) HFl.out HF.out).mono ?_; rintro e w' ⟨rfl, rfl⟩)
        | (go_at_call 25; refine (least_any _ _ _ l _ HL.out (by omega) HFl.out HF.out).mono ?_; rintro e w' ⟨rfl, rfl⟩)
        | (go_at_call 26; refine (greatest_any _ _ _ l _ HL.out (by omega) HFl.out HF.out).mono ?_; rintro e w' ⟨rfl, rfl⟩)
        | (go_at_call 18; refine (same_any _ _ _).mono ?_; rintro e w' ⟨rfl, rfl⟩; rw [same_refl]))
      refine (mean_any _ _ _ l _ HL.out (by omega) HFl.out).mono ?_
      rintro e w' ⟨m1, rfl, hm1, h1⟩
      obtain ⟨d1, bs1, rfl⟩ := ext_of_below h1
      have HM := hid hm1
      clear h1 hm1
      go_wp2_with fail
      have hfl2 := flt_ext HFl.out (below_ext (ext w d bs) d1 bs1)
      rw [ext_ext] at hfl2
      refine (refMean_any _ _ _ l _ HL.out (by omega) hfl2).mono ?_
      rintro e w' ⟨m2, rfl, hm2, h2⟩
      obtain ⟨d2, bs2, rfl⟩ := ext_of_below h2
      have hmm := mean_same HM.out hm2
      clear h2 hm2 hfl2
      have hy := clampN_lt HA.out HB.out HR.out
      obtain ⟨Y, hY⟩ : ∃ Y, clampN a b r = Y := ⟨_, rfl⟩
      have hin := clamp_in a b r
      rw [hY] at hy hin
      have HY := hid hy
      have HE := hid hY
      have HI := hid hin
      clear hy hY hin
      cases hn2 : nanB Y with
      | true =>
        go_wp2_with (first
          | (go_at_call 18; refine (same_any _ _ _).mono ?_; rintro e w' ⟨rfl, rfl⟩; first | rw [same_refl] | rw [hmm])
          | (go_at_call 29; refine (clamp_any _ _ _ _ HA.out HB.out HR.out).mono ?_; rintro e w' ⟨rfl, rfl⟩; rw [HE.out])
          | (go_at_call 30; refine (refClamp_any _ _ _ _ HA.out HB.out HR.out).mono ?_; rintro e w' ⟨rfl, rfl⟩; rw [HE.out])
          | (go_at_call 13; refine (isnan_any _ _).mono ?_; rintro e w' ⟨rfl, rfl⟩; rw [hn2])
          | (go_at_call 15; refine (works04_any _).mono ?_; rintro e w' ⟨rfl, hw⟩))
        go_ret
        refine ⟨rfl, ?_⟩
        obtain ⟨d3, bs3, rfl⟩ := ext_of_below hw
        with_reducible refine below_ext' (below_ext' (Below.refl _ _) ?_ _ _) ?_ _ _
        all_goals first | exact Nat.le_refl _ | (simp only [size_ext, World.size_alloc]; omega)
      | false =>
        obtain ⟨g1, g2⟩ := HI.out hn2
        obtain ⟨P, hP⟩ : ∃ P, cmpN b Y = P := ⟨_, rfl⟩
        obtain ⟨Q, hQ⟩ : ∃ Q, cmpN Y r = Q := ⟨_, rfl⟩
        rw [hP] at g1
        rw [hQ] at g2
        go_wp2_with (first
          | (go_at_call 18; refine (same_any _ _ _).mono ?_; rintro e w' ⟨rfl, rfl⟩; first | rw [same_refl] | rw [hmm])
          | (go_at_call 29; refine (clamp_any _ _ _ _ HA.out HB.out HR.out).mono ?_; rintro e w' ⟨rfl, rfl⟩; rw [HE.out])
          | (go_at_call 30; refine (refClamp_any _ _ _ _ HA.out HB.out HR.out).mono ?_; rintro e w' ⟨rfl, rfl⟩; rw [HE.out])
          | (go_at_call 13; refine (isnan_any _ _).mono ?_; rintro e w' ⟨rfl, rfl⟩; rw [hn2])
          | (go_at_call 16; refine (compare_any _ _ _ (by first | exact HY.out | exact HB.out) (by first | exact HY.out | exact HR.out)).mono ?_; rintro e w' ⟨rfl, rfl⟩; first | rw [hP] | rw [hQ])
          | (go_at_call 15; refine (works04_any _).mono ?_; rintro e w' ⟨rfl, hw⟩))
        go_ret
        refine ⟨rfl, ?_⟩
        obtain ⟨d3, bs3, rfl⟩ := ext_of_below hw
        with_reducible refine below_ext' (below_ext' (Below.refl _ _) ?_ _ _) ?_ _ _
        all_goals first | exact Nat.le_refl _ | (simp only [size_ext, World.size_alloc]; omega)
end Go.Proofs.Ytldhbodhpdhncaa
