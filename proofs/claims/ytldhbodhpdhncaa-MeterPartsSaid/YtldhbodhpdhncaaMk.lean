/- Numbers by their bits; lists that are the same. -/
import Derived.Test.YtldhbodhpdhncaaMf
set_option linter.unusedSimpArgs false
set_option linter.unusedVariables false
namespace Go.Proofs.Ytldhbodhpdhncaa
open Go.ChangeShapes Go.WideShapes Go.RowKit Go.Mor Go.Fl

def RealsPost (n : Nat) (l : List Nat) (w : World) (e : Ending) (w' : World) : Prop := ∃ A c, e = .returned (.slice A n c) ∧ Below w.heap.size w w' ∧ Flt w' A l
set_option maxHeartbeats 1000000 in
theorem reals_any (A : Option Addr) (n c : Nat) (l : List Nat) (w : World) (hl : l.length = n) (hm : n ≤ 1000) (hA : Us w A l) :
    Calls Try.prog 32 #[.slice A n c] w (RealsPost n l w) := by
  have HL := hid hl
  have HS := hid hA
  clear hl hA
  obtain ⟨i0, hi, hz0, hz1, hz2⟩ := info_parts info23
  go_enter Try.func32, Try.ntmps32
  go_wp2
  go_loopw [3, 4] (Lots l n w) (fun _ t _ => n - (intOf t).toNat)
  case atStart => exact ⟨0, none, 0, _, #[], Nat.zero_le _, rfl, rfl, by simp [ext]; rfl, World.ownsRow_nil _ _ _ _⟩
  case round =>
    obtain ⟨i, A1, c1, d, bs, hi1, rfl, rfl, rfl, hown⟩ := hrel
    have HO := hid hown
    clear hown
    by_cases hlt : i < n
    · obtain ⟨x, hx⟩ : ∃ x, l[i]? = some x := ⟨_, List.getElem?_eq_getElem (by have := HL.out; omega)⟩
      obtain ⟨g, off, rfl, hbw, hcell⟩ : ∃ b off, A = some ⟨b, off, none⟩ ∧ within b w = true ∧ w.cell? ⟨b, off + i, none⟩ = some (.int .u64 (x : Int)) := by
        rcases HS.out with h | ⟨b, off, h1, h2, h3⟩
        · subst h; simp at hx
        · exact ⟨b, off, h1, within_of h2, h3 i _ hx⟩
      have HX := hid hx
      clear hx
      have hi2 : (0 : Int) ≤ (i : Int) := by omega
      have hi3 : (i : Int) < (n : Int) := by omega
      go_wp2_with (at_builtin; refine wpList_append_ext rfl _ _ 40 rfl w ?hw 23 i0 (.float .f64 0) 1 8 under40 hi hz0 hz1 hz2 rfl (by decide) _ i (fltV (l.take i)) rfl ?own (some ⟨w.heap.size + bs.size, 0, none⟩) 1 1 [.float .f64 x] rfl ?hr rfl ?ho ?h63 ?hb ?_)
      case hw => exact (below_ext _ _ _).alloc (by simp) _
      case own => exact HO.out.alloc _
      case hr => exact rd_newF _ _ _
      case ho => intro u hu; simp at hu; subst hu; rfl
      case h63 => unfold maxLen; omega
      case hb => omega
      intro A2 c2 d2 bs2 hown2
      have HO2 := hid hown2
      clear hown2
      go_wp2
      refine ⟨⟨i + 1, A2, c2, d2, bs2, by omega, by go_num, rfl, rfl, ?_⟩, by simp [intOf]; omega⟩
      rw [take_succ HX.out]
      simpa [fltV] using HO2.out
    · have hin : i = n := by omega
      subst hin
      have hF : Flt (ext w d bs) A1 l := by
        have h := Flt.of_rd (owns_rd HO.out)
        rwa [List.take_of_length_le (by have := HL.out; omega)] at h
      have HFl := hid hF
      clear hF HO
      go_wp2
      go_ret
      exact ⟨A1, c1, rfl, below_ext _ _ _, HFl.out⟩
theorem Ins.at {w : World} {A : Option Addr} {l : List Nat} (h : Ins w A l) {k x : Nat} (hx : l[k]? = some x) : ∃ b off, A = some ⟨b, off, none⟩ ∧ within b w = true ∧ w.cell? ⟨b, off + k, none⟩ = some (.int .i64 (x : Int)) := by
  rcases h with h | ⟨b, off, h1, h2, h3⟩
  · subst h; simp at hx
  · exact ⟨b, off, h1, within_of h2, h3 k _ hx⟩
set_option maxHeartbeats 1000000 in
theorem ints_yes (A B : Option Addr) (n c d : Nat) (l : List Nat) (w : World) (hl : l.length = n) (hm : n ≤ 100000) (hA : Ins w A l) (hB : Ins w B l) :
    Calls Try.prog 39 #[.slice A n c, .slice B n d] w fun e w' => e = .returned (.bool true) ∧ Below w.heap.size w w' := by
  have HL := hid hl
  have HA := hid hA
  have HB := hid hB
  clear hl hA hB
  go_enter Try.func39, Try.ntmps39
  go_wp2
  go_loopw [5] (fun i wr => ∃ k q : Nat, k ≤ n ∧ i = .int .i64 k ∧ wr = w.drewN q) (fun i _ => n - (intOf i).toNat)
  case atStart => exact ⟨0, 0, Nat.zero_le _, rfl, rfl⟩
  case round =>
    obtain ⟨k, q, hk, rfl, rfl⟩ := hrel
    by_cases hlt : k < n
    · obtain ⟨x, hx⟩ : ∃ x, l[k]? = some x := ⟨_, List.getElem?_eq_getElem (by have := HL.out; omega)⟩
      obtain ⟨g, o, rfl, hb, hc⟩ := HA.out.at hx
      obtain ⟨g2, o2, rfl, hb2, hc2⟩ := HB.out.at hx
      have hi0 : (0 : Int) ≤ (k : Int) := by omega
      have hi1 : (k : Int) < (n : Int) := by omega
      clear hx
      go_wp2
      go_quiet (fail)
      go_wp2
      go_roundw
      case rel => exact ⟨k + 1, _, by omega, by go_num, rfl⟩
      case measure => simp [intOf]; omega
    · go_wp2
      go_ret
      exact ⟨rfl, rfl, rfl, rfl, Nat.le_refl _, fun _ _ => rfl⟩
end Go.Proofs.Ytldhbodhpdhncaa
