/- Whether two lists of edges are the same. -/
import Derived.Test.YtldhbodhpdhncaaMk
set_option linter.unusedSimpArgs false
set_option linter.unusedVariables false
namespace Go.Proofs.Ytldhbodhpdhncaa
open Go.ChangeShapes Go.WideShapes Go.RowKit Go.Mor Go.Fl

theorem equal_len (A B : Option Addr) (n m c d : Nat) (w : World) (hnm : n ≠ m) :
    Calls Try.prog 63 #[.slice A n c, .slice B m d, .func (.func 18) #[] #[]] w fun e w' => e = .returned (.bool false) ∧ w = w' := by
  have h : ((n : Int) != (m : Int)) = true := by rw [bne_iff_ne]; omega
  go_enter Try.func63, Try.ntmps63
  go_wp2
  go_ret
  exact ⟨rfl, rfl⟩
set_option maxHeartbeats 1000000 in
theorem equal_yes (A B : Option Addr) (n c d : Nat) (l : List Nat) (w : World) (hl : l.length = n) (hm : n ≤ 100000) (hA : Flt w A l) (hB : Flt w B l) :
    Calls Try.prog 63 #[.slice A n c, .slice B n d, .func (.func 18) #[] #[]] w fun e w' => e = .returned (.bool true) ∧ w = w' := by
  have HL := hid hl
  have HA := hid hA
  have HB := hid hB
  clear hl hA hB
  go_enter Try.func63, Try.ntmps63
  go_wp2
  go_loop [7, 8, 9, 17] (fun _ _ _ i => ∃ k : Nat, k ≤ n ∧ i = .int .i64 k) (fun _ _ _ i => n - (intOf i).toNat)
  case atStart => exact ⟨0, Nat.zero_le _, rfl⟩
  case round =>
    obtain ⟨k, hk, rfl⟩ := hrel
    by_cases hlt : k < n
    · obtain ⟨x, hx⟩ : ∃ x, l[k]? = some x := ⟨_, List.getElem?_eq_getElem (by have := HL.out; omega)⟩
      obtain ⟨g, o, rfl, hb, hc⟩ := HA.out.at hx
      obtain ⟨g2, o2, rfl, hb2, hc2⟩ := HB.out.at hx
      have hi0 : (0 : Int) ≤ (k : Int) := by omega
      have hi1 : (k : Int) < (n : Int) := by omega
      clear hx
      go_wp2_with (go_at_call 18; refine (same_any _ _ _).mono ?_; rintro e w' ⟨rfl, rfl⟩; rw [same_refl])
      exact ⟨⟨k + 1, by omega, by go_num⟩, by simp [intOf]; omega⟩
    · go_wp2
      go_ret
      exact ⟨rfl, rfl⟩
end Go.Proofs.Ytldhbodhpdhncaa
