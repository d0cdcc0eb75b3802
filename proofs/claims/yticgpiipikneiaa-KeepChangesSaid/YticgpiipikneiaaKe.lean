/- The contracts of class.Name and of its reference. -/
import Derived.Test.YticgpiipikneiaaKd
set_option linter.unusedSimpArgs false
set_option linter.unusedVariables false
namespace Go.Proofs.Yticgpiipikneiaa
open Go.ChangeShapes Go.WideShapes Go.RowKit Go.Mor

def okB (c : UInt8) : Bool := decide ((97 ≤ (c.toNat : Int) ∧ (c.toNat : Int) ≤ 122) ∨ (48 ≤ (c.toNat : Int) ∧ (c.toNat : Int) ≤ 57) ∨ (c.toNat : Int) = 45)
def okL (l : List UInt8) : Bool := l.all okB
def nameN (s : ByteArray) : Int := if s.size < 1 ∨ 15 < s.size ∨ okL s.data.toList = false then 10 else 0
theorem okL_bad {s : ByteArray} {k : Nat} (h : k < s.size) (hb : okB s[k] = false) : okL s.data.toList = false := by
  unfold okL
  rw [List.all_eq_false]
  refine ⟨s[k], ?_, by simp [hb]⟩
  have : s[k] = s.data.toList[k]'(by simpa using h) := rfl
  rw [this]; exact List.getElem_mem _
theorem okL_take {s : ByteArray} {k : Nat} (h : k < s.size) (ht : okL (s.data.toList.take k) = true) (hb : okB s[k] = true) : okL (s.data.toList.take (k + 1)) = true := by
  have e : s.data.toList.take (k + 1) = s.data.toList.take k ++ [s[k]] := by
    rw [List.take_succ_eq_append_getElem (by simpa using h)]; rfl
  unfold okL at *
  rw [e, List.all_append, ht]; simp [hb]
theorem okL_all {s : ByteArray} (ht : okL (s.data.toList.take s.size) = true) : okL s.data.toList = true := by
  rwa [List.take_of_length_le (by simp)] at ht
theorem okB_no {c : UInt8} (h : ¬ ((97 ≤ (c.toNat : Int) ∧ (c.toNat : Int) ≤ 122) ∨ (48 ≤ (c.toNat : Int) ∧ (c.toNat : Int) ≤ 57) ∨ (c.toNat : Int) = 45)) : okB c = false := by simpa [okB] using h
theorem okB_yes {c : UInt8} (h : ((97 ≤ (c.toNat : Int) ∧ (c.toNat : Int) ≤ 122) ∨ (48 ≤ (c.toNat : Int) ∧ (c.toNat : Int) ≤ 57) ∨ (c.toNat : Int) = 45)) : okB c = true := by simpa [okB] using h

set_option maxHeartbeats 1000000 in
theorem name_any (s : ByteArray) (w : World) :
    Calls Try.prog 61 #[.string s] w fun e w' => e = .returned (.int .i64 (nameN s)) ∧ w = w' := by
  by_cases h1 : s.size < 1
  · obtain rfl : s = ByteArray.empty := by
      cases s with | mk d => simp [ByteArray.size] at h1; simp [h1]; rfl
    have hn : nameN ByteArray.empty = 10 := by decide
    rw [hn]
    go_enter Try.func61, Try.ntmps61
    go_wp2
    go_ret
    exact ⟨rfl, rfl⟩
  · have he : s.toList.isEmpty = false := by
      rw [ByteArray.toList_eq]
      cases hd : s.data.toList with
      | nil => exfalso; apply h1; have : s.data.toList.length = 0 := by rw [hd]; rfl
               rw [Array.length_toList] at this; show s.data.size < 1; omega
      | cons a b => rfl
    by_cases h2 : 15 < s.size
    · have hn : nameN s = 10 := by simp [nameN, h2]
      rw [hn]
      go_enter Try.func61, Try.ntmps61
      go_wp2
      all_goals
        go_ret
        exact ⟨rfl, rfl⟩
    · go_enter Try.func61, Try.ntmps61
      go_wp2
      go_loop [14] (fun i => ∃ k : Nat, k ≤ s.size ∧ i = .int .i64 k ∧ okL (s.data.toList.take k) = true) (fun i => s.size - (intOf i).toNat)
      case atStart => exact ⟨0, Nat.zero_le _, rfl, rfl⟩
      case round =>
        obtain ⟨k, hk, rfl, hf⟩ := hrel
        have HR := hid hf
        clear hf
        by_cases hlt : k < s.size
        · go_wp2
          all_goals
            try simp only [bne_iff_ne, bne_eq_false_iff_eq, ne_eq, Bool.not_eq_true', Bool.not_eq_false', decide_eq_true_eq, decide_eq_false_iff_not, beq_iff_eq, beq_eq_false_iff_ne] at *
            first
              | (go_ret; exact ⟨ret_i (by rw [nameN, if_pos (Or.inr (Or.inr (okL_bad hlt (okB_no (by omega)))))]), rfl⟩)
              | exact ⟨⟨k + 1, by omega, by go_num, okL_take hlt HR.out (okB_yes (by omega))⟩, by simp [intOf]; omega⟩
        · go_wp2
          obtain rfl : k = s.size := by omega
          go_ret
          exact ⟨ret_i (by rw [nameN, if_neg (by rw [okL_all HR.out]; rintro (h | h | h) <;> first | omega | cases h)]), rfl⟩

set_option maxHeartbeats 1000000 in
theorem refName_any (s : ByteArray) (w : World) :
    Calls Try.prog 64 #[.string s] w fun e w' => e = .returned (.int .i64 (nameN s)) ∧ w = w' := by
  by_cases h1 : s.size < 1
  · obtain rfl : s = ByteArray.empty := by
      cases s with | mk d => simp [ByteArray.size] at h1; simp [h1]; rfl
    have hn : nameN ByteArray.empty = 10 := by decide
    rw [hn]
    go_enter Try.func64, Try.ntmps64
    go_wp2
    go_ret
    exact ⟨rfl, rfl⟩
  · have he : s.toList.isEmpty = false := by
      rw [ByteArray.toList_eq]
      cases hd : s.data.toList with
      | nil => exfalso; apply h1; have : s.data.toList.length = 0 := by rw [hd]; rfl
               rw [Array.length_toList] at this; show s.data.size < 1; omega
      | cons a b => rfl
    by_cases h2 : 15 < s.size
    · have hn : nameN s = 10 := by simp [nameN, h2]
      rw [hn]
      go_enter Try.func64, Try.ntmps64
      go_wp2
      all_goals
        go_ret
        exact ⟨rfl, rfl⟩
    · go_enter Try.func64, Try.ntmps64
      go_wp2
      go_loop [3] (fun i => ∃ k : Nat, k ≤ s.size ∧ i = .int .i64 k ∧ okL (s.data.toList.take k) = true) (fun i => s.size - (intOf i).toNat)
      case atStart => exact ⟨0, Nat.zero_le _, rfl, rfl⟩
      case round =>
        obtain ⟨k, hk, rfl, hf⟩ := hrel
        have HR := hid hf
        clear hf
        by_cases hlt : k < s.size
        · go_wp2
          all_goals
            try simp only [bne_iff_ne, bne_eq_false_iff_eq, ne_eq, Bool.not_eq_true', Bool.not_eq_false', decide_eq_true_eq, decide_eq_false_iff_not, beq_iff_eq, beq_eq_false_iff_ne] at *
            first
              | (go_ret; exact ⟨ret_i (by rw [nameN, if_pos (Or.inr (Or.inr (okL_bad hlt (okB_no (by omega)))))]), rfl⟩)
              | exact ⟨⟨k + 1, by omega, by go_num, okL_take hlt HR.out (okB_yes (by omega))⟩, by simp [intOf]; omega⟩
        · go_wp2
          obtain rfl : k = s.size := by omega
          go_ret
          exact ⟨ret_i (by rw [nameN, if_neg (by rw [okL_all HR.out]; rintro (h | h | h) <;> first | omega | cases h)]), rfl⟩

end Go.Proofs.Yticgpiipikneiaa
