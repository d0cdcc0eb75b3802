/- The contracts of slices.Index, slices.Contains and the reference's Find, at strings. -/
import Derived.Test.YticgpiipikneiaaKc
set_option linter.unusedSimpArgs false
set_option linter.unusedVariables false
namespace Go.Proofs.Yticgpiipikneiaa
open Go.ChangeShapes Go.WideShapes Go.RowKit Go.Mor

/-- The strings l lie behind the address A. -/
def Strs (w : World) (A : Option Addr) (l : List ByteArray) : Prop := l = [] ∨ ∃ b off, A = some ⟨b, off, none⟩ ∧ b < w.heap.size ∧ ∀ j s, l[j]? = some s → w.cell? ⟨b, off + j, none⟩ = some (.string s)

theorem Strs.keep {w w' : World} {A : Option Addr} {l : List ByteArray} (h : Strs w A l) (hb : Below w.heap.size w w') : Strs w' A l := by
  rcases h with h | ⟨b, off, h1, h2, h3⟩
  · exact .inl h
  · exact .inr ⟨b, off, h1, Nat.lt_of_lt_of_le h2 hb.size, fun j s hj => (hb.cell (p := ⟨b, off + j, none⟩) h2).trans (h3 j s hj)⟩

/-- Where s stands first from place k on. -/
def findFrom (l : List ByteArray) (s : ByteArray) (k : Nat) : Int := match l with | [] => -1 | x :: r => if x.toList == s.toList then k else findFrom r s (k + 1)
def findN (l : List ByteArray) (s : ByteArray) : Int := findFrom l s 0
theorem findFrom_drop (l : List ByteArray) (s : ByteArray) (k : Nat) (h : k < l.length) : findFrom (l.drop k) s k = if l[k].toList == s.toList then (k : Int) else findFrom (l.drop (k + 1)) s (k + 1) := by
  rw [List.drop_eq_getElem_cons h]; rfl
theorem findFrom_end (l : List ByteArray) (s : ByteArray) (k : Nat) (h : l.length ≤ k) : findFrom (l.drop k) s k = -1 := by
  rw [List.drop_eq_nil_of_le h]; rfl

set_option maxHeartbeats 400000 in
theorem index_any (A : Option Addr) (n c : Nat) (l : List ByteArray) (s : ByteArray) (w : World) (hl : l.length = n) (hm : n ≤ maxLen) (hs : Strs w A l) :
    Calls Try.prog 66 #[.slice A n c, .string s] w fun e w' => e = .returned (.int .i64 (findN l s)) ∧ w = w' := by
  replace hm : n ≤ 9223372036854775807 := hm
  subst hl
  have HS := hid hs
  clear hs
  have HF : Hid (findN l s = findFrom (l.drop 0) s 0) := by show findN l s = _; simp [findN]
  go_enter Try.func66, Try.ntmps66
  go_wp2
  go_loop [5, 8] (fun _ i => ∃ k : Nat, k ≤ l.length ∧ i = .int .i64 k ∧ findN l s = findFrom (l.drop k) s k) (fun _ i => l.length - (intOf i).toNat)
  case atStart => exact ⟨0, Nat.zero_le _, rfl, HF.out⟩
  case round =>
    obtain ⟨k, hk, rfl, hf⟩ := hrel
    have HR := hid hf
    clear hf
    by_cases hlt : k < l.length
    · rcases HS.out with h | ⟨b, off, rfl, hb, hc⟩
      · subst h; simp at hlt
      have hcell := hc k _ (List.getElem?_eq_getElem hlt)
      clear hc
      have HD := hid (findFrom_drop l s k hlt)
      by_cases he : (l[k].toList == s.toList) = true
      · have he' : (s.toList == l[k].toList) = true := by rw [BEq.comm]; exact he
        have HE := hid he
        clear he
        go_wp2
        go_ret
        exact ⟨ret_i (by rw [HR.out, HD.out, HE.out]; rfl), rfl⟩
      · have he : (l[k].toList == s.toList) = false := by simpa using he
        have he' : (s.toList == l[k].toList) = false := by rw [BEq.comm]; exact he
        have HE := hid he
        clear he
        go_wp2
        exact ⟨⟨k + 1, by omega, by go_num, by rw [HR.out, HD.out, HE.out]; rfl⟩, by simp [intOf]; omega⟩
    · go_wp2
      go_ret
      exact ⟨ret_i (by rw [HR.out, findFrom_end l s k (by omega)]), rfl⟩

set_option maxHeartbeats 400000 in
theorem refFind_any (A : Option Addr) (n c : Nat) (l : List ByteArray) (s : ByteArray) (w : World) (hl : l.length = n) (hm : n ≤ maxLen) (hs : Strs w A l) :
    Calls Try.prog 65 #[.slice A n c, .string s] w fun e w' => e = .returned (.int .i64 (findN l s)) ∧ w = w' := by
  replace hm : n ≤ 9223372036854775807 := hm
  subst hl
  have HS := hid hs
  clear hs
  have HF : Hid (findN l s = findFrom (l.drop 0) s 0) := by show findN l s = _; simp [findN]
  go_enter Try.func65, Try.ntmps65
  go_wp2
  go_loop [5] (fun i => ∃ k : Nat, k ≤ l.length ∧ i = .int .i64 k ∧ findN l s = findFrom (l.drop k) s k) (fun i => l.length - (intOf i).toNat)
  case atStart => exact ⟨0, Nat.zero_le _, rfl, HF.out⟩
  case round =>
    obtain ⟨k, hk, rfl, hf⟩ := hrel
    have HR := hid hf
    clear hf
    by_cases hlt : k < l.length
    · rcases HS.out with h | ⟨b, off, rfl, hb, hc⟩
      · subst h; simp at hlt
      have hcell := hc k _ (List.getElem?_eq_getElem hlt)
      clear hc
      have HD := hid (findFrom_drop l s k hlt)
      by_cases he : (l[k].toList == s.toList) = true
      · have he' : (s.toList == l[k].toList) = true := by rw [BEq.comm]; exact he
        have HE := hid he
        clear he'
        go_wp2
        go_ret
        exact ⟨ret_i (by rw [HR.out, HD.out, HE.out]; rfl), rfl⟩
      · have he : (l[k].toList == s.toList) = false := by simpa using he
        have he' : (s.toList == l[k].toList) = false := by rw [BEq.comm]; exact he
        have HE := hid he
        clear he'
        go_wp2
        exact ⟨⟨k + 1, by omega, by go_num, by rw [HR.out, HD.out, HE.out]; rfl⟩, by simp [intOf]; omega⟩
    · go_wp2
      go_ret
      exact ⟨ret_i (by rw [HR.out, findFrom_end l s k (by omega)]), rfl⟩


def inN (l : List ByteArray) (s : ByteArray) : Bool := decide (0 ≤ findN l s)
theorem contains_any (A : Option Addr) (n c : Nat) (l : List ByteArray) (s : ByteArray) (w : World) (hl : l.length = n) (hm : n ≤ maxLen) (hs : Strs w A l) :
    Calls Try.prog 62 #[.slice A n c, .string s] w fun e w' => e = .returned (.bool (inN l s)) ∧ w = w' := by
  go_enter Try.func62, Try.ntmps62
  go_wp2_with (go_at_call 66; refine (index_any _ _ _ l _ _ hl hm hs).mono ?_; rintro e w' ⟨rfl, rfl⟩)
  go_ret
  exact ⟨by simp [inN], rfl⟩

end Go.Proofs.Yticgpiipikneiaa
