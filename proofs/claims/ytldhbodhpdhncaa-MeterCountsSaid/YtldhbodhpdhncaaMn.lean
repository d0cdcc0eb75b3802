/- The reference's sum of measures. -/
import Derived.Test.YtldhbodhpdhncaaMl
set_option linter.unusedSimpArgs false
set_option linter.unusedVariables false
namespace Go.Proofs.Ytldhbodhpdhncaa
open Go.ChangeShapes Go.WideShapes Go.RowKit Go.Mor Go.Fl

theorem st_same {o : Option Nat} {a b : Nat} (h : stR o a) (g : stR o b) : sameB a b = true := by
  cases o with
  | none => exact same_nan h g
  | some v => obtain rfl : a = v := h; obtain rfl : b = a := g; exact same_refl _
def SumPost (l : List Nat) (w : World) (e : Ending) (w' : World) : Prop := ∃ r, e = .returned (.float .f64 r) ∧ stR (sumO (someN l)) r ∧ Below w.heap.size w w'
set_option maxHeartbeats 1000000 in
theorem refSum_any (A : Option Addr) (n c : Nat) (l : List Nat) (w : World) (hl : l.length = n) (hm : n ≤ 1000) (hA : Flt w A l) :
    Calls Try.prog 38 #[.slice A n c] w (SumPost l w) := by
  have hS := some_any A n c l w hl hm hA
  have hsm : (someN l).length ≤ 1000 := by
    have : (someN l).length ≤ l.length := List.length_filter_le _ _
    omega
  clear hA
  go_enter Try.func38, Try.ntmps38
  go_wp2_with fail
  refine hS.mono ?_
  rintro e w' ⟨B, c2, rfl, hb, hB, -⟩
  obtain ⟨d, bs, rfl⟩ := ext_of_below hb
  have HB := hid hB
  clear hb hB hS
  obtain ⟨S, hSl⟩ : ∃ S, someN l = S := ⟨_, rfl⟩
  have HSl := hid hSl
  rw [hSl] at HB hsm ⊢
  clear hSl
  obtain ⟨m, hm2⟩ : ∃ m, S.length = m := ⟨_, rfl⟩
  rw [hm2] at hsm ⊢
  have HM := hid hm2
  clear hm2
  obtain ⟨W1, hW1⟩ : ∃ W1, W1 = ext w d bs := ⟨_, rfl⟩
  have HBW : Below w.heap.size w W1 := by rw [hW1]; exact below_ext w d bs
  rw [← hW1] at HB ⊢
  have HBW := hid HBW
  clear hW1
  go_wp2
  go_loopw [3, 5] (fun s i wr => ∃ k T q : Nat, k ≤ m ∧ i = .int .i64 k ∧ s = .float .f64 T ∧ wr = W1.drewN q ∧ Hid (stR (sumO (S.take k)) T)) (fun _ i _ => m - (intOf i).toNat)
  case atStart => exact ⟨0, _, 0, Nat.zero_le _, rfl, rfl, rfl, by rw [List.take_zero, sumO_nil]; exact rfl⟩
  case round =>
    obtain ⟨k, T, q, hk, rfl, rfl, rfl, ES⟩ := hrel
    by_cases hlt : k < m
    · obtain ⟨x, hx⟩ : ∃ x, S[k]? = some x := ⟨_, List.getElem?_eq_getElem (by have := HM.out; omega)⟩
      obtain ⟨b, o, rfl, hbb, hc⟩ := HB.out.at hx
      have hi0 : (0 : Int) ≤ (k : Int) := by omega
      have hi1 : (k : Int) < (m : Int) := by omega
      have SL := hid (sumO_succ hx)
      clear hx
      cases hok : okF .add T x
      · go_wp2
        exact ⟨⟨k + 1, _, _, by omega, by go_num, rfl, rfl, hid (by rw [SL.out]; exact st_no ES.out hok _)⟩, by simp [intOf]; omega⟩
      · go_wp2
        exact ⟨⟨k + 1, _, _, by omega, by go_num, rfl, rfl, hid (by rw [SL.out]; exact st_ok ES.out hok)⟩, by simp [intOf]; omega⟩
    · have hkm : k = m := by omega
      have ET : stR (sumO S) T := by have h := ES.out; rwa [List.take_of_length_le (by have := HM.out; omega)] at h
      have ET := hid ET
      go_wp2
      go_ret
      exact ⟨_, rfl, by rw [HSl.out]; exact ET.out, below_drewN HBW.out q⟩
end Go.Proofs.Ytldhbodhpdhncaa
