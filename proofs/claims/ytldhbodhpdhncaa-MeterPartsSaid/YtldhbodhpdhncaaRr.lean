/- How a slice of uint64 that came in reads. -/
import Derived.Test.YtldhbodhpdhncaaRk
import Derived.ProofKit
import Derived.OpenShut
import Derived.ShutString
import Derived.ChangeOld
import Derived.Below
import Derived.SliceStrings
import Derived.ChangeSlices
import Derived.WideShapes
set_option linter.unusedSimpArgs false
set_option linter.unusedVariables false
namespace Go.Proofs.Ytldhbodhpdhncaa
open Go.ChangeShapes Go.WideShapes Go.RowKit Go.Mor Go.Fl

theorem under39 : Try.prog.underlying 39 = some (.slice 22) := by kernel_rfl
theorem u64_range {n : Int} (h : (Lit.int .u64 n).wf = true) : 0 ≤ n ∧ n < 18446744073709551616 := by
  have h : decide (IntKind.u64.min ≤ n) = true ∧ decide (n ≤ IntKind.u64.max) = true := by simpa [Lit.wf] using h
  have h1 := of_decide_eq_true h.1
  have h2 := of_decide_eq_true h.2
  have e1 : IntKind.u64.min = 0 := by decide
  have e2 : IntKind.u64.max = 18446744073709551615 := by decide
  rw [e1] at h1; rw [e2] at h2
  omega
section
variable {H : Type} {enc : TypeId × Value → H} {w : World}
theorem open_us {r : Reach} {b0 : Nat} {v : Value} {d : DataW H} {ps : List MemPlace} (hval : Value.okWide Try.prog w r b0 39 v) (h : DataW.Trod enc Try.prog w 0 (fun _ => true) true 39 v d ps) :
    ∃ A n c l, v = .slice A n c ∧ l.length = n ∧ n ≤ maxLen ∧ Us w A l ∧ fits l := by
  obtain ⟨A, n, c, rfl⟩ := okWide_slice under39 hval
  obtain ⟨fuel, h⟩ := h
  rcases open_ints under39 Try.underlying22 (by kernel_rfl) h with ⟨h0, _⟩ | ⟨a, len, cap, zs, h0, _, hl, hm, hz, _, hcell, hwf⟩
  · simp [Value.cells] at h0
    obtain ⟨rfl, rfl, rfl⟩ := h0
    exact ⟨none, 0, 0, [], rfl, rfl, Nat.zero_le _, .inl rfl, fun x hx => by cases hx⟩
  · simp [Value.cells] at h0
    obtain ⟨rfl, rfl, rfl⟩ := h0
    have hz' : zs.length = c := by simpa using hz
    refine ⟨some a, n, c, (zs.take n).map Int.toNat, rfl, by simp; omega, by omega, ?_, ?_⟩
    · by_cases h0 : n = 0
      · subst h0; exact .inl (by simp)
      · have h1 := hcell 0 (by omega)
        have hb : a.block < w.heap.size := by
          have := World.block_lt_of_cell? w _ h1
          rwa [add_block] at this
        obtain ⟨b, off, spot⟩ := a
        have hsp : spot = none := by simpa [Addr.add] using World.cell?_spot h1
        subst hsp
        refine .inr ⟨b, off, rfl, hb, fun j u hj => ?_⟩
        rw [List.getElem?_map] at hj
        cases hq : (zs.take n)[j]? with
        | none => rw [hq] at hj; cases hj
        | some q =>
          rw [hq] at hj
          injection hj with hj
          have hlt : j < (zs.take n).length := (List.getElem?_eq_some_iff.1 hq).1
          have hlt2 : j < zs.length := by simp at hlt; omega
          have := hcell j hlt2
          rw [Addr.add_lit] at this
          rw [this]
          rw [List.getElem?_take, if_pos (by simp at hlt; omega), List.getElem?_eq_getElem hlt2] at hq
          injection hq with hq
          have hr := u64_range (hwf q (by rw [← hq]; exact List.getElem_mem _))
          subst hj
          rw [Int.toNat_of_nonneg hr.1]
          simp [List.getD, hlt2, hq]
    · intro x hx
      obtain ⟨q, hq, rfl⟩ := List.mem_map.1 hx
      have hr := u64_range (hwf q (List.mem_of_mem_take hq))
      omega
end
end Go.Proofs.Ytldhbodhpdhncaa
