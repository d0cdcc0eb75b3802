/- The contract of slices.Delete at one string, and of keep.Release. -/
import Derived.Test.YticgpiipikneiaaKf
import Derived.Deep.RegionLaw
set_option linter.unusedSimpArgs false
set_option linter.unusedVariables false
namespace Go.Proofs.Yticgpiipikneiaa
open Go.ChangeShapes Go.WideShapes Go.RowKit Go.Mor

theorem below_cells {B b : Nat} {a : World} (hb : B ≤ b) : ∀ (vs : List Value) (o : Nat) (w : World), Below B a w → Below B a (w.setCells b o vs)
  | [], _, _, h => h
  | v :: r, o, w, h => below_cells hb r (o + 1) _ (h.setCell (p := ⟨b, o, none⟩) hb v)

/-- What is moved one place to the front. -/
def movedS (l : List ByteArray) (i : Nat) : List Value := strV (l.drop (i + 1))
theorem movedS_length {l : List ByteArray} {i : Nat} : (movedS l i).length = l.length - (i + 1) := by simp [movedS, strV]

set_option maxHeartbeats 4000000 in
set_option maxRecDepth 1000000 in
theorem delete1_any (g n cap i : Nat) (l : List ByteArray) (B : Nat) (w : World) (hl : l.length = n) (hi : i < n) (hm : cap ≤ maxLen) (hB : B ≤ g)
    (hown : w.ownsRow B 9 1 (.slice (some ⟨g, 0, none⟩) n cap) n (strV l)) :
    Calls Try.prog 67 #[.slice (some ⟨g, 0, none⟩) n cap, .int .i64 i, .int .i64 ((i : Int) + 1)] w fun e w' => e = .returned (.slice (some ⟨g, 0, none⟩) (n - 1) cap) ∧ Below B w w' ∧ Rd w' (some ⟨g, 0, none⟩) (strV (l.eraseIdx i)) := by
  replace hm : cap ≤ 9223372036854775807 := hm
  obtain ⟨i0, hi0, hz0, hz1, hz2⟩ := info_parts info9
  have hnc : n ≤ cap := by
    rcases hown.2 with ⟨h, _⟩ | ⟨g', cap', cur, hv, _, _, h, _⟩
    · cases h
    · injection hv with _ _ h'; omega
  have hg : g < w.heap.size := (hown.lt g rfl).2
  have hc : ∀ j, j < n → w.cell? ⟨g, j, none⟩ = some (.string l[j]!) := fun j hj => by
    rw [hown.cellAt j (by omega), strV, List.getElem?_map, List.getElem?_eq_getElem (by omega), getElem!_pos l j (by omega)]; rfl
  have hf : ∀ j, w.frozen? ⟨g, j, none⟩ = false := fun j => hown.frozenAt j
  clear hown
  obtain ⟨A, hA, hnews⟩ : ∃ A : Addr, (if cap = i + 1 then some (⟨g, 0, none⟩ : Addr) else some ⟨g, i + 1, none⟩) = some A ∧ Hid (∀ j u, (movedS l i)[j]? = some u → w.drew.cell? (A.add j) = some u) := by
    by_cases h : cap = i + 1
    · refine ⟨⟨g, 0, none⟩, by simp [h], fun j u hu => ?_⟩
      have h0 : (movedS l i).length = 0 := by rw [movedS_length]; omega
      rw [List.length_eq_zero_iff.1 h0] at hu
      simp at hu
    · refine ⟨⟨g, i + 1, none⟩, by simp [h], fun j u hu => ?_⟩
      have hj : j < l.length - (i + 1) := by
        have := (List.getElem?_eq_some_iff.1 hu).1
        rwa [movedS_length] at this
      rw [Addr.add_lit]
      refine (hc (i + 1 + j) (by omega)).trans ?_
      rw [← hu, movedS, strV, List.getElem?_map, List.getElem?_drop, List.getElem?_eq_getElem (by omega), getElem!_pos l (i + 1 + j) (by omega)]; rfl
  have s1 : Hid ((movedS l i).length = (n - (i + 1)) * 1) := by rw [Nat.mul_one, ← hl]; exact movedS_length
  have s2 : Hid (∀ u ∈ movedS l i, u.oneCell' = true) := strV_one _
  have s3 : Hid (∀ j, j < (movedS l i).length → (w.drew.cell? ⟨g, 0 + i * 1 + j, none⟩).isSome = true ∧ w.drew.frozen? ⟨g, 0 + i * 1 + j, none⟩ = false) := by
    intro j hj
    rw [movedS_length] at hj
    rw [Nat.mul_one, Nat.zero_add]
    exact ⟨by show (w.cell? _).isSome = true; rw [hc (i + j) (by omega)]; rfl, hf (i + j)⟩
  obtain ⟨W1, hW1⟩ : ∃ W1, W1 = w.drew.setCells g (0 + i * 1) (movedS l i) := ⟨_, rfl⟩
  have hcW : ∀ j, j < n → (W1.cell? ⟨g, j, none⟩).isSome = true := fun j hj => by
    rw [hW1]
    exact World.isSome_setCells g _ _ _ _ (by show (w.cell? _).isSome = true; rw [hc j hj]; rfl)
  have hfW : ∀ j, W1.frozen? ⟨g, j, none⟩ = false := fun j => by rw [hW1, World.frozen?_setCells]; exact hf j
  have hcl : ∀ ty, (Builtin.clear_ #[57] ty #[.slice (some ⟨g, i + (n - (i + 1)), none⟩) (n - (i + (n - (i + 1)))) (cap - (i + (n - (i + 1))))]).run Try.prog W1 = .ok (.tuple #[]) (W1.setCells g (i + (n - (i + 1))) (List.replicate (n - (i + (n - (i + 1)))) (.string ByteArray.empty))) :=
    fun ty => Lib.run_clear_slice W1 57 9 ty (.string ByteArray.empty) Try.underlying57 (fun w => by kernel_rfl) rfl rfl g (i + (n - (i + 1))) _ _ (by omega) (fun t ht => hcW _ (by omega)) (fun t _ => hfW _)
  have HW := hid hW1
  have hic : i ≤ cap := by omega
  have hjc : i + 1 ≤ cap := by omega
  have hwr : IntKind.i64.wrap ((i : Int) + 1) = (i : Int) + 1 := by rw [IntKind.wrap_i64]; omega
  have hp0 : (0 : Int) ≤ (i : Int) + 1 := by omega
  have hp1 : (i : Int) + 1 ≤ (n : Int) := by omega
  have hp2 : ((i : Int) + 1).toNat = i + 1 := by omega
  have hne : ((i : Int) == (i : Int) + 1) = false := by rw [beq_eq_false_iff_ne]; omega
  have HC := hid hc
  clear hc hf hW1 hcW hfW
  go_enter Try.func67, Try.ntmps67
  go_wp2_with fail
  go_region_law (refine step_append_room rfl (.tmp 22) (.tmp 25) 57 rfl 9 i0 1 Try.underlying57 hi0 hz1 g 0 i cap (by simp [Act.eval, Act.put]) A (n - (i + 1)) (cap - (i + 1)) (movedS l i) (by simp [Act.eval, Act.put]) s1.out hnews.out s2.out (by omega) s3.out ?_; rw [← HW.out])
  go_wp2
  go_ret
  have hW1 := HW.out
  have hc := HC.out
  have en : i + (n - (i + 1)) = n - 1 := by omega
  refine ⟨by simp [en], ?_, .inr ⟨_, rfl, ?_, fun j u hj => ?_⟩⟩
  · refine below_cells hB _ _ _ ?_
    rw [hW1]
    exact below_cells hB _ _ _ (Below.refl _ _).drew
  · have hb : Below 0 w (W1.setCells g (i + (n - (i + 1))) (List.replicate (n - (i + (n - (i + 1)))) (Value.string ByteArray.empty))) := by
      refine below_cells (Nat.zero_le _) _ _ _ ?_
      rw [hW1]
      exact below_cells (Nat.zero_le _) _ _ _ (Below.refl _ _).drew
    exact Nat.lt_of_lt_of_le hg hb.size
  · have hlt : j < (l.eraseIdx i).length := by
      have := (List.getElem?_eq_some_iff.1 hj).1
      simpa [strV] using this
    have hlen : (l.eraseIdx i).length = n - 1 := by rw [List.length_eraseIdx, if_pos (by omega)]; omega
    rw [strV, List.getElem?_map] at hj
    rw [Addr.add_lit, Nat.zero_add, World.cell?_setCells_out _ _ _ _ _ (fun _ _ => Or.inl (by show j < _; omega)), hW1]
    by_cases hji : j < i
    · rw [World.cell?_setCells_out _ _ _ _ _ (fun _ _ => Or.inl (by show j < _; omega))]
      show w.cell? _ = _
      rw [hc j (by omega), ← hj, List.getElem?_eraseIdx, if_pos hji, List.getElem?_eq_getElem (by omega), getElem!_pos l j (by omega)]; rfl
    · have hin := World.cell?_setCells_in g (movedS l i) (0 + i * 1) w.drew (fun t ht => (s3.out t ht).1) (j - i) (by rw [movedS_length]; omega)
      rw [show 0 + i * 1 + (j - i) = j by omega] at hin
      rw [hin, ← hj, List.getElem?_eraseIdx, if_neg hji, List.getElem?_eq_getElem (by omega)]
      simp [movedS, strV]
      congr 1; omega
end Go.Proofs.Yticgpiipikneiaa
