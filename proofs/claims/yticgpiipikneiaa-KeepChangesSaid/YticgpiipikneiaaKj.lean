/- The contract of the reference's Release. -/
import Derived.Test.YticgpiipikneiaaKi
import Derived.Test.YticgpiipikneiaaBaseC
set_option linter.unusedSimpArgs false
set_option linter.unusedVariables false
namespace Go.Proofs.Yticgpiipikneiaa
open Go.ChangeShapes Go.WideShapes Go.RowKit Go.Mor

/-- The worlds of the loop: the clip, the result, the copy with the holds so far. -/
abbrev WR (cs : Array Value) (w : World) (A : Option Addr) (m c : Nat) : World := (((w.alloc (Obj.cells cs 59)).alloc (Obj.cells zero59 59)).alloc (Obj.cells (cs.setIfInBounds 36 (.slice A m c)) 59))

def RelRel (cs : Array Value) (l : List ByteArray) (k : Nat) (w : World) (t : Value) (wr : World) : Prop :=
  ∃ (i m : Nat) (A : Option Addr) (c d : Nat) (bs : Array Obj), i ≤ l.length ∧ m ≤ i ∧ t = .int .i64 i ∧ wr = ext (WR cs w A m c) d bs ∧ (ext (WR cs w A m c) d bs).ownsRow (w.heap.size + 1 + 1 + 1) 9 1 (.slice A m c) m (strV ((l.take i).eraseIdx k))

theorem take_erase_same (l : List ByteArray) (i : Nat) : (l.take (i + 1)).eraseIdx i = (l.take i).eraseIdx i := by
  rw [List.eraseIdx_of_length_le (l := l.take i) (by simp; omega)]
  apply List.ext_getElem?
  intro j
  rw [List.getElem?_eraseIdx]
  split
  · rw [List.getElem?_take, List.getElem?_take, if_pos (by omega), if_pos (by omega)]
  · rw [List.getElem?_take, List.getElem?_take, if_neg (by omega), if_neg (by omega)]
theorem take_erase_snoc {l : List ByteArray} {i k : Nat} {x : ByteArray} (hx : l[i]? = some x) (h : i ≠ k) : (l.take (i + 1)).eraseIdx k = (l.take i).eraseIdx k ++ [x] := by
  have hi : i < l.length := (List.getElem?_eq_some_iff.1 hx).1
  have e : l.take (i + 1) = l.take i ++ [x] := by
    rw [List.take_succ_eq_append_getElem hi]
    rw [List.getElem?_eq_getElem hi] at hx
    injection hx with hx; rw [hx]
  rw [e]
  by_cases hk : k < i
  · rw [List.eraseIdx_append_of_lt_length (by simp; omega)]
  · rw [List.eraseIdx_of_length_le (l := l.take i) (by simp; omega), List.eraseIdx_of_length_le (by simp; omega)]

set_option maxRecDepth 100000 in
set_option maxHeartbeats 1000000 in
theorem refRelease_any (cs : Array Value) (s : ByteArray) (ha : Option Addr) (n c : Nat) (l : List ByteArray) (w : World)
    (hsz : isSz cs 39 = true) (hone : ones cs = true) (h36 : cs[36]? = some (.slice ha n c)) (hl : l.length = n) (hm : n ≤ 30) (hs : Rd w ha (strV l)) (hA : ha = none → n = 0) :
    Calls Try.prog 42 #[.agg cs, .string s] w (ClipPost cs (relN l s) (relL l s) w) := by
  have hB : Below w.heap.size w ((w.alloc (Obj.cells cs 59)).alloc (Obj.cells cs 59)) := ((Below.refl _ _).alloc (Nat.le_refl _) _).alloc (by simp) _
  rcases findN_range l s with hf | ⟨k, hk, hf⟩
  · have e1 : relN l s = 8 := by simp [relN, hf]
    have e2 : relL l s = l := by simp [relL, hf]
    have Hb : Hid (ClipPost cs 8 l w (.returned (.tuple #[.agg cs, .int .i64 8])) ((w.alloc (Obj.cells cs 59)).alloc (Obj.cells cs 59))) :=
      ⟨ha, n, c, by rw [set_self h36], hB, hl.symm, hs.keep (Below.mono hB (by simp)), hA⟩
    rw [e1, e2]
    have HS := hid hs
    have HF := hid hf
    clear e1 e2 hs hA hf
    go_enter Try.func42, Try.ntmps42
    go_wp2_with (go_at_call 65; refine (refFind_yes _ _ _ l _ _ hl (by unfold maxLen; omega) (Strs.of_rd ((HS.out.alloc _).alloc _)) _ HF.out).mono ?_; rintro e w' ⟨rfl, rfl⟩)
    refine ret_row2 rfl _ 39 _ rfl Try.underlying59 rfl (by kernel_rfl) ?_ rfl ?_
    · simp [go_sem, hsz]
    · simpa [go_sem] using Hb.out
  · have e1 : relN l s = 0 := by simp [relN, hf]
    have e2 : relL l s = l.eraseIdx k := by simp [relL, hf]; omega
    rw [e1, e2]
    have HS := hid hs
    have HA := hid hA
    have HF := hid hf
    have hk0 : (0 : Int) ≤ (k : Int) := by omega
    have hk1 : (k : Int) < 100 := by omega
    have hone0 := ones_set cs 36 (.slice none 0 0) hone rfl
    obtain ⟨i0, hi, hz0, hz1, hz2⟩ := info_parts info9
    clear e1 e2 hs hA hf
    go_enter Try.func42, Try.ntmps42
    go_wp2_with (go_at_call 65; refine (refFind_yes _ _ _ l _ _ hl (by unfold maxLen; omega) (Strs.of_rd ((HS.out.alloc _).alloc _)) _ HF.out).mono ?_; rintro e w' ⟨rfl, rfl⟩)
    go_loopw [8] (RelRel cs l k w) (fun t _ => l.length - (intOf t).toNat)
    case atStart => exact ⟨0, 0, none, 0, _, #[], Nat.zero_le _, Nat.le_refl _, rfl, by simp [ext]; rfl, World.ownsRow_nil _ _ _ _⟩
    case round =>
      obtain ⟨i, m, A, c', d, bs, hi1, hmi, rfl, rfl, hown⟩ := hrel
      have HO := hid hown
      clear hown
      have honeA := ones_set cs 36 (.slice A m c') hone rfl
      by_cases hlt : i < n
      · obtain ⟨x, hx⟩ : ∃ x, l[i]? = some x := ⟨_, List.getElem?_eq_getElem (by omega)⟩
        obtain ⟨b, off, rfl, hb, hcell⟩ : ∃ b off, ha = some ⟨b, off, none⟩ ∧ b < w.heap.size ∧ w.cell? ⟨b, off + i, none⟩ = some (.string x) := by
          rcases Strs.of_rd HS.out with h | ⟨b, off, h1, h2, h3⟩
          · subst h; simp at hl; omega
          · exact ⟨b, off, h1, h2, h3 i _ hx⟩
        have HX := hid hx
        clear hx
        have hbw := within_of hb
        by_cases hik : i = k
        · subst hik
          have hne : ((i : Int) != (i : Int)) = false := by simp
          go_wp2
          refine ⟨⟨i + 1, m, A, c', d, bs, by omega, by omega, by go_num, rfl, ?_⟩, by simp [intOf]; omega⟩
          rw [take_erase_same]; exact HO.out
        · have hne : ((i : Int) != (k : Int)) = true := by rw [bne_iff_ne]; omega
          have hi2 : (0 : Int) ≤ (i : Int) := by omega
          have hi3 : (i : Int) < (n : Int) := by omega
          go_wp2
          go_region_law (refine step_append_ext rfl (.tmp 29) (.tmp 35) 57 rfl (WR cs w A m c') ((below_ext _ _ _).alloc (by simp) _) 9 i0 (.string ByteArray.empty) 1 16 Try.underlying57 hi hz0 hz1 hz2 rfl (by decide) (.slice A m c') m (strV ((l.take i).eraseIdx k)) (by simp [Act.eval, Act.put]) ((owns_ext HO.out (by simp) (by simp) _).alloc _) (some ⟨w.heap.size + 1 + 1 + 1 + bs.size, 0, none⟩) 1 1 [.string x] (by simp [Act.eval, Act.put]) (rd_new _ _ _) rfl (by intro u hu; simp at hu; subst hu; rfl) (by unfold maxLen; omega) (by omega) ?_; intro A2 c2 d2 bs2 hown2; have HO2 := hid hown2; clear hown2)
          all_goals
            go_wp2
            refine ⟨⟨i + 1, m + 1, A2, c2, d2, bs2, by omega, by omega, by go_num, by simp, ?_⟩, by simp [intOf]; omega⟩
            have h2 := owns_ext (W' := WR cs w A2 (m + 1) c2) HO2.out (by simp) (by simp) d2
            rw [take_erase_snoc HX.out hik]
            simpa [strV] using h2
      · go_wp2
        refine ret_row2 rfl _ 39 _ rfl Try.underlying59 rfl (by kernel_rfl) ?_ rfl ?_
        · simp [go_sem, hsz]
        · obtain rfl : i = l.length := by omega
          have ht : l.take l.length = l := List.take_length
          rw [ht] at HO
          have hlen : (l.eraseIdx k).length = m := by
            have := HO.out.1
            simpa [strV] using this
          refine ⟨A, m, c', by simp [go_sem], ?_, hlen.symm, ?_, ?_⟩
          · exact below_ext' ((((Below.refl _ _).alloc (Nat.le_refl _) _).alloc (by simp) _).alloc (by simp; omega) _) (by simp; omega) _ _
          · exact owns_rd (owns_ext HO.out (by simp) (by simp) _)
          · intro hA'
            subst hA'
            rcases Nat.eq_zero_or_pos m with h | h
            · exact h
            · exact (owns_none HO.out h).elim
end Go.Proofs.Yticgpiipikneiaa
