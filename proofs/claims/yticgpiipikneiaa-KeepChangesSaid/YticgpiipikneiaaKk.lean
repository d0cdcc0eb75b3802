/- The contract of the reference's Same, at clips that are the same. -/
import Derived.Test.YticgpiipikneiaaKj
import Derived.Test.YticgpiipikneiaaBaseD
set_option linter.unusedSimpArgs false
set_option linter.unusedVariables false
namespace Go.Proofs.Yticgpiipikneiaa
open Go.ChangeShapes Go.WideShapes Go.RowKit Go.Mor

@[go_sem ↓] theorem load56 (ev : Operand → Value) (w : World) (x : Operand) (d : Option Tmp) (t : TypeId) (pos : String) (af : Array Edge) (gd : Option (Nat × Bool))
    (h1 : isHead (ev x) = true) (h2 : isRow w (blk (ev x)) 39 = true) :
    (execOp ev (Oper.mk d (.load 56 x) t pos af gd)).run Try.prog w = .ok (.value (.agg ((rowOf w (blk (ev x))).extract 0 32))) w :=
  exec_load_head w ev 56 32 39 (by decide) _ Try.underlying56 rfl (by kernel_rfl) x d t pos af gd h1 h2
@[go_sem] theorem extract_set36 (cs : Array Value) (v : Value) : (cs.setIfInBounds 36 v).extract 0 32 = cs.extract 0 32 := extract_set cs 36 32 v (by decide)
@[go_sem] theorem eq56 (w : World) (xs bs : List Int) (ha : (xs.length == 32) = true) (hb : (bs.length == 32) = true) :
    (Op.equalIn 10000 56 (.agg (ints .u8 xs)) (.agg (ints .u8 bs))).run Try.prog w = .ok (xs == bs) w :=
  run_equalIn_ints w 9998 56 5 .u8 32 xs bs Try.underlying56 Try.underlying5 (by kernel_rfl) (by simpa using ha) (by simpa using hb)

def intsAt (w : World) (A : Option Addr) (z : List Int) : Prop := z = [] ∨ ∃ b off, A = some ⟨b, off, none⟩ ∧ b < w.heap.size ∧ ∀ j x, z[j]? = some x → w.cell? ⟨b, off + j, none⟩ = some (.int .i64 x)

set_option maxRecDepth 100000 in
set_option maxHeartbeats 2000000 in
theorem same_yes (cs : Array Value) (A1 A2 : Option Addr) (k c1 c2 : Nat) (l : List ByteArray) (addr : List Int) (cls created event : Int) (fired : Bool) (note : ByteArray) (ta : Option Addr) (tl tc : Nat) (z : List Int) (w : World)
    (hsz : isSz cs 39 = true) (hx : cs.extract 0 32 = ints .u8 addr) (hal : (addr.length == 32) = true)
    (h32 : cs[32]? = some (.int .i64 cls)) (h33 : cs[33]? = some (.int .i64 created)) (h34 : cs[34]? = some (.bool fired)) (h35 : cs[35]? = some (.int .i64 event)) (h37 : cs[37]? = some (.string note)) (h38 : cs[38]? = some (.slice ta tl tc))
    (hk : k = l.length) (hk2 : k ≤ 1000) (hr1 : Rd w A1 (strV l)) (hr2 : Rd w A2 (strV l)) (hz : tl = z.length) (hz2 : tl ≤ 1000) (hr3 : intsAt w ta z) :
    Calls Try.prog 43 #[.agg (cs.setIfInBounds 36 (.slice A1 k c1)), .agg (cs.setIfInBounds 36 (.slice A2 k c2))] w fun e w' => e = .returned (.bool true) ∧ Below w.heap.size w w' := by
  have H1 := hid (Strs.of_rd hr1)
  have H2 := hid (Strs.of_rd hr2)
  have H3 := hid hr3
  have HK := hid hk
  have HZ := hid hz
  clear hr1 hr2 hr3 hk hz
  go_enter Try.func43, Try.ntmps43
  go_wp2
  go_loopw [5] (fun t wr => ∃ i n : Nat, i ≤ k ∧ t = .int .i64 i ∧ wr = ((w.alloc (Obj.cells (cs.setIfInBounds 36 (.slice A1 k c1)) 59)).alloc (Obj.cells (cs.setIfInBounds 36 (.slice A2 k c2)) 59)).drewN n) (fun t _ => k - (intOf t).toNat)
  case atStart => exact ⟨0, 0, Nat.zero_le _, rfl, rfl⟩
  case round =>
    obtain ⟨i, n, hi, rfl, rfl⟩ := hrel
    by_cases hlt : i < k
    · obtain ⟨x, hxx⟩ : ∃ x, l[i]? = some x := ⟨_, List.getElem?_eq_getElem (by have := HK.out; omega)⟩
      obtain ⟨b1, o1, rfl, hb1, hc1⟩ : ∃ b off, A1 = some ⟨b, off, none⟩ ∧ within b w = true ∧ w.cell? ⟨b, off + i, none⟩ = some (.string x) := by
        rcases H1.out with h | ⟨b, off, h1, h2, h3⟩
        · subst h; simp at hxx
        · exact ⟨b, off, h1, within_of h2, h3 i _ hxx⟩
      obtain ⟨b2, o2, rfl, hb2, hc2⟩ : ∃ b off, A2 = some ⟨b, off, none⟩ ∧ within b w = true ∧ w.cell? ⟨b, off + i, none⟩ = some (.string x) := by
        rcases H2.out with h | ⟨b, off, h1, h2, h3⟩
        · subst h; simp at hxx
        · exact ⟨b, off, h1, within_of h2, h3 i _ hxx⟩
      have hi0 : (0 : Int) ≤ (i : Int) := by omega
      have hi1 : (i : Int) < (k : Int) := by omega
      clear hxx
      go_wp2
      go_quiet (fail)
      go_wp2
      go_roundw
      case rel => exact ⟨i + 1, _, by omega, by go_num, rfl⟩
      case measure => simp [intOf]; omega
    · go_wp2
      obtain ⟨W1, hW1⟩ : ∃ W1, W1 = ((w.alloc (Obj.cells (cs.setIfInBounds 36 (.slice A1 k c1)) 59)).alloc (Obj.cells (cs.setIfInBounds 36 (.slice A2 k c2)) 59)).drewN n := ⟨_, rfl⟩
      go_loopw [6] (fun t wr => ∃ i m : Nat, i ≤ tl ∧ t = .int .i64 i ∧ wr = ((w.alloc (Obj.cells (cs.setIfInBounds 36 (.slice A1 k c1)) 59)).alloc (Obj.cells (cs.setIfInBounds 36 (.slice A2 k c2)) 59)).drewN m) (fun t _ => tl - (intOf t).toNat)
      case atStart => exact ⟨0, n, Nat.zero_le _, rfl, rfl⟩
      case round =>
        clear hW1 W1
        obtain ⟨j, m, hj, rfl, rfl⟩ := hrel
        by_cases hlt2 : j < tl
        · obtain ⟨x, hxx⟩ : ∃ x, z[j]? = some x := ⟨_, List.getElem?_eq_getElem (by have := HZ.out; omega)⟩
          obtain ⟨b1, o1, rfl, hb1, hc1⟩ : ∃ b off, ta = some ⟨b, off, none⟩ ∧ within b w = true ∧ w.cell? ⟨b, off + j, none⟩ = some (.int .i64 x) := by
            rcases H3.out with h | ⟨b, off, h1, h2, h3⟩
            · subst h; simp at hxx
            · exact ⟨b, off, h1, within_of h2, h3 j _ hxx⟩
          have hi0 : (0 : Int) ≤ (j : Int) := by omega
          have hi1 : (j : Int) < (tl : Int) := by omega
          clear hxx
          go_wp2
          go_quiet (fail)
          go_wp2
          go_roundw
          case rel => exact ⟨j + 1, _, by omega, by go_num, rfl⟩
          case measure => simp [intOf]; omega
        · go_wp2
          go_ret
          refine ⟨rfl, ?_⟩
          exact (((Below.refl _ _).alloc (Nat.le_refl _) _).alloc (by simp) _).trans ⟨rfl, rfl, rfl, Nat.le_refl _, fun _ _ => rfl⟩
end Go.Proofs.Yticgpiipikneiaa
