/- The contract of keep.Release; those of keep.Fire. -/
import Derived.Test.YticgpiipikneiaaKg
set_option linter.unusedSimpArgs false
set_option linter.unusedVariables false
namespace Go.Proofs.Yticgpiipikneiaa
open Go.ChangeShapes Go.WideShapes Go.RowKit Go.Mor

theorem findFrom_range (s : ByteArray) : ∀ (l : List ByteArray) (k : Nat), findFrom l s k = -1 ∨ ∃ j, j < l.length ∧ findFrom l s k = ((k + j : Nat) : Int)
  | [], _ => .inl rfl
  | x :: r, k => by
    unfold findFrom
    split
    · exact .inr ⟨0, by simp, by simp⟩
    · rcases findFrom_range s r (k + 1) with h | ⟨j, hj, h⟩
      · exact .inl h
      · exact .inr ⟨j + 1, by simp; omega, by rw [h]; congr 1; omega⟩
theorem findN_range (l : List ByteArray) (s : ByteArray) : findN l s = -1 ∨ ∃ j, j < l.length ∧ findN l s = (j : Int) := by
  have := findFrom_range s l 0
  simpa [findN] using this

theorem index_yes (A : Option Addr) (n c : Nat) (l : List ByteArray) (s : ByteArray) (w : World) (k : Nat) (hl : l.length = n) (hm : n ≤ maxLen) (hs : Strs w A l) (hk : findN l s = (k : Int)) :
    Calls Try.prog 66 #[.slice A n c, .string s] w fun e w' => e = .returned (.int .i64 (k : Int)) ∧ w = w' := by
  rw [← hk]; exact index_any A n c l s w hl hm hs
theorem index_no (A : Option Addr) (n c : Nat) (l : List ByteArray) (s : ByteArray) (w : World) (hl : l.length = n) (hm : n ≤ maxLen) (hs : Strs w A l) (hk : findN l s = -1) :
    Calls Try.prog 66 #[.slice A n c, .string s] w fun e w' => e = .returned (.int .i64 (-1)) ∧ w = w' := by
  rw [← hk]; exact index_any A n c l s w hl hm hs

def relN (l : List ByteArray) (s : ByteArray) : Int := if findN l s < 0 then 8 else 0
def relL (l : List ByteArray) (s : ByteArray) : List ByteArray := if findN l s < 0 then l else l.eraseIdx (findN l s).toNat

set_option maxRecDepth 100000 in
set_option maxHeartbeats 1000000 in
theorem release_any (cs : Array Value) (s : ByteArray) (ha : Option Addr) (n c : Nat) (l : List ByteArray) (w : World)
    (hsz : isSz cs 39 = true) (hone : ones cs = true) (h36 : cs[36]? = some (.slice ha n c)) (hl : l.length = n) (hm : n ≤ 30) (hs : Rd w ha (strV l)) (hA : ha = none → n = 0) :
    Calls Try.prog 41 #[.agg cs, .string s] w (ClipPost cs (relN l s) (relL l s) w) := by
  have hB : Below w.heap.size w ((w.alloc (Obj.cells cs 59)).alloc (Obj.cells cs 59)) := ((Below.refl _ _).alloc (Nat.le_refl _) _).alloc (by simp) _
  rcases findN_range l s with hf | ⟨k, hk, hf⟩
  · have e1 : relN l s = 8 := by simp [relN, hf]
    have e2 : relL l s = l := by simp [relL, hf]
    have Hb : Hid (ClipPost cs 8 l w (.returned (.tuple #[.agg cs, .int .i64 8])) ((w.alloc (Obj.cells cs 59)).alloc (Obj.cells cs 59))) :=
      ⟨ha, n, c, by rw [set_self h36], hB, hl.symm, hs.keep (Below.mono hB (by simp)), hA⟩
    rw [e1, e2]
    have HS := hid hs
    have HF := hid hf
    clear e1 e2 hs hA hf
    go_enter Try.func41, Try.ntmps41
    go_wp2_with (go_at_call 66; refine (index_no _ _ _ l _ _ hl (by unfold maxLen; omega) (Strs.of_rd ((HS.out.alloc _).alloc _)) HF.out).mono ?_; rintro e w' ⟨rfl, rfl⟩)
    refine ret_row2 rfl _ 39 _ rfl Try.underlying59 rfl (by kernel_rfl) ?_ rfl ?_
    · simp [go_sem, hsz]
    · simpa [go_sem] using Hb.out
  · have e1 : relN l s = 0 := by simp [relN, hf]
    have e2 : relL l s = l.eraseIdx k := by simp [relL, hf]; omega
    rw [e1, e2]
    have HS := hid hs
    have HA := hid hA
    have HF := hid hf
    have hk0 : (0 : Int) ≤ (k : Int) := by omega
    have hk1 : (k : Int) < 100 := by omega
    clear e1 e2 hs hA hf
    go_enter Try.func41, Try.ntmps41
    go_wp2_with (first | (go_at_call 66; refine (index_yes _ _ _ l _ _ k hl (by unfold maxLen; omega) (Strs.of_rd ((HS.out.alloc _).alloc _)) HF.out).mono ?_; rintro e w' ⟨rfl, rfl⟩) | (go_at_call 63; refine (clone_any _ _ _ l _ hl (by omega) ((HS.out.alloc _).alloc _) HA.out).mono ?_; rintro e w' ⟨A1, c1, rfl, hb1, hown⟩; obtain ⟨d1, bs1, rfl⟩ := ext_of_below hb1; have HO := hid hown; clear hown hb1))
    have hform : ∃ g, A1 = some ⟨g, 0, none⟩ ∧ ((w.alloc (Obj.cells cs 59)).alloc (Obj.cells zero59 59)).heap.size ≤ g ∧ c1 ≤ maxLen := by
      rcases HO.out.2 with ⟨_, h⟩ | ⟨g, cap, cur, hv, hg, _, _, hcm, _⟩
      · omega
      · injection hv with h1 h2 h3
        subst h3
        exact ⟨g, h1, hg, hcm⟩
    obtain ⟨g, rfl, hg, hcm⟩ := hform
    refine (delete1_any g n c1 k l _ _ hl (by omega) hcm hg HO.out).mono ?_
    rintro e w' ⟨rfl, hb2, hrd⟩
    obtain ⟨d2, bs2, rfl⟩ := ext_of_below' hb2
    have HR := hid hrd
    have hone2 := ones_set cs 36 (.slice (some ⟨g, 0, none⟩) (n - 1) c1) hone rfl
    have HG := hid hg
    clear hrd hb2 hg hcm HO
    go_wp2
    refine ret_row2 rfl _ 39 _ rfl Try.underlying59 rfl (by kernel_rfl) ?_ rfl ?_
    · simp [go_sem, hsz]
    · refine ⟨_, n - 1, c1, by simp [go_sem]; rfl, ?_, ?_, ?_, fun h => by cases h⟩
      · exact below_ext' (((Below.refl _ _).alloc (Nat.le_refl _) _).alloc (by simp) _) (by simp; omega) _ _
      · rw [List.length_eraseIdx, if_pos (by omega)]; omega
      · exact rd_ext HR.out HG.out (by simp) _

def fireN (ev fired : Bool) : Int := if ev then (if fired then 9 else 0) else 13
def fireC (cs : Array Value) (ev fired : Bool) (now : Int) : Array Value := if ev && !fired then (cs.setIfInBounds 34 (.bool true)).setIfInBounds 35 (.int .i64 now) else cs
def FirePost (cs : Array Value) (ev fired : Bool) (now : Int) (w : World) (e : Ending) (w' : World) : Prop :=
  e = .returned (.tuple #[.agg (fireC cs ev fired now), .int .i64 (fireN ev fired)]) ∧ Below w.heap.size w w'

set_option maxRecDepth 100000 in
set_option maxHeartbeats 1000000 in
theorem fire_any (cs ks : Array Value) (fired ev : Bool) (now : Int) (w : World)
    (hsz : isSz cs 39 = true) (hone : ones cs = true) (gsz : isSz ks 4 = true) (h34 : cs[34]? = some (.bool fired)) (event : Int) (h35 : cs[35]? = some (.int .i64 event)) (g2 : ks[2]? = some (.bool ev)) :
    Calls Try.prog 37 #[.agg cs, .agg ks, .int .i64 now] w (FirePost cs ev fired now w) := by
  have hone1 := ones_set (cs.setIfInBounds 34 (.bool true)) 35 (.int .i64 now) (ones_set cs 34 (.bool true) hone rfl) rfl
  cases ev <;> cases fired
  all_goals
    go_enter Try.func37, Try.ntmps37
    go_wp2
    refine ret_row2 rfl _ 39 _ rfl Try.underlying59 rfl (by kernel_rfl) ?_ rfl ?_
    · simp [go_sem, hsz]
    · refine ⟨by simp [go_sem, fireC, fireN], ?_⟩
      exact (((Below.refl _ _).alloc (Nat.le_refl _) _).alloc (by simp) _).alloc (by simp; omega) _

set_option maxRecDepth 100000 in
set_option maxHeartbeats 1000000 in
theorem refFire_any (cs ks : Array Value) (fired ev : Bool) (now : Int) (w : World)
    (hsz : isSz cs 39 = true) (hone : ones cs = true) (gsz : isSz ks 4 = true) (h34 : cs[34]? = some (.bool fired)) (event : Int) (h35 : cs[35]? = some (.int .i64 event)) (g2 : ks[2]? = some (.bool ev)) :
    Calls Try.prog 38 #[.agg cs, .agg ks, .int .i64 now] w (FirePost cs ev fired now w) := by
  have hone1 := ones_set (cs.setIfInBounds 34 (.bool true)) 35 (.int .i64 now) (ones_set cs 34 (.bool true) hone rfl) rfl
  cases ev <;> cases fired
  all_goals
    go_enter Try.func38, Try.ntmps38
    go_wp2
    refine ret_row2 rfl _ 39 _ rfl Try.underlying59 rfl (by kernel_rfl) ?_ rfl ?_
    · simp [go_sem, hsz]
    · refine ⟨by simp [go_sem, fireC, fireN], ?_⟩
      first
        | exact (((Below.refl _ _).alloc (Nat.le_refl _) _).alloc (by simp) _).alloc (by simp; omega) _
        | exact ((((Below.refl _ _).alloc (Nat.le_refl _) _).alloc (by simp) _).alloc (by simp; omega) _).alloc (by simp; omega) _
end Go.Proofs.Yticgpiipikneiaa
