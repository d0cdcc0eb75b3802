/- The contracts of the functions of 'keep' and of their references, second part. -/
import Derived.Test.YticgpiipikneiaaKb
set_option linter.unusedSimpArgs false
set_option linter.unusedVariables false
namespace Go.Proofs.Yticgpiipikneiaa
open Go.ChangeShapes Go.WideShapes Go.RowKit Go.Mor

set_option maxHeartbeats 400000 in
theorem refDelete_any (cs ks : Array Value) (created event period now : Int) (fired ev : Bool) (ha : Option Addr) (hl hc : Nat) (w : World)
    (hs : isSz cs 39 = true) (gs : isSz ks 4 = true)
    (h1 : cs[33]? = some (.int .i64 created)) (h2 : cs[34]? = some (.bool fired)) (h3 : cs[35]? = some (.int .i64 event)) (h4 : cs[36]? = some (.slice ha hl hc))
    (g1 : ks[1]? = some (.int .i64 period)) (g2 : ks[2]? = some (.bool ev))
    (b1 : 0 ≤ created) (b2 : created ≤ 1099511627776) (b3 : 0 ≤ event) (b4 : event ≤ 1099511627776) (b5 : 0 ≤ period) (b6 : period ≤ 1099511627776) :
    Calls Try.prog 33 #[.agg cs, .agg ks, .int .i64 now] w fun e w' => e = .returned (.int .i64 (delN hl created event period now fired ev)) ∧ Below w.heap.size w w' := by
  have hB : Below w.heap.size w ((w.alloc (Obj.cells cs 59)).alloc (Obj.cells ks 61)) := ((Below.refl _ _).alloc (Nat.le_refl _) _).alloc (by simp) _
  by_cases hh : 0 < hl
  · have hd : delN hl created event period now fired ev = 11 := by simp [delN, hh]
    rw [hd]
    go_enter Try.func33, Try.ntmps33
    go_wp2
    go_ret
    exact ⟨rfl, hB⟩
  · obtain rfl : hl = 0 := by omega
    by_cases hk : untilN created event period fired ev < 0
    · have hd : delN 0 created event period now fired ev = 12 := by simp [delN, hk]
      rw [hd]; clear hd
      go_enter Try.func33, Try.ntmps33
      go_wp2_with (go_at_call 31; refine (refUntil_any _ _ created event period fired ev _ h1 h2 h3 g1 g2 b1 b2 b3 b4 b5 b6).mono ?_; rintro e w' ⟨rfl, hb⟩; obtain ⟨d, bs, rfl⟩ := ext_of_below hb)
      go_ret
      exact ⟨rfl, below_ext' hB (by simp; omega) _ _⟩
    · by_cases hn : now < untilN created event period fired ev
      · have hd : delN 0 created event period now fired ev = 12 := by simp [delN, hn]
        rw [hd]; clear hd
        go_enter Try.func33, Try.ntmps33
        go_wp2_with (go_at_call 31; refine (refUntil_any _ _ created event period fired ev _ h1 h2 h3 g1 g2 b1 b2 b3 b4 b5 b6).mono ?_; rintro e w' ⟨rfl, hb⟩; obtain ⟨d, bs, rfl⟩ := ext_of_below hb)
        go_ret
        exact ⟨rfl, below_ext' hB (by simp; omega) _ _⟩
      · have hd : delN 0 created event period now fired ev = 0 := by simp [delN]; omega
        rw [hd]; clear hd
        go_enter Try.func33, Try.ntmps33
        go_wp2_with (go_at_call 31; refine (refUntil_any _ _ created event period fired ev _ h1 h2 h3 g1 g2 b1 b2 b3 b4 b5 b6).mono ?_; rintro e w' ⟨rfl, hb⟩; obtain ⟨d, bs, rfl⟩ := ext_of_below hb)
        go_ret
        exact ⟨rfl, below_ext' hB (by simp; omega) _ _⟩

def privN (hl : Nat) (pr : Bool) : Int := if pr then (if 0 < hl then 11 else 0) else 13
theorem priv_any (cs ks : Array Value) (pr : Bool) (ha : Option Addr) (hl hc : Nat) (w : World)
    (h4 : cs[36]? = some (.slice ha hl hc)) (g3 : ks[3]? = some (.bool pr)) :
    Calls Try.prog 34 #[.agg cs, .agg ks] w fun e w' => e = .returned (.int .i64 (privN hl pr)) ∧ Below w.heap.size w w' := by
  have hB : Below w.heap.size w ((w.alloc (Obj.cells cs 59)).alloc (Obj.cells ks 61)) := ((Below.refl _ _).alloc (Nat.le_refl _) _).alloc (by simp) _
  cases pr
  · have hd : privN hl false = 13 := by simp [privN]
    rw [hd]; clear hd
    go_enter Try.func34, Try.ntmps34
    go_wp2
    go_ret
    exact ⟨rfl, hB⟩
  · by_cases hh : 0 < hl
    · have hd : privN hl true = 11 := by simp [privN, hh]
      rw [hd]; clear hd
      go_enter Try.func34, Try.ntmps34
      go_wp2
      go_ret
      exact ⟨rfl, hB⟩
    · have hd : privN hl true = 0 := by simp [privN, hh]
      rw [hd]; clear hd
      go_enter Try.func34, Try.ntmps34
      go_wp2
      go_ret
      exact ⟨rfl, hB⟩
theorem refPriv_any (cs ks : Array Value) (pr : Bool) (ha : Option Addr) (hl hc : Nat) (w : World)
    (h4 : cs[36]? = some (.slice ha hl hc)) (g3 : ks[3]? = some (.bool pr)) :
    Calls Try.prog 35 #[.agg cs, .agg ks] w fun e w' => e = .returned (.int .i64 (privN hl pr)) ∧ Below w.heap.size w w' := by
  have hB : Below w.heap.size w ((w.alloc (Obj.cells cs 59)).alloc (Obj.cells ks 61)) := ((Below.refl _ _).alloc (Nat.le_refl _) _).alloc (by simp) _
  cases pr
  · have hd : privN hl false = 13 := by simp [privN]
    rw [hd]; clear hd
    go_enter Try.func35, Try.ntmps35
    go_wp2
    go_ret
    exact ⟨rfl, hB⟩
  · by_cases hh : 0 < hl
    · have hd : privN hl true = 11 := by simp [privN, hh]
      rw [hd]; clear hd
      go_enter Try.func35, Try.ntmps35
      go_wp2
      go_ret
      exact ⟨rfl, hB⟩
    · have hd : privN hl true = 0 := by simp [privN, hh]
      rw [hd]; clear hd
      go_enter Try.func35, Try.ntmps35
      go_wp2
      go_ret
      exact ⟨rfl, hB⟩

def leftN (created event period now : Int) (fired ev : Bool) : Int := if untilB fired ev then max (untilN created event period fired ev - now) 0 else -1
set_option maxHeartbeats 400000 in
theorem left_any (cs ks : Array Value) (created event period now : Int) (fired ev : Bool) (ha : Option Addr) (hl hc : Nat) (w : World)
    (hs : isSz cs 39 = true) (gs : isSz ks 4 = true)
    (h1 : cs[33]? = some (.int .i64 created)) (h2 : cs[34]? = some (.bool fired)) (h3 : cs[35]? = some (.int .i64 event)) (h4 : cs[36]? = some (.slice ha hl hc))
    (g1 : ks[1]? = some (.int .i64 period)) (g2 : ks[2]? = some (.bool ev))
    (b1 : 0 ≤ created) (b2 : created ≤ 1099511627776) (b3 : 0 ≤ event) (b4 : event ≤ 1099511627776) (b5 : 0 ≤ period) (b6 : period ≤ 1099511627776) (b7 : 0 ≤ now) (b8 : now ≤ 1099511627776) :
    Calls Try.prog 36 #[.agg cs, .agg ks, .int .i64 now] w fun e w' => e = .returned (.int .i64 (leftN created event period now fired ev)) ∧ Below w.heap.size w w' := by
  have hB : Below w.heap.size w ((w.alloc (Obj.cells cs 59)).alloc (Obj.cells ks 61)) := ((Below.refl _ _).alloc (Nat.le_refl _) _).alloc (by simp) _
  by_cases hk : untilB fired ev = true
  · have hp := untilN_pos (created := created) (event := event) (period := period) b1 b3 b5 hk
    have hq : untilN created event period fired ev ≤ 2199023255552 := by cases fired <;> cases ev <;> simp_all [untilN, untilB] <;> omega
    have hd : leftN created event period now fired ev = max (untilN created event period fired ev - now) 0 := by simp [leftN, hk]
    rw [hd]; clear hd
    go_enter Try.func36, Try.ntmps36
    go_wp2_with (go_at_call 30; refine (until_yes _ _ created event period fired ev _ h1 h2 h3 g1 g2 b1 b2 b3 b4 b5 b6 hk).mono ?_; rintro e w' ⟨rfl, hb⟩; obtain ⟨d, bs, rfl⟩ := ext_of_below hb)
    all_goals
      go_ret
      refine ⟨ret_i ?_, below_ext' hB (by simp; omega) _ _⟩
      omega
  · have hk : untilB fired ev = false := by simpa using hk
    have hd : leftN created event period now fired ev = -1 := by simp [leftN, hk]
    rw [hd]; clear hd
    go_enter Try.func36, Try.ntmps36
    go_wp2_with (go_at_call 30; refine (until_no _ _ created event period fired ev _ h1 h2 h3 g1 g2 b1 b2 b3 b4 b5 b6 hk).mono ?_; rintro e w' ⟨rfl, hb⟩; obtain ⟨d, bs, rfl⟩ := ext_of_below hb)
    go_ret
    exact ⟨rfl, below_ext' hB (by simp; omega) _ _⟩
end Go.Proofs.Yticgpiipikneiaa
