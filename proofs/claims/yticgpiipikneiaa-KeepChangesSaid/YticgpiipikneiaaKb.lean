import Derived.Test.YticgpiipikneiaaKa
set_option linter.unusedSimpArgs false
set_option linter.unusedVariables false
namespace Go.Proofs.Yticgpiipikneiaa
open Go.ChangeShapes Go.WideShapes Go.RowKit Go.Mor

theorem until_yes (cs ks : Array Value) (created event period : Int) (fired ev : Bool) (w : World)
    (h1 : cs[33]? = some (.int .i64 created)) (h2 : cs[34]? = some (.bool fired)) (h3 : cs[35]? = some (.int .i64 event))
    (g1 : ks[1]? = some (.int .i64 period)) (g2 : ks[2]? = some (.bool ev))
    (b1 : 0 ≤ created) (b2 : created ≤ 1099511627776) (b3 : 0 ≤ event) (b4 : event ≤ 1099511627776) (b5 : 0 ≤ period) (b6 : period ≤ 1099511627776) (hk : untilB fired ev = true) :
    Calls Try.prog 30 #[.agg cs, .agg ks] w fun e w' => e = .returned (.tuple #[.int .i64 (untilN created event period fired ev), .bool true]) ∧ Below w.heap.size w w' := by
  have := until_any cs ks created event period fired ev w h1 h2 h3 g1 g2 b1 b2 b3 b4 b5 b6
  simpa only [hk, if_true] using this
theorem until_no (cs ks : Array Value) (created event period : Int) (fired ev : Bool) (w : World)
    (h1 : cs[33]? = some (.int .i64 created)) (h2 : cs[34]? = some (.bool fired)) (h3 : cs[35]? = some (.int .i64 event))
    (g1 : ks[1]? = some (.int .i64 period)) (g2 : ks[2]? = some (.bool ev))
    (b1 : 0 ≤ created) (b2 : created ≤ 1099511627776) (b3 : 0 ≤ event) (b4 : event ≤ 1099511627776) (b5 : 0 ≤ period) (b6 : period ≤ 1099511627776) (hk : untilB fired ev = false) :
    Calls Try.prog 30 #[.agg cs, .agg ks] w fun e w' => e = .returned (.tuple #[.int .i64 0, .bool false]) ∧ Below w.heap.size w w' := by
  have := until_any cs ks created event period fired ev w h1 h2 h3 g1 g2 b1 b2 b3 b4 b5 b6
  simpa only [hk, if_false, Bool.false_eq_true] using this

theorem untilN_pos {created event period : Int} {fired ev : Bool} (b1 : 0 ≤ created) (b3 : 0 ≤ event) (b5 : 0 ≤ period) (hk : untilB fired ev = true) : 0 ≤ untilN created event period fired ev := by
  cases fired <;> cases ev <;> simp_all [untilN, untilB] <;> omega
theorem untilN_neg {created event period : Int} {fired ev : Bool} (hk : untilB fired ev = false) : untilN created event period fired ev = -1 := by
  cases fired <;> cases ev <;> simp_all [untilN, untilB]

set_option maxHeartbeats 400000 in
theorem delete_any (cs ks : Array Value) (created event period now : Int) (fired ev : Bool) (ha : Option Addr) (hl hc : Nat) (w : World)
    (hs : isSz cs 39 = true) (gs : isSz ks 4 = true)
    (h1 : cs[33]? = some (.int .i64 created)) (h2 : cs[34]? = some (.bool fired)) (h3 : cs[35]? = some (.int .i64 event)) (h4 : cs[36]? = some (.slice ha hl hc))
    (g1 : ks[1]? = some (.int .i64 period)) (g2 : ks[2]? = some (.bool ev))
    (b1 : 0 ≤ created) (b2 : created ≤ 1099511627776) (b3 : 0 ≤ event) (b4 : event ≤ 1099511627776) (b5 : 0 ≤ period) (b6 : period ≤ 1099511627776) :
    Calls Try.prog 32 #[.agg cs, .agg ks, .int .i64 now] w fun e w' => e = .returned (.int .i64 (delN hl created event period now fired ev)) ∧ Below w.heap.size w w' := by
  have hB : Below w.heap.size w ((w.alloc (Obj.cells cs 59)).alloc (Obj.cells ks 61)) := ((Below.refl _ _).alloc (Nat.le_refl _) _).alloc (by simp) _
  by_cases hh : 0 < hl
  · have hd : delN hl created event period now fired ev = 11 := by simp [delN, hh]
    rw [hd]
    go_enter Try.func32, Try.ntmps32
    go_wp2
    refine wp_scope_jumps 0 (fun a' w' => a' = { tmps := #[.agg cs, .agg ks, .int .i64 now, .pointer (some ⟨w.heap.size, 0, none⟩), .pointer (some ⟨w.heap.size + 1, 0, none⟩), undef, .int .i64 0, .int .i64 11, .int .i64 0, .bool false, .pointer (some ⟨w.heap.size, 36, none⟩), .slice ha hl hc, .int .i64 hl, .bool true, undef, undef, undef, undef, undef, undef, undef, undef, undef, undef, undef, undef, undef, undef], defers := [] } ∧ w' = (w.alloc (Obj.cells cs 59)).alloc (Obj.cells ks 61)) (fun _ _ => 0) rfl ?_ ?_
    · go_wp2
      go_step3
      go_wp2
      exact ⟨rfl, rfl, rfl⟩
    · rintro a' w' ⟨rfl, rfl⟩
      go_wp2
      simp only [Exit.jump]
      go_ret
      exact ⟨rfl, hB⟩
  · obtain rfl : hl = 0 := by omega
    by_cases hk : untilB fired ev = true
    · have hp := untilN_pos (created := created) (event := event) (period := period) b1 b3 b5 hk
      by_cases hn : now < untilN created event period fired ev
      · have hd : delN 0 created event period now fired ev = 12 := by simp [delN, hn]
        rw [hd]; clear hd
        go_enter Try.func32, Try.ntmps32
        go_wp2
        apply wp_scope_straight
        go_wp2_with (go_at_call 30; refine (until_yes _ _ created event period fired ev _ h1 h2 h3 g1 g2 b1 b2 b3 b4 b5 b6 hk).mono ?_; rintro e w' ⟨rfl, hb⟩; obtain ⟨d, bs, rfl⟩ := ext_of_below hb)
        go_step3
        go_wp2
        rw [Exit.noGoto_ret]
        go_ret
        exact ⟨rfl, below_ext' hB (by simp; omega) _ _⟩
      · have hd : delN 0 created event period now fired ev = 0 := by simp [delN]; omega
        rw [hd]; clear hd
        go_enter Try.func32, Try.ntmps32
        go_wp2
        apply wp_scope_straight
        go_wp2_with (go_at_call 30; refine (until_yes _ _ created event period fired ev _ h1 h2 h3 g1 g2 b1 b2 b3 b4 b5 b6 hk).mono ?_; rintro e w' ⟨rfl, hb⟩; obtain ⟨d, bs, rfl⟩ := ext_of_below hb)
        go_step3
        go_wp2
        rw [Exit.noGoto_ret]
        go_ret
        exact ⟨rfl, below_ext' hB (by simp; omega) _ _⟩
    · have hk : untilB fired ev = false := by simpa using hk
      have hd : delN 0 created event period now fired ev = 12 := by simp [delN, untilN_neg hk]
      rw [hd]; clear hd
      go_enter Try.func32, Try.ntmps32
      go_wp2
      apply wp_scope_straight
      go_wp2_with (go_at_call 30; refine (until_no _ _ created event period fired ev _ h1 h2 h3 g1 g2 b1 b2 b3 b4 b5 b6 hk).mono ?_; rintro e w' ⟨rfl, hb⟩; obtain ⟨d, bs, rfl⟩ := ext_of_below hb)
      go_step3
      go_wp2
      rw [Exit.noGoto_ret]
      go_ret
      exact ⟨rfl, below_ext' hB (by simp; omega) _ _⟩
end Go.Proofs.Yticgpiipikneiaa
