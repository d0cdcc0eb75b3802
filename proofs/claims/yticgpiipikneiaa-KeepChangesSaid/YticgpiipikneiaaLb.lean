/- 'light' once more, with its bounds on the lists; plain facts on when a clip may go. -/
import Derived.Test.YticgpiipikneiaaKl
import Derived.Test.YticgpiipikneiaaRa
set_option linter.unusedSimpArgs false
set_option linter.unusedVariables false
namespace Go.Proofs.Yticgpiipikneiaa
open Go.ChangeShapes Go.WideShapes Go.RowKit Go.Mor

def LightPost2 (created event period now : Int) (hl tl : Nat) (w : World) (e : Ending) (w' : World) : Prop := ∃ b : Bool, e = .returned (.bool b) ∧ Below w.heap.size w w' ∧ (b = true → 0 ≤ created ∧ created ≤ 1099511627776 ∧ 0 ≤ event ∧ event ≤ 1099511627776 ∧ 0 ≤ period ∧ period ≤ 1099511627776 ∧ 0 ≤ now ∧ now ≤ 1099511627776 ∧ hl ≤ 30 ∧ tl ≤ 30)
set_option maxHeartbeats 1000000 in
theorem light2_any (cs ks : Array Value) (created event period now : Int) (ha ta : Option Addr) (hl hc tl tc : Nat) (note : ByteArray) (w : World)
    (h1 : cs[33]? = some (.int .i64 created)) (h3 : cs[35]? = some (.int .i64 event)) (h4 : cs[36]? = some (.slice ha hl hc)) (h5 : cs[37]? = some (.string note)) (h6 : cs[38]? = some (.slice ta tl tc))
    (g1 : ks[1]? = some (.int .i64 period)) :
    Calls Try.prog 28 #[.agg cs, .agg ks, .int .i64 now] w (LightPost2 created event period now hl tl w) := by
  have hB : Below w.heap.size w ((w.alloc (Obj.cells cs 59)).alloc (Obj.cells ks 61)) := ((Below.refl _ _).alloc (Nat.le_refl _) _).alloc (by simp) _
  go_enter Try.func28, Try.ntmps28
  go_wp2
  all_goals
    go_ret
    refine ⟨_, rfl, hB, fun hh => ?_⟩
    first | (simp at hh; done) | (simp at hh; omega) | omega

theorem delN_later {hl : Nat} {created event period now later : Int} {fired ev : Bool} (h : now ≤ later) (h0 : delN hl created event period now fired ev = 0) : delN hl created event period later fired ev = 0 := by
  unfold delN at *
  split at h0
  · cases h0
  · split at h0
    · cases h0
    · rename_i h1 h2
      rw [if_neg h1, if_neg (by omega)]
theorem delN_longer {hl : Nat} {created event period longer now : Int} {fired ev : Bool} (h : period ≤ longer) (b1 : 0 ≤ created) (b3 : 0 ≤ event) (b5 : 0 ≤ period) (h0 : delN hl created event longer now fired ev = 0) : delN hl created event period now fired ev = 0 := by
  unfold delN at *
  split at h0
  · cases h0
  · split at h0
    · cases h0
    · rename_i h1 h2
      rw [if_neg h1, if_neg]
      cases ev <;> cases fired <;> simp [untilN] at * <;> omega
theorem delN_held {hl : Nat} {created event period now : Int} {fired ev : Bool} (h : 0 < hl) : delN hl created event period now fired ev = 11 := by simp [delN, h]
theorem delN_event {hl : Nat} {created event period now : Int} : delN hl created event period now false true ≠ 0 := by
  unfold delN; split <;> simp [untilN]
theorem privN_held {hl : Nat} {pr : Bool} (h : 0 < hl) : privN hl pr ≠ 0 := by cases pr <;> simp [privN, h]

theorem hold_yes (cs : Array Value) (s : ByteArray) (ha : Option Addr) (n c : Nat) (l : List ByteArray) (w : World)
    (hsz : isSz cs 39 = true) (hone : ones cs = true) (h36 : cs[36]? = some (.slice ha n c)) (hl : l.length = n) (hm : n ≤ 30) (hs : Rd w ha (strV l)) (hA : ha = none → n = 0) (h0 : holdN l s = 0) :
    Calls Try.prog 39 #[.agg cs, .string s] w fun e w' => ∃ A k c, e = .returned (.tuple #[.agg (cs.setIfInBounds 36 (.slice A k c)), .int .i64 0]) ∧ 0 < k ∧ ∃ d bs, w' = ext w d bs := by
  refine (hold_any cs s ha n c l w hsz hone h36 hl hm hs hA).mono ?_
  rintro e w' ⟨A, k, c, rfl, hb, hk, hr, hA⟩
  obtain ⟨d, bs, rfl⟩ := ext_of_below hb
  rw [h0]
  refine ⟨A, k, c, rfl, ?_, d, bs, rfl⟩
  simp [hk, holdL, h0]
theorem hold_no (cs : Array Value) (s : ByteArray) (ha : Option Addr) (n c : Nat) (l : List ByteArray) (w : World)
    (hsz : isSz cs 39 = true) (hone : ones cs = true) (h36 : cs[36]? = some (.slice ha n c)) (hl : l.length = n) (hm : n ≤ 30) (hs : Rd w ha (strV l)) (hA : ha = none → n = 0) :
    Calls Try.prog 39 #[.agg cs, .string s] w fun e w' => ∃ A k c, e = .returned (.tuple #[.agg (cs.setIfInBounds 36 (.slice A k c)), .int .i64 (holdN l s)]) ∧ ∃ d bs, w' = ext w d bs := by
  refine (hold_any cs s ha n c l w hsz hone h36 hl hm hs hA).mono ?_
  rintro e w' ⟨A, k, c, rfl, hb, hk, hr, hA⟩
  obtain ⟨d, bs, rfl⟩ := ext_of_below hb
  exact ⟨A, k, c, rfl, d, bs, rfl⟩
theorem delete_ext (cs ks : Array Value) (created event period now : Int) (fired ev : Bool) (ha : Option Addr) (hl hc : Nat) (w : World)
    (hs : isSz cs 39 = true) (gs : isSz ks 4 = true)
    (h1 : cs[33]? = some (.int .i64 created)) (h2 : cs[34]? = some (.bool fired)) (h3 : cs[35]? = some (.int .i64 event)) (h4 : cs[36]? = some (.slice ha hl hc))
    (g1 : ks[1]? = some (.int .i64 period)) (g2 : ks[2]? = some (.bool ev))
    (b1 : 0 ≤ created) (b2 : created ≤ 1099511627776) (b3 : 0 ≤ event) (b4 : event ≤ 1099511627776) (b5 : 0 ≤ period) (b6 : period ≤ 1099511627776) (k : Int) (hk : delN hl created event period now fired ev = k) :
    Calls Try.prog 32 #[.agg cs, .agg ks, .int .i64 now] w fun e w' => e = .returned (.int .i64 k) ∧ ∃ d bs, w' = ext w d bs := by
  rw [← hk]
  refine (delete_any cs ks created event period now fired ev ha hl hc w hs gs h1 h2 h3 h4 g1 g2 b1 b2 b3 b4 b5 b6).mono ?_
  rintro e w' ⟨rfl, hb⟩
  obtain ⟨d, bs, rfl⟩ := ext_of_below hb
  exact ⟨rfl, d, bs, rfl⟩
theorem priv_ext (cs ks : Array Value) (pr : Bool) (ha : Option Addr) (hl hc : Nat) (w : World)
    (h4 : cs[36]? = some (.slice ha hl hc)) (g3 : ks[3]? = some (.bool pr)) (k : Int) (hk : privN hl pr = k) :
    Calls Try.prog 34 #[.agg cs, .agg ks] w fun e w' => e = .returned (.int .i64 k) ∧ ∃ d bs, w' = ext w d bs := by
  rw [← hk]
  refine (priv_any cs ks pr ha hl hc w h4 g3).mono ?_
  rintro e w' ⟨rfl, hb⟩
  obtain ⟨d, bs, rfl⟩ := ext_of_below hb
  exact ⟨rfl, d, bs, rfl⟩
end Go.Proofs.Yticgpiipikneiaa
