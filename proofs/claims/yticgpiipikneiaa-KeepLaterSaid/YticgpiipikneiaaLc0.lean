/- The law KeepLater where its guard turns the case away. -/
import Derived.Test.YticgpiipikneiaaLb
set_option linter.unusedSimpArgs false
set_option linter.unusedVariables false
namespace Go.Proofs.Yticgpiipikneiaa
open Go.ChangeShapes Go.WideShapes Go.RowKit Go.Mor

set_option maxRecDepth 100000 in
set_option maxHeartbeats 8000000 in
theorem keepLater_out (cs ks : Array Value) (cls created event period now later longer : Int) (name : ByteArray) (fired ev pr : Bool) (ha : Option Addr) (hl hc : Nat) (l : List ByteArray) (note : ByteArray) (ta : Option Addr) (tl tc : Nat) (z addr : List Int) (w : World)
    (hC : ClipIn w cs cls created event fired ha hl hc l note ta tl tc z addr) (hK : ClassIn ks period ev pr) (hg : (later < now ∨ 1099511627776 < later ∨ longer < period ∨ 1099511627776 < longer ∨ 100 < name.size)) :
    Calls Try.prog 7 #[.agg cs, .agg ks, .int .i64 now, .int .i64 later, .int .i64 longer, .string name] w fun e w' => e = .returned (.bool true) ∧ Below w.heap.size w w' := by
  obtain ⟨⟨hsz, hone, h32, h33, h34, h35, h36, h37, h38⟩, hx, hal, hll, hlm, hr, hA, hz, hzm, hr3⟩ := hC
  obtain ⟨gsz, gone, g1, g2, g3⟩ := hK
  have HR := hid hr
  have HA := hid hA
  have HLL := hid hll
  clear hx hal hll hlm hr hA hz hzm hr3
  go_enter Try.func7, Try.ntmps7
  go_wp2_with fail
  refine (light2_any cs ks created event period now ha ta hl hc tl tc note _ h33 h35 h36 h37 h38 g1).mono ?_
  rintro e w' ⟨b, rfl, hb, hbd⟩
  obtain ⟨d1, bs1, rfl⟩ := ext_of_below hb
  clear hb
  have works : ∀ w' : World, Calls Try.prog 29 #[] w' fun e w'' => e = .returned (.bool true) ∧ ∃ d bs, w'' = ext w' d bs := fun w' => (works_any w').mono fun e w'' ⟨h1, h2⟩ => by
    obtain ⟨d, bs, rfl⟩ := ext_of_below h2
    exact ⟨h1, d, bs, rfl⟩
  cases b with
  | false =>
    clear hbd
    go_wp2_with (go_at_call 29; refine (works _).mono ?_; rintro e w' ⟨rfl, d2, bs2, rfl⟩)
    go_ret
    refine ⟨rfl, ?_⟩
    with_reducible refine below_ext' (Below.alloc (Below.alloc (Below.refl _ _) ?_ _) ?_ _) ?_ _ _
    all_goals first | exact Nat.le_refl _ | (simp only [size_ext, World.size_alloc]; omega)
  | true =>
    obtain ⟨b1, b2, b3, b4, b5, b6, b7, b8, b9, b10⟩ := hbd rfl
    clear hbd
    have out : True := trivial
    by_cases q1 : later < now
    · clear hg
      go_wp2_with (go_at_call 29; refine (works _).mono ?_; rintro e w' ⟨rfl, d2, bs2, rfl⟩)
      go_ret
      refine ⟨rfl, ?_⟩
      with_reducible refine below_ext' (Below.alloc (Below.alloc (Below.refl _ _) ?_ _) ?_ _) ?_ _ _
      all_goals first | exact Nat.le_refl _ | (simp only [size_ext, World.size_alloc]; omega)
    by_cases q2 : 1099511627776 < later
    · clear hg
      go_wp2_with (go_at_call 29; refine (works _).mono ?_; rintro e w' ⟨rfl, d2, bs2, rfl⟩)
      go_ret
      refine ⟨rfl, ?_⟩
      with_reducible refine below_ext' (Below.alloc (Below.alloc (Below.refl _ _) ?_ _) ?_ _) ?_ _ _
      all_goals first | exact Nat.le_refl _ | (simp only [size_ext, World.size_alloc]; omega)
    by_cases q3 : longer < period
    · clear hg
      go_wp2_with (go_at_call 29; refine (works _).mono ?_; rintro e w' ⟨rfl, d2, bs2, rfl⟩)
      go_ret
      refine ⟨rfl, ?_⟩
      with_reducible refine below_ext' (Below.alloc (Below.alloc (Below.refl _ _) ?_ _) ?_ _) ?_ _ _
      all_goals first | exact Nat.le_refl _ | (simp only [size_ext, World.size_alloc]; omega)
    by_cases q4 : 1099511627776 < longer
    · clear hg
      go_wp2_with (go_at_call 29; refine (works _).mono ?_; rintro e w' ⟨rfl, d2, bs2, rfl⟩)
      go_ret
      refine ⟨rfl, ?_⟩
      with_reducible refine below_ext' (Below.alloc (Below.alloc (Below.refl _ _) ?_ _) ?_ _) ?_ _ _
      all_goals first | exact Nat.le_refl _ | (simp only [size_ext, World.size_alloc]; omega)
    have q5 : (100 : Int) < (name.size : Int) := by omega
    clear hg
    go_wp2_with (go_at_call 29; refine (works _).mono ?_; rintro e w' ⟨rfl, d2, bs2, rfl⟩)
    go_ret
    refine ⟨rfl, ?_⟩
    with_reducible refine below_ext' (Below.alloc (Below.alloc (Below.refl _ _) ?_ _) ?_ _) ?_ _ _
    all_goals first | exact Nat.le_refl _ | (simp only [size_ext, World.size_alloc]; omega)
end Go.Proofs.Yticgpiipikneiaa
