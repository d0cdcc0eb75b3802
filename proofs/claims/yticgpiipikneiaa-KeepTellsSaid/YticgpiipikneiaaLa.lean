/- The walk of the law KeepTells. -/
import Derived.Test.YticgpiipikneiaaKl
import Derived.Test.YticgpiipikneiaaRa
import Derived.Test.YticgpiipikneiaaBaseE
namespace Go.Proofs.Yticgpiipikneiaa
open Go.ChangeShapes Go.WideShapes Go.RowKit Go.Mor

theorem refUntil_is (cs ks : Array Value) (created event period : Int) (fired ev : Bool) (w : World)
    (h1 : cs[33]? = some (.int .i64 created)) (h2 : cs[34]? = some (.bool fired)) (h3 : cs[35]? = some (.int .i64 event))
    (g1 : ks[1]? = some (.int .i64 period)) (g2 : ks[2]? = some (.bool ev))
    (b1 : 0 ≤ created) (b2 : created ≤ 1099511627776) (b3 : 0 ≤ event) (b4 : event ≤ 1099511627776) (b5 : 0 ≤ period) (b6 : period ≤ 1099511627776) (k : Int) (hk : untilN created event period fired ev = k) :
    Calls Try.prog 31 #[.agg cs, .agg ks] w fun e w' => e = .returned (.int .i64 k) ∧ Below w.heap.size w w' := by
  rw [← hk]; exact refUntil_any cs ks created event period fired ev w h1 h2 h3 g1 g2 b1 b2 b3 b4 b5 b6

set_option maxRecDepth 100000 in
set_option maxHeartbeats 2000000 in
theorem keepTells_walk (cs ks : Array Value) (cls created event period now : Int) (fired ev pr : Bool) (ha : Option Addr) (hl hc : Nat) (l : List ByteArray) (note : ByteArray) (ta : Option Addr) (tl tc : Nat) (z addr : List Int) (w : World)
    (hC : ClipIn w cs cls created event fired ha hl hc l note ta tl tc z addr) (hK : ClassIn ks period ev pr) :
    Calls Try.prog 5 #[.agg cs, .agg ks, .int .i64 now] w fun e w' => e = .returned (.bool true) ∧ Below w.heap.size w w' := by
  obtain ⟨⟨hsz, hone, h32, h33, h34, h35, h36, h37, h38⟩, hx, hal, hll, hlm, hr, hA, hz, hzm, hr3⟩ := hC
  obtain ⟨gsz, gone, g1, g2, g3⟩ := hK
  clear hx hal hll hlm hr hA hz hzm hr3
  go_enter Try.func5, Try.ntmps5
  go_wp2_with fail
  refine (light_any cs ks created event period now ha ta hl hc tl tc note _ h33 h35 h36 h37 h38 g1).mono ?_
  rintro e w' ⟨b, rfl, hb, hbd⟩
  obtain ⟨d1, bs1, rfl⟩ := ext_of_below hb
  clear hb
  cases b with
  | false =>
    clear hbd
    go_wp2_with fail
    refine (works_any _).mono ?_
    rintro e w' ⟨rfl, hb⟩
    obtain ⟨d2, bs2, rfl⟩ := ext_of_below hb
    clear hb
    go_wp2_with fail
    go_ret
    refine ⟨rfl, ?_⟩
    with_reducible refine below_ext' (Below.alloc (Below.alloc (Below.refl _ _) ?_ _) ?_ _) ?_ _ _
    all_goals first | exact Nat.le_refl _ | (simp only [size_ext, World.size_alloc]; omega)
  | true =>
    obtain ⟨b1, b2, b3, b4, b5, b6, b7, b8⟩ := hbd rfl
    clear hbd
    by_cases hk : untilB fired ev = true
    · have hp := untilN_pos (created := created) (event := event) (period := period) b1 b3 b5 hk
      have hq : untilN created event period fired ev ≤ 2199023255552 := by cases fired <;> cases ev <;> simp_all [untilN, untilB] <;> omega
      obtain ⟨K, HL, hK⟩ : ∃ K, Hid (leftN created event period now fired ev = K) ∧ K = max (untilN created event period fired ev - now) 0 := ⟨_, by simp [Hid, leftN, hk], rfl⟩
      by_cases hn : untilN created event period fired ev - now < 0
      · obtain rfl : K = 0 := by omega
        clear hK
        go_wp2_with (first | (go_at_call 30; refine (until_yes _ _ created event period fired ev _ h33 h34 h35 g1 g2 b1 b2 b3 b4 b5 b6 hk).mono ?_; rintro e w' ⟨rfl, hb⟩; obtain ⟨d2, bs2, rfl⟩ := ext_of_below hb; clear hb) | (go_at_call 31; refine (refUntil_is _ _ created event period fired ev _ h33 h34 h35 g1 g2 b1 b2 b3 b4 b5 b6 _ rfl).mono ?_; rintro e w' ⟨rfl, hb⟩; obtain ⟨d3, bs3, rfl⟩ := ext_of_below hb; clear hb))
        refine wp_region_ext (by kernel_rfl) (by kernel_rfl) ?_
        repeat (first | go_big_quiet_skip | (go_big_quiet_want; go_big_quiet_op; first | go_big_quiet_on | (apply Exists.intro; refine ⟨fun x => ?_, ?_⟩; (first | (go_at_call 32; refine calls_extg (delete_any _ _ created event period now fired ev ha hl hc _ hsz gsz h33 h34 h35 h36 g1 g2 b1 b2 b3 b4 b5 b6) ?_; exact fun d' bs' => ⟨⟨d', x.bs ++ bs'⟩, by simp only [ext_ext, Array.append_assoc]⟩) | (go_at_call 33; refine calls_extg (refDelete_any _ _ created event period now fired ev ha hl hc _ hsz gsz h33 h34 h35 h36 g1 g2 b1 b2 b3 b4 b5 b6) ?_; exact fun d' bs' => ⟨⟨d', x.bs ++ bs'⟩, by simp only [ext_ext, Array.append_assoc]⟩) | (go_at_call 34; refine calls_extg (priv_any _ _ pr ha hl hc _ h36 g3) ?_; exact fun d' bs' => ⟨⟨d', x.bs ++ bs'⟩, by simp only [ext_ext, Array.append_assoc]⟩) | (go_at_call 35; refine calls_extg (refPriv_any _ _ pr ha hl hc _ h36 g3) ?_; exact fun d' bs' => ⟨⟨d', x.bs ++ bs'⟩, by simp only [ext_ext, Array.append_assoc]⟩) | (go_at_call 36; refine calls_extg (left_is _ _ created event period now fired ev ha hl hc _ hsz gsz h33 h34 h35 h36 g1 g2 b1 b2 b3 b4 b5 b6 b7 b8 _ HL.out) ?_; exact fun d' bs' => ⟨⟨d', x.bs ++ bs'⟩, by simp only [ext_ext, Array.append_assoc]⟩) | (go_at_call 29; refine calls_extg (works_any _) ?_; exact fun d' bs' => ⟨⟨d', x.bs ++ bs'⟩, by simp only [ext_ext, Array.append_assoc]⟩)); go_big_quiet_on)))
        refine wpQuiet_nil ?_
        rintro _ ⟨⟨dq, bsq⟩, rfl⟩
        go_wp2_with fail
        go_ret
        refine ⟨rfl, ?_⟩
        with_reducible refine below_ext' (below_ext' (Below.alloc (Below.alloc (Below.refl _ _) ?_ _) ?_ _) ?_ _ _) ?_ _ _
        all_goals first | exact Nat.le_refl _ | (simp only [size_ext, World.size_alloc]; omega)

      · obtain rfl : K = untilN created event period fired ev - now := by omega
        clear hK
        go_wp2_with (first | (go_at_call 30; refine (until_yes _ _ created event period fired ev _ h33 h34 h35 g1 g2 b1 b2 b3 b4 b5 b6 hk).mono ?_; rintro e w' ⟨rfl, hb⟩; obtain ⟨d2, bs2, rfl⟩ := ext_of_below hb; clear hb) | (go_at_call 31; refine (refUntil_is _ _ created event period fired ev _ h33 h34 h35 g1 g2 b1 b2 b3 b4 b5 b6 _ rfl).mono ?_; rintro e w' ⟨rfl, hb⟩; obtain ⟨d3, bs3, rfl⟩ := ext_of_below hb; clear hb))
        refine wp_region_ext (by kernel_rfl) (by kernel_rfl) ?_
        repeat (first | go_big_quiet_skip | (go_big_quiet_want; go_big_quiet_op; first | go_big_quiet_on | (apply Exists.intro; refine ⟨fun x => ?_, ?_⟩; (first | (go_at_call 32; refine calls_extg (delete_any _ _ created event period now fired ev ha hl hc _ hsz gsz h33 h34 h35 h36 g1 g2 b1 b2 b3 b4 b5 b6) ?_; exact fun d' bs' => ⟨⟨d', x.bs ++ bs'⟩, by simp only [ext_ext, Array.append_assoc]⟩) | (go_at_call 33; refine calls_extg (refDelete_any _ _ created event period now fired ev ha hl hc _ hsz gsz h33 h34 h35 h36 g1 g2 b1 b2 b3 b4 b5 b6) ?_; exact fun d' bs' => ⟨⟨d', x.bs ++ bs'⟩, by simp only [ext_ext, Array.append_assoc]⟩) | (go_at_call 34; refine calls_extg (priv_any _ _ pr ha hl hc _ h36 g3) ?_; exact fun d' bs' => ⟨⟨d', x.bs ++ bs'⟩, by simp only [ext_ext, Array.append_assoc]⟩) | (go_at_call 35; refine calls_extg (refPriv_any _ _ pr ha hl hc _ h36 g3) ?_; exact fun d' bs' => ⟨⟨d', x.bs ++ bs'⟩, by simp only [ext_ext, Array.append_assoc]⟩) | (go_at_call 36; refine calls_extg (left_is _ _ created event period now fired ev ha hl hc _ hsz gsz h33 h34 h35 h36 g1 g2 b1 b2 b3 b4 b5 b6 b7 b8 _ HL.out) ?_; exact fun d' bs' => ⟨⟨d', x.bs ++ bs'⟩, by simp only [ext_ext, Array.append_assoc]⟩) | (go_at_call 29; refine calls_extg (works_any _) ?_; exact fun d' bs' => ⟨⟨d', x.bs ++ bs'⟩, by simp only [ext_ext, Array.append_assoc]⟩)); go_big_quiet_on)))
        refine wpQuiet_nil ?_
        rintro _ ⟨⟨dq, bsq⟩, rfl⟩
        go_wp2_with fail
        go_ret
        refine ⟨rfl, ?_⟩
        with_reducible refine below_ext' (below_ext' (Below.alloc (Below.alloc (Below.refl _ _) ?_ _) ?_ _) ?_ _ _) ?_ _ _
        all_goals first | exact Nat.le_refl _ | (simp only [size_ext, World.size_alloc]; omega)

    · have hk : untilB fired ev = false := by simpa using hk
      have HL : Hid (leftN created event period now fired ev = -1) := by simp [Hid, leftN, hk]
      go_wp2_with (first | (go_at_call 30; refine (until_no _ _ created event period fired ev _ h33 h34 h35 g1 g2 b1 b2 b3 b4 b5 b6 hk).mono ?_; rintro e w' ⟨rfl, hb⟩; obtain ⟨d2, bs2, rfl⟩ := ext_of_below hb; clear hb) | (go_at_call 31; refine (refUntil_is _ _ created event period fired ev _ h33 h34 h35 g1 g2 b1 b2 b3 b4 b5 b6 _ (untilN_neg hk)).mono ?_; rintro e w' ⟨rfl, hb⟩; obtain ⟨d3, bs3, rfl⟩ := ext_of_below hb; clear hb))
      refine wp_region_ext (by kernel_rfl) (by kernel_rfl) ?_
      repeat (first | go_big_quiet_skip | (go_big_quiet_want; go_big_quiet_op; first | go_big_quiet_on | (apply Exists.intro; refine ⟨fun x => ?_, ?_⟩; (first | (go_at_call 32; refine calls_extg (delete_any _ _ created event period now fired ev ha hl hc _ hsz gsz h33 h34 h35 h36 g1 g2 b1 b2 b3 b4 b5 b6) ?_; exact fun d' bs' => ⟨⟨d', x.bs ++ bs'⟩, by simp only [ext_ext, Array.append_assoc]⟩) | (go_at_call 33; refine calls_extg (refDelete_any _ _ created event period now fired ev ha hl hc _ hsz gsz h33 h34 h35 h36 g1 g2 b1 b2 b3 b4 b5 b6) ?_; exact fun d' bs' => ⟨⟨d', x.bs ++ bs'⟩, by simp only [ext_ext, Array.append_assoc]⟩) | (go_at_call 34; refine calls_extg (priv_any _ _ pr ha hl hc _ h36 g3) ?_; exact fun d' bs' => ⟨⟨d', x.bs ++ bs'⟩, by simp only [ext_ext, Array.append_assoc]⟩) | (go_at_call 35; refine calls_extg (refPriv_any _ _ pr ha hl hc _ h36 g3) ?_; exact fun d' bs' => ⟨⟨d', x.bs ++ bs'⟩, by simp only [ext_ext, Array.append_assoc]⟩) | (go_at_call 36; refine calls_extg (left_is _ _ created event period now fired ev ha hl hc _ hsz gsz h33 h34 h35 h36 g1 g2 b1 b2 b3 b4 b5 b6 b7 b8 _ HL.out) ?_; exact fun d' bs' => ⟨⟨d', x.bs ++ bs'⟩, by simp only [ext_ext, Array.append_assoc]⟩) | (go_at_call 29; refine calls_extg (works_any _) ?_; exact fun d' bs' => ⟨⟨d', x.bs ++ bs'⟩, by simp only [ext_ext, Array.append_assoc]⟩)); go_big_quiet_on)))
      refine wpQuiet_nil ?_
      rintro _ ⟨⟨dq, bsq⟩, rfl⟩
      go_wp2_with fail
      go_ret
      refine ⟨rfl, ?_⟩
      with_reducible refine below_ext' (below_ext' (Below.alloc (Below.alloc (Below.refl _ _) ?_ _) ?_ _) ?_ _ _) ?_ _ _
      all_goals first | exact Nat.le_refl _ | (simp only [size_ext, World.size_alloc]; omega)

end Go.Proofs.Yticgpiipikneiaa
