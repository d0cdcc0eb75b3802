/- The law KeepLater for classes without an event. -/
import Derived.Test.YticgpiipikneiaaLb
set_option linter.unusedSimpArgs false
set_option linter.unusedVariables false
namespace Go.Proofs.Yticgpiipikneiaa
open Go.ChangeShapes Go.WideShapes Go.RowKit Go.Mor

set_option maxRecDepth 100000 in
set_option maxHeartbeats 8000000 in
theorem keepLater_1 (cs ks : Array Value) (cls created event period now later longer : Int) (name : ByteArray) (fired ev pr : Bool) (ha : Option Addr) (hl hc : Nat) (l : List ByteArray) (note : ByteArray) (ta : Option Addr) (tl tc : Nat) (z addr : List Int) (w : World)
    (hC : ClipIn w cs cls created event fired ha hl hc l note ta tl tc z addr) (hK : ClassIn ks period ev pr) (hg : ¬ (later < now ∨ 1099511627776 < later ∨ longer < period ∨ 1099511627776 < longer ∨ 100 < name.size)) (hev : ev = false) :
    Calls Try.prog 7 #[.agg cs, .agg ks, .int .i64 now, .int .i64 later, .int .i64 longer, .string name] w fun e w' => e = .returned (.bool true) ∧ Below w.heap.size w w' := by
  have HEV := hid hev
  clear hev
  obtain ⟨⟨hsz, hone, h32, h33, h34, h35, h36, h37, h38⟩, hx, hal, hll, hlm, hr, hA, hz, hzm, hr3⟩ := hC
  obtain ⟨gsz, gone, g1, g2, g3⟩ := hK
  have HR := hid hr
  have HA := hid hA
  have HLL := hid hll
  clear hx hal hll hlm hr hA hz hzm hr3
  go_enter Try.func7, Try.ntmps7
  go_wp2_with fail
  refine (light2_any cs ks created event period now ha ta hl hc tl tc note _ h33 h35 h36 h37 h38 g1).mono ?_
  rintro e w' ⟨b, rfl, hb, hbd⟩
  obtain ⟨d1, bs1, rfl⟩ := ext_of_below hb
  clear hb
  have works : ∀ w' : World, Calls Try.prog 29 #[] w' fun e w'' => e = .returned (.bool true) ∧ ∃ d bs, w'' = ext w' d bs := fun w' => (works_any w').mono fun e w'' ⟨h1, h2⟩ => by
    obtain ⟨d, bs, rfl⟩ := ext_of_below h2
    exact ⟨h1, d, bs, rfl⟩
  cases b with
  | false =>
    clear hbd
    go_wp2_with (go_at_call 29; refine (works _).mono ?_; rintro e w' ⟨rfl, d2, bs2, rfl⟩)
    go_ret
    refine ⟨rfl, ?_⟩
    with_reducible refine below_ext' (Below.alloc (Below.alloc (Below.refl _ _) ?_ _) ?_ _) ?_ _ _
    all_goals first | exact Nat.le_refl _ | (simp only [size_ext, World.size_alloc]; omega)
  | true =>
    obtain ⟨b1, b2, b3, b4, b5, b6, b7, b8, b9, b10⟩ := hbd rfl
    clear hbd
    have q1 : now ≤ later := by omega
    have q2 : later ≤ 1099511627776 := by omega
    have q3 : period ≤ longer := by omega
    have q4 : longer ≤ 1099511627776 := by omega
    have q5 : (name.size : Int) ≤ 100 := by omega
    clear hg
    obtain ⟨D1, E1⟩ : ∃ D, Hid (delN hl created event period now fired ev = D) := ⟨_, rfl⟩
    obtain ⟨D2, E2⟩ : ∃ D, Hid (delN hl created event period later fired ev = D) := ⟨_, rfl⟩
    obtain ⟨D3, E3⟩ : ∃ D, Hid (delN hl created event longer now fired ev = D) := ⟨_, rfl⟩
    have f1 : D1 = 0 → D2 = 0 := fun h => by rw [← E2.out]; exact delN_later q1 (E1.out.trans h)
    have f2 : D3 = 0 → D1 = 0 := fun h => by rw [← E1.out]; exact delN_longer q3 b1 b3 b5 (E3.out.trans h)
    have msz : isSz (ks.setIfInBounds 1 (.int .i64 longer)) 4 = true := by rw [isSz_set]; exact gsz
    have m1 : (ks.setIfInBounds 1 (.int .i64 longer))[1]? = some (.int .i64 longer) := get_set gsz (by decide)
    have m2 : (ks.setIfInBounds 1 (.int .i64 longer))[2]? = some (.bool ev) := by rw [Array.getElem?_setIfInBounds_ne (by decide)]; exact g2
    have mone := ones_set ks 1 (.int .i64 longer) gone rfl
    obtain rfl := HEV.out
    by_cases z1 : D1 = 0
    · obtain rfl : D2 = 0 := f1 z1
      subst z1
      clear f1 f2
      by_cases z3 : D3 = 0
      · subst z3
        go_wp2_with fail
        refine (delete_ext cs ks created event period now _ _ ha hl hc _ hsz gsz h33 h34 h35 h36 g1 g2 b1 b2 b3 b4 b5 b6 _ E1.out).mono ?_; rintro e w' ⟨rfl, d11, bs11, rfl⟩
        go_wp2_with fail
        refine (delete_ext cs ks created event period later _ _ ha hl hc _ hsz gsz h33 h34 h35 h36 g1 g2 b1 b2 b3 b4 b5 b6 _ E2.out).mono ?_; rintro e w' ⟨rfl, d12, bs12, rfl⟩
        go_wp2_with fail
        refine (delete_ext cs (ks.setIfInBounds 1 (.int .i64 longer)) created event longer now _ _ ha hl hc _ hsz msz h33 h34 h35 h36 m1 m2 b1 b2 b3 b4 (by omega) q4 _ E3.out).mono ?_; rintro e w' ⟨rfl, d13, bs13, rfl⟩
        go_wp2_with fail
        refine (delete_ext cs ks created event period now _ _ ha hl hc _ hsz gsz h33 h34 h35 h36 g1 g2 b1 b2 b3 b4 b5 b6 _ E1.out).mono ?_; rintro e w' ⟨rfl, d14, bs14, rfl⟩
        go_wp2_with fail
        by_cases hh0 : holdN l name = 0
        · refine (hold_yes cs name ha hl hc l _ hsz hone h36 HLL.out b9 (((((HR.out.alloc _).alloc _).ext _ _).alloc _).ext _ _) HA.out hh0).mono ?_; rintro e w' ⟨A, kk, cc, rfl, hkp, d15, bs15, rfl⟩
          have HKP := hid hkp
          clear hkp
          have hone2 := ones_set cs 36 (.slice A kk cc) hone rfl
          go_wp2_with fail
          refine (delete_ext (cs.setIfInBounds 36 (.slice A kk cc)) ks created event period later _ _ A kk cc _ (by rw [isSz_set]; exact hsz) gsz (by rw [Array.getElem?_setIfInBounds_ne (by decide)]; exact h33) (by rw [Array.getElem?_setIfInBounds_ne (by decide)]; exact h34) (by rw [Array.getElem?_setIfInBounds_ne (by decide)]; exact h35) (get_set36 _ _ hsz) g1 g2 b1 b2 b3 b4 b5 b6 11 (delN_held HKP.out)).mono ?_; rintro e w' ⟨rfl, d16, bs16, rfl⟩
          go_wp2_with fail
          obtain ⟨PV, hpv, hpv0⟩ : ∃ PV, Hid (privN kk pr = PV) ∧ (PV == 0) = false := ⟨_, rfl, by simpa using privN_held HKP.out⟩
          refine (priv_ext (cs.setIfInBounds 36 (.slice A kk cc)) ks pr A kk cc _ (get_set36 _ _ hsz) g3 PV hpv.out).mono ?_; rintro e w' ⟨rfl, d17, bs17, rfl⟩
          go_wp2_with fail
          go_wp2_with (go_at_call 29; refine (works _).mono ?_; rintro e w' ⟨rfl, d2, bs2, rfl⟩)
          go_ret
          refine ⟨rfl, ?_⟩
          with_reducible refine below_ext' (Below.alloc (below_ext' (Below.alloc (below_ext' (Below.alloc (Below.alloc (Below.refl _ _) ?_ _) ?_ _) ?_ _ _) ?_ _) ?_ _ _) ?_ _) ?_ _ _
          all_goals first | exact Nat.le_refl _ | (simp only [size_ext, World.size_alloc]; omega)
        · have hh1 : (holdN l name == 0) = false := by simpa using hh0
          refine (hold_no cs name ha hl hc l _ hsz hone h36 HLL.out b9 (((((HR.out.alloc _).alloc _).ext _ _).alloc _).ext _ _) HA.out).mono ?_; rintro e w' ⟨A, kk, cc, rfl, d18, bs18, rfl⟩
          have hone2 := ones_set cs 36 (.slice A kk cc) hone rfl
          go_wp2_with fail
          go_wp2_with (go_at_call 29; refine (works _).mono ?_; rintro e w' ⟨rfl, d2, bs2, rfl⟩)
          go_ret
          refine ⟨rfl, ?_⟩
          with_reducible refine below_ext' (Below.alloc (below_ext' (Below.alloc (below_ext' (Below.alloc (Below.alloc (Below.refl _ _) ?_ _) ?_ _) ?_ _ _) ?_ _) ?_ _ _) ?_ _) ?_ _ _
          all_goals first | exact Nat.le_refl _ | (simp only [size_ext, World.size_alloc]; omega)
      · have n3 : (D3 == 0) = false := by simpa using z3
        clear z3
        go_wp2_with fail
        refine (delete_ext cs ks created event period now _ _ ha hl hc _ hsz gsz h33 h34 h35 h36 g1 g2 b1 b2 b3 b4 b5 b6 _ E1.out).mono ?_; rintro e w' ⟨rfl, d19, bs19, rfl⟩
        go_wp2_with fail
        refine (delete_ext cs ks created event period later _ _ ha hl hc _ hsz gsz h33 h34 h35 h36 g1 g2 b1 b2 b3 b4 b5 b6 _ E2.out).mono ?_; rintro e w' ⟨rfl, d20, bs20, rfl⟩
        go_wp2_with fail
        refine (delete_ext cs (ks.setIfInBounds 1 (.int .i64 longer)) created event longer now _ _ ha hl hc _ hsz msz h33 h34 h35 h36 m1 m2 b1 b2 b3 b4 (by omega) q4 _ E3.out).mono ?_; rintro e w' ⟨rfl, d21, bs21, rfl⟩
        go_wp2_with fail
        by_cases hh0 : holdN l name = 0
        · refine (hold_yes cs name ha hl hc l _ hsz hone h36 HLL.out b9 (((((HR.out.alloc _).alloc _).ext _ _).alloc _).ext _ _) HA.out hh0).mono ?_; rintro e w' ⟨A, kk, cc, rfl, hkp, d22, bs22, rfl⟩
          have HKP := hid hkp
          clear hkp
          have hone2 := ones_set cs 36 (.slice A kk cc) hone rfl
          go_wp2_with fail
          refine (delete_ext (cs.setIfInBounds 36 (.slice A kk cc)) ks created event period later _ _ A kk cc _ (by rw [isSz_set]; exact hsz) gsz (by rw [Array.getElem?_setIfInBounds_ne (by decide)]; exact h33) (by rw [Array.getElem?_setIfInBounds_ne (by decide)]; exact h34) (by rw [Array.getElem?_setIfInBounds_ne (by decide)]; exact h35) (get_set36 _ _ hsz) g1 g2 b1 b2 b3 b4 b5 b6 11 (delN_held HKP.out)).mono ?_; rintro e w' ⟨rfl, d23, bs23, rfl⟩
          go_wp2_with fail
          obtain ⟨PV, hpv, hpv0⟩ : ∃ PV, Hid (privN kk pr = PV) ∧ (PV == 0) = false := ⟨_, rfl, by simpa using privN_held HKP.out⟩
          refine (priv_ext (cs.setIfInBounds 36 (.slice A kk cc)) ks pr A kk cc _ (get_set36 _ _ hsz) g3 PV hpv.out).mono ?_; rintro e w' ⟨rfl, d24, bs24, rfl⟩
          go_wp2_with fail
          go_wp2_with (go_at_call 29; refine (works _).mono ?_; rintro e w' ⟨rfl, d2, bs2, rfl⟩)
          go_ret
          refine ⟨rfl, ?_⟩
          with_reducible refine below_ext' (Below.alloc (below_ext' (Below.alloc (below_ext' (Below.alloc (Below.alloc (Below.refl _ _) ?_ _) ?_ _) ?_ _ _) ?_ _) ?_ _ _) ?_ _) ?_ _ _
          all_goals first | exact Nat.le_refl _ | (simp only [size_ext, World.size_alloc]; omega)
        · have hh1 : (holdN l name == 0) = false := by simpa using hh0
          refine (hold_no cs name ha hl hc l _ hsz hone h36 HLL.out b9 (((((HR.out.alloc _).alloc _).ext _ _).alloc _).ext _ _) HA.out).mono ?_; rintro e w' ⟨A, kk, cc, rfl, d25, bs25, rfl⟩
          have hone2 := ones_set cs 36 (.slice A kk cc) hone rfl
          go_wp2_with fail
          go_wp2_with (go_at_call 29; refine (works _).mono ?_; rintro e w' ⟨rfl, d2, bs2, rfl⟩)
          go_ret
          refine ⟨rfl, ?_⟩
          with_reducible refine below_ext' (Below.alloc (below_ext' (Below.alloc (below_ext' (Below.alloc (Below.alloc (Below.refl _ _) ?_ _) ?_ _) ?_ _ _) ?_ _) ?_ _ _) ?_ _) ?_ _ _
          all_goals first | exact Nat.le_refl _ | (simp only [size_ext, World.size_alloc]; omega)
    · have n1 : (D1 == 0) = false := by simpa using z1
      have n3 : (D3 == 0) = false := by rw [beq_eq_false_iff_ne]; exact fun h => z1 (f2 h)
      clear f1 f2 z1
      go_wp2_with fail
      refine (delete_ext cs ks created event period now _ _ ha hl hc _ hsz gsz h33 h34 h35 h36 g1 g2 b1 b2 b3 b4 b5 b6 _ E1.out).mono ?_; rintro e w' ⟨rfl, d26, bs26, rfl⟩
      go_wp2_with fail
      refine (delete_ext cs (ks.setIfInBounds 1 (.int .i64 longer)) created event longer now _ _ ha hl hc _ hsz msz h33 h34 h35 h36 m1 m2 b1 b2 b3 b4 (by omega) q4 _ E3.out).mono ?_; rintro e w' ⟨rfl, d27, bs27, rfl⟩
      go_wp2_with fail
      by_cases hh0 : holdN l name = 0
      · refine (hold_yes cs name ha hl hc l _ hsz hone h36 HLL.out b9 (((((HR.out.alloc _).alloc _).ext _ _).alloc _).ext _ _) HA.out hh0).mono ?_; rintro e w' ⟨A, kk, cc, rfl, hkp, d28, bs28, rfl⟩
        have HKP := hid hkp
        clear hkp
        have hone2 := ones_set cs 36 (.slice A kk cc) hone rfl
        go_wp2_with fail
        refine (delete_ext (cs.setIfInBounds 36 (.slice A kk cc)) ks created event period later _ _ A kk cc _ (by rw [isSz_set]; exact hsz) gsz (by rw [Array.getElem?_setIfInBounds_ne (by decide)]; exact h33) (by rw [Array.getElem?_setIfInBounds_ne (by decide)]; exact h34) (by rw [Array.getElem?_setIfInBounds_ne (by decide)]; exact h35) (get_set36 _ _ hsz) g1 g2 b1 b2 b3 b4 b5 b6 11 (delN_held HKP.out)).mono ?_; rintro e w' ⟨rfl, d29, bs29, rfl⟩
        go_wp2_with fail
        obtain ⟨PV, hpv, hpv0⟩ : ∃ PV, Hid (privN kk pr = PV) ∧ (PV == 0) = false := ⟨_, rfl, by simpa using privN_held HKP.out⟩
        refine (priv_ext (cs.setIfInBounds 36 (.slice A kk cc)) ks pr A kk cc _ (get_set36 _ _ hsz) g3 PV hpv.out).mono ?_; rintro e w' ⟨rfl, d30, bs30, rfl⟩
        go_wp2_with fail
        go_wp2_with (go_at_call 29; refine (works _).mono ?_; rintro e w' ⟨rfl, d2, bs2, rfl⟩)
        go_ret
        refine ⟨rfl, ?_⟩
        with_reducible refine below_ext' (Below.alloc (below_ext' (Below.alloc (below_ext' (Below.alloc (Below.alloc (Below.refl _ _) ?_ _) ?_ _) ?_ _ _) ?_ _) ?_ _ _) ?_ _) ?_ _ _
        all_goals first | exact Nat.le_refl _ | (simp only [size_ext, World.size_alloc]; omega)
      · have hh1 : (holdN l name == 0) = false := by simpa using hh0
        refine (hold_no cs name ha hl hc l _ hsz hone h36 HLL.out b9 (((((HR.out.alloc _).alloc _).ext _ _).alloc _).ext _ _) HA.out).mono ?_; rintro e w' ⟨A, kk, cc, rfl, d31, bs31, rfl⟩
        have hone2 := ones_set cs 36 (.slice A kk cc) hone rfl
        go_wp2_with fail
        go_wp2_with (go_at_call 29; refine (works _).mono ?_; rintro e w' ⟨rfl, d2, bs2, rfl⟩)
        go_ret
        refine ⟨rfl, ?_⟩
        with_reducible refine below_ext' (Below.alloc (below_ext' (Below.alloc (below_ext' (Below.alloc (Below.alloc (Below.refl _ _) ?_ _) ?_ _) ?_ _ _) ?_ _) ?_ _ _) ?_ _) ?_ _ _
        all_goals first | exact Nat.le_refl _ | (simp only [size_ext, World.size_alloc]; omega)
end Go.Proofs.Yticgpiipikneiaa
