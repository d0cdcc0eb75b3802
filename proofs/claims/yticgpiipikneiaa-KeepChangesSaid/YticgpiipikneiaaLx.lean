/- The walk of the law KeepChanges. -/
import Derived.Test.YticgpiipikneiaaLb
set_option linter.unusedSimpArgs false
set_option linter.unusedVariables false
namespace Go.Proofs.Yticgpiipikneiaa
open Go.ChangeShapes Go.WideShapes Go.RowKit Go.Mor

theorem intsAt_keep {w w' : World} {A : Option Addr} {z : List Int} (h : intsAt w A z) (hb : Below w.heap.size w w') : intsAt w' A z := by
  rcases h with h | ⟨b, off, h1, h2, h3⟩
  · exact .inl h
  · exact .inr ⟨b, off, h1, Nat.lt_of_lt_of_le h2 hb.size, fun j x hx => by rw [hb.cell (by exact h2)]; exact h3 j x hx⟩
theorem intsAt_ext {w : World} {A : Option Addr} {z : List Int} (h : intsAt w A z) (d : Nat) (bs : Array Obj) : intsAt (ext w d bs) A z := intsAt_keep h (below_ext w d bs)
theorem intsAt_alloc {w : World} {A : Option Addr} {z : List Int} (h : intsAt w A z) (o : Obj) : intsAt (w.alloc o) A z := intsAt_keep h ((Below.refl _ _).alloc (Nat.le_refl _) o)
theorem holdL_length (l : List ByteArray) (s : ByteArray) : (holdL l s).length ≤ l.length + 1 := by unfold holdL; split <;> simp
theorem relL_length (l : List ByteArray) (s : ByteArray) : (relL l s).length ≤ l.length := by
  unfold relL; split
  · exact Nat.le_refl _
  · rw [List.length_eraseIdx]; split <;> omega
theorem same_fire (cs : Array Value) (ev fired : Bool) (now : Int) (ha : Option Addr) (hl hc : Nat) (l : List ByteArray) (addr : List Int) (cls created event : Int) (note : ByteArray) (ta : Option Addr) (tl tc : Nat) (z : List Int) (w : World)
    (hsz : isSz cs 39 = true) (hx : cs.extract 0 32 = ints .u8 addr) (hal : (addr.length == 32) = true)
    (h32 : cs[32]? = some (.int .i64 cls)) (h33 : cs[33]? = some (.int .i64 created)) (h34 : cs[34]? = some (.bool fired)) (h35 : cs[35]? = some (.int .i64 event)) (h36 : cs[36]? = some (.slice ha hl hc)) (h37 : cs[37]? = some (.string note)) (h38 : cs[38]? = some (.slice ta tl tc))
    (hk : hl = l.length) (hk2 : hl ≤ 1000) (hr1 : Rd w ha (strV l)) (hz : tl = z.length) (hz2 : tl ≤ 1000) (hr3 : intsAt w ta z) (FC : Array Value) (hF : fireC cs ev fired now = FC) :
    Calls Try.prog 43 #[.agg FC, .agg FC] w fun e w' => e = .returned (.bool true) ∧ Below w.heap.size w w' := by
  subst hF
  have h36' : (fireC cs ev fired now)[36]? = some (.slice ha hl hc) := by
    unfold fireC; split
    · rw [Array.getElem?_setIfInBounds_ne (by decide), Array.getElem?_setIfInBounds_ne (by decide)]; exact h36
    · exact h36
  have e := set_self h36'
  rw [← e]
  unfold fireC
  split
  · refine same_yes _ ha ha hl hc hc l addr cls created now true note ta tl tc z w ?_ ?_ hal ?_ ?_ ?_ ?_ ?_ ?_ hk hk2 hr1 hr1 hz hz2 hr3
    · rw [isSz_set, isSz_set]; exact hsz
    · rw [extract_set _ _ _ _ (by decide), extract_set _ _ _ _ (by decide)]; exact hx
    · rw [Array.getElem?_setIfInBounds_ne (by decide), Array.getElem?_setIfInBounds_ne (by decide)]; exact h32
    · rw [Array.getElem?_setIfInBounds_ne (by decide), Array.getElem?_setIfInBounds_ne (by decide)]; exact h33
    · rw [Array.getElem?_setIfInBounds_ne (by decide)]; exact get_set hsz (by decide)
    · exact get_set (by rw [isSz_set]; exact hsz) (by decide)
    · rw [Array.getElem?_setIfInBounds_ne (by decide), Array.getElem?_setIfInBounds_ne (by decide)]; exact h37
    · rw [Array.getElem?_setIfInBounds_ne (by decide), Array.getElem?_setIfInBounds_ne (by decide)]; exact h38
  · exact same_yes cs ha ha hl hc hc l addr cls created event fired note ta tl tc z w hsz hx hal h32 h33 h34 h35 h37 h38 hk hk2 hr1 hr1 hz hz2 hr3

set_option maxRecDepth 100000 in
set_option maxHeartbeats 8000000 in
theorem keepChanges_walk (cs ks : Array Value) (cls created event period now : Int) (name : ByteArray) (fired ev pr : Bool) (ha : Option Addr) (hl hc : Nat) (l : List ByteArray) (note : ByteArray) (ta : Option Addr) (tl tc : Nat) (z addr : List Int) (w : World)
    (hC : ClipIn w cs cls created event fired ha hl hc l note ta tl tc z addr) (hK : ClassIn ks period ev pr) :
    Calls Try.prog 6 #[.agg cs, .agg ks, .int .i64 now, .string name] w fun e w' => e = .returned (.bool true) ∧ Below w.heap.size w w' := by
  obtain ⟨⟨hsz, hone, h32, h33, h34, h35, h36, h37, h38⟩, hx, hal, hll, hlm, hr, hA, hz, hzm, hr3⟩ := hC
  obtain ⟨gsz, gone, g1, g2, g3⟩ := hK
  have HR := hid hr
  have HA := hid hA
  have HLL := hid hll
  have HZ := hid hz
  have HX := hid hx
  have HAL := hid hal
  have H3 := hid hr3
  clear hx hal hll hlm hr hA hz hzm hr3
  go_enter Try.func6, Try.ntmps6
  go_wp2_with fail
  refine (light2_any cs ks created event period now ha ta hl hc tl tc note _ h33 h35 h36 h37 h38 g1).mono ?_
  rintro e w' ⟨b, rfl, hb, hbd⟩
  obtain ⟨d1, bs1, rfl⟩ := ext_of_below hb
  clear hb
  have works : ∀ w' : World, Calls Try.prog 29 #[] w' fun e w'' => e = .returned (.bool true) ∧ ∃ d bs, w'' = ext w' d bs := fun w' => (works_any w').mono fun e w'' ⟨h1, h2⟩ => by
    obtain ⟨d, bs, rfl⟩ := ext_of_below h2
    exact ⟨h1, d, bs, rfl⟩
  cases b with
  | false =>
    clear hbd
    go_wp2_with (go_at_call 29; refine (works _).mono ?_; rintro e w' ⟨rfl, d2, bs2, rfl⟩)
    go_ret
    refine ⟨rfl, ?_⟩
    with_reducible refine below_ext' (Below.alloc (Below.alloc (Below.refl _ _) ?_ _) ?_ _) ?_ _ _
    all_goals first | exact Nat.le_refl _ | (simp only [size_ext, World.size_alloc]; omega)
  | true =>
    obtain ⟨b1, b2, b3, b4, b5, b6, b7, b8, b9, b10⟩ := hbd rfl
    clear hbd
    by_cases q5 : (100 : Int) < (name.size : Int)
    · go_wp2_with (go_at_call 29; refine (works _).mono ?_; rintro e w' ⟨rfl, d2, bs2, rfl⟩)
      go_ret
      refine ⟨rfl, ?_⟩
      with_reducible refine below_ext' (Below.alloc (Below.alloc (Below.refl _ _) ?_ _) ?_ _) ?_ _ _
      all_goals first | exact Nat.le_refl _ | (simp only [size_ext, World.size_alloc]; omega)
    have q6 : (name.size : Int) ≤ 100 := by omega
    clear q5
    obtain ⟨i0, hi, hz0, hz1, hz2⟩ := info_parts info9
    go_wp2_with (at_builtin; refine wpList_append_ext rfl _ _ 57 rfl ((ext ((w.alloc (Obj.cells cs 59)).alloc (Obj.cells ks 61)) d1 bs1).alloc (Obj.cells (cs.setIfInBounds 36 (Value.slice none 0 0)) 59)) (Below.refl _ _) 9 i0 (.string ByteArray.empty) 1 16 Try.underlying57 hi hz0 hz1 hz2 rfl (by decide) _ 0 [] rfl (World.ownsRow_nil _ _ _ _) ha hl hc (strV l) rfl ?hr ?hl (strV_one l) ?h63 ?hb ?_)
    case hr => exact ((((HR.out.alloc _).alloc _).ext _ _).alloc _)
    case hl => simp [strV, HLL.out]
    case h63 => unfold maxLen; omega
    case hb => omega
    intro A' c' d2 bs2 hown
    have HR2 := hid (owns_rd (owns_ext (W' := (ext ((w.alloc (Obj.cells cs 59)).alloc (Obj.cells ks 61)) d1 bs1).alloc (Obj.cells (cs.setIfInBounds 36 (Value.slice A' hl c')) 59)) hown (by simp) (by simp) d2))
    clear hown
    obtain ⟨FC, hFC⟩ : ∃ FC, fireC cs ev fired now = FC := ⟨_, rfl⟩
    obtain ⟨FN, hFN⟩ : ∃ FN, fireN ev fired = FN := ⟨_, rfl⟩
    have fsz : isSz FC 39 = true := by rw [← hFC]; unfold fireC; split; · rw [isSz_set, isSz_set]; exact hsz
                                       exact hsz
    have fone : ones FC = true := by
      rw [← hFC]; unfold fireC; split
      · exact ones_set _ _ _ (ones_set _ _ _ hone rfl) rfl
      · exact hone
    have HFC := hid hFC
    have HFN := hid hFN
    clear hFC hFN
    go_wp2_with fail
    refine (fire_any cs ks fired ev now _ hsz hone gsz h34 event h35 g2).mono ?_
    rintro e w' ⟨rfl, hb⟩
    obtain ⟨d3, bs3, rfl⟩ := ext_of_below hb
    rw [HFC.out, HFN.out]
    clear hb
    go_wp2_with fail
    refine (refFire_any cs ks fired ev now _ hsz hone gsz h34 event h35 g2).mono ?_
    rintro e w' ⟨rfl, hb⟩
    obtain ⟨d4, bs4, rfl⟩ := ext_of_below hb
    rw [HFC.out, HFN.out]
    clear hb
    go_wp2_with fail
    have h2 := HR2.out.ext d3 bs3
    rw [ext_ext] at h2
    have HR3 := hid h2
    have HRa := hid ((((((((HR.out.alloc (Obj.cells cs 59)).alloc (Obj.cells ks 61)).ext d1 bs1).alloc (Obj.cells (cs.setIfInBounds 36 (Value.slice A' hl c')) 59)).ext d3 (bs2 ++ bs3)).alloc (Obj.cells FC 59)).ext d4 bs4).alloc (Obj.cells FC 59))
    clear h2 HR2
    obtain ⟨HN, hHN⟩ : ∃ HN, Hid (holdN l name = HN) := ⟨_, rfl⟩
    obtain ⟨RN, hRN⟩ : ∃ RN, Hid (relN l name = RN) := ⟨_, rfl⟩
    refine (hold_any cs name ha hl hc l _ hsz hone h36 HLL.out b9 HRa.out HA.out).mono ?_
    rintro e w' ⟨A1, k1, c1, rfl, hb, hk1, hr1, -⟩
    obtain ⟨d5, bs5, rfl⟩ := ext_of_below hb
    have HR4 := hid hr1
    have HK1 := hid hk1
    have hone1 := ones_set cs 36 (.slice A1 k1 c1) hone rfl
    rw [hHN.out]
    clear hb hr1 hk1
    go_wp2_with fail
    refine (refHold_any cs name ha hl hc l _ hsz hone h36 HLL.out b9 ((HRa.out.ext _ _).alloc _) HA.out).mono ?_
    rintro e w' ⟨A2, k2, c2, rfl, hb, hk2, hr2, -⟩
    obtain ⟨d6, bs6, rfl⟩ := ext_of_below hb
    obtain rfl : k2 = k1 := hk2.trans HK1.out.symm
    have HR5 := hid hr2
    have hone2 := ones_set cs 36 (.slice A2 k2 c2) hone rfl
    rw [hHN.out]
    clear hb hr2 hk2
    go_wp2_with fail
    refine (release_any cs name ha hl hc l _ hsz hone h36 HLL.out b9 ((((HRa.out.ext _ _).alloc _).ext _ _).alloc _) HA.out).mono ?_
    rintro e w' ⟨A3, k3, c3, rfl, hb, hk3, hr3, -⟩
    obtain ⟨d7, bs7, rfl⟩ := ext_of_below hb
    have HR6 := hid hr3
    have HK3 := hid hk3
    have hone3 := ones_set cs 36 (.slice A3 k3 c3) hone rfl
    rw [hRN.out]
    clear hb hr3 hk3
    go_wp2_with fail
    refine (refRelease_any cs name ha hl hc l _ hsz hone h36 HLL.out b9 ((((((HRa.out.ext _ _).alloc _).ext _ _).alloc _).ext _ _).alloc _) HA.out).mono ?_
    rintro e w' ⟨A4, k4, c4, rfl, hb, hk4, hr4, -⟩
    obtain ⟨d8, bs8, rfl⟩ := ext_of_below hb
    obtain rfl : k4 = k3 := hk4.trans HK3.out.symm
    have HR7 := hid hr4
    have hone4 := ones_set cs 36 (.slice A4 k4 c4) hone rfl
    rw [hRN.out]
    clear hb hr4 hk4
    have HR4 := hid (((((((HR4.out.alloc (Obj.cells (cs.setIfInBounds 36 (Value.slice A1 k2 c1)) 59)).ext d6 bs6).alloc (Obj.cells (cs.setIfInBounds 36 (Value.slice A2 k2 c2)) 59)).ext d7 bs7).alloc (Obj.cells (cs.setIfInBounds 36 (Value.slice A3 k4 c3)) 59)).ext d8 bs8).alloc (Obj.cells (cs.setIfInBounds 36 (Value.slice A4 k4 c4)) 59))
    have HR5 := hid (((((HR5.out.alloc (Obj.cells (cs.setIfInBounds 36 (Value.slice A2 k2 c2)) 59)).ext d7 bs7).alloc (Obj.cells (cs.setIfInBounds 36 (Value.slice A3 k4 c3)) 59)).ext d8 bs8).alloc (Obj.cells (cs.setIfInBounds 36 (Value.slice A4 k4 c4)) 59))
    have HR6 := hid (((HR6.out.alloc (Obj.cells (cs.setIfInBounds 36 (Value.slice A3 k4 c3)) 59)).ext d8 bs8).alloc (Obj.cells (cs.setIfInBounds 36 (Value.slice A4 k4 c4)) 59))
    have HR7 := hid (HR7.out.alloc (Obj.cells (cs.setIfInBounds 36 (Value.slice A4 k4 c4)) 59))
    have HR8 := hid ((((((((HRa.out.ext d5 bs5).alloc (Obj.cells (cs.setIfInBounds 36 (Value.slice A1 k2 c1)) 59)).ext d6 bs6).alloc (Obj.cells (cs.setIfInBounds 36 (Value.slice A2 k2 c2)) 59)).ext d7 bs7).alloc (Obj.cells (cs.setIfInBounds 36 (Value.slice A3 k4 c3)) 59)).ext d8 bs8).alloc (Obj.cells (cs.setIfInBounds 36 (Value.slice A4 k4 c4)) 59))
    have HR9 := hid ((((((((((((HR3.out.alloc (Obj.cells FC 59)).ext d4 bs4).alloc (Obj.cells FC 59)).ext d5 bs5).alloc (Obj.cells (cs.setIfInBounds 36 (Value.slice A1 k2 c1)) 59)).ext d6 bs6).alloc (Obj.cells (cs.setIfInBounds 36 (Value.slice A2 k2 c2)) 59)).ext d7 bs7).alloc (Obj.cells (cs.setIfInBounds 36 (Value.slice A3 k4 c3)) 59)).ext d8 bs8).alloc (Obj.cells (cs.setIfInBounds 36 (Value.slice A4 k4 c4)) 59)))
    have HI := hid (intsAt_alloc (intsAt_ext (intsAt_alloc (intsAt_ext (intsAt_alloc (intsAt_ext (intsAt_alloc (intsAt_ext (intsAt_alloc (intsAt_ext (intsAt_alloc (intsAt_ext (intsAt_alloc (intsAt_ext (intsAt_alloc (intsAt_alloc H3.out (Obj.cells cs 59)) (Obj.cells ks 61)) d1 bs1) (Obj.cells (cs.setIfInBounds 36 (Value.slice A' hl c')) 59)) d3 (bs2 ++ bs3)) (Obj.cells FC 59)) d4 bs4) (Obj.cells FC 59)) d5 bs5) (Obj.cells (cs.setIfInBounds 36 (Value.slice A1 k2 c1)) 59)) d6 bs6) (Obj.cells (cs.setIfInBounds 36 (Value.slice A2 k2 c2)) 59)) d7 bs7) (Obj.cells (cs.setIfInBounds 36 (Value.slice A3 k4 c3)) 59)) d8 bs8) (Obj.cells (cs.setIfInBounds 36 (Value.slice A4 k4 c4)) 59))
    have HL1 : Hid (k2 ≤ 1000) := hid (by have h1 := holdL_length l name; have h2 := HK1.out; have h3 := HLL.out; omega)
    have HL3 : Hid (k4 ≤ 1000) := hid (by have h1 := relL_length l name; have h2 := HK3.out; have h3 := HLL.out; omega)
    clear HRa HR3 H3
    go_wp2_with fail
    refine (same_fire cs ev fired now ha hl hc l addr cls created event note ta tl tc z _ hsz HX.out HAL.out h32 h33 h34 h35 h36 h37 h38 HLL.out.symm (by omega) HR8.out HZ.out.symm (by omega) HI.out FC HFC.out).mono ?_
    rintro e w' ⟨rfl, hb⟩
    obtain ⟨d9, bs9, rfl⟩ := ext_of_below hb
    clear hb
    go_wp2_with fail
    refine (same_yes cs A1 A2 k2 c1 c2 (holdL l name) addr cls created event fired note ta tl tc z _ hsz HX.out HAL.out h32 h33 h34 h35 h37 h38 HK1.out HL1.out (HR4.out.ext _ _) (HR5.out.ext _ _) HZ.out.symm (by omega) (intsAt_ext HI.out _ _)).mono ?_
    rintro e w' ⟨rfl, hb⟩
    obtain ⟨d10, bs10, rfl⟩ := ext_of_below hb
    clear hb
    go_wp2_with fail
    refine (same_yes cs A3 A4 k4 c3 c4 (relL l name) addr cls created event fired note ta tl tc z _ hsz HX.out HAL.out h32 h33 h34 h35 h37 h38 HK3.out HL3.out (HR6.out.ext _ _) (HR7.out.ext _ _) HZ.out.symm (by omega) (intsAt_ext HI.out _ _)).mono ?_
    rintro e w' ⟨rfl, hb⟩
    obtain ⟨d11, bs11, rfl⟩ := ext_of_below hb
    clear hb
    go_wp2_with fail
    have sl : ∀ w' : World, Rd w' ha (strV l) → Rd w' A' (strV l) → intsAt w' ta z → Calls Try.prog 43 #[.agg cs, .agg (cs.setIfInBounds 36 (Value.slice A' hl c'))] w' fun e w'' => e = .returned (.bool true) ∧ Below w'.heap.size w' w'' := by
      intro w' g1 g2 g3
      have h := same_yes cs ha A' hl hc c' l addr cls created event fired note ta tl tc z w' hsz HX.out HAL.out h32 h33 h34 h35 h37 h38 HLL.out.symm (by omega) g1 g2 HZ.out.symm (by omega) g3
      rw [set_self h36] at h
      exact h
    refine (sl _ (HR8.out.ext _ _) (HR9.out.ext _ _) (intsAt_ext HI.out _ _)).mono ?_
    rintro e w' ⟨rfl, hb⟩
    obtain ⟨d12, bs12, rfl⟩ := ext_of_below hb
    clear hb sl
    go_wp2_with (go_at_call 29; refine (works _).mono ?_; rintro e w' ⟨rfl, d13, bs13, rfl⟩)
    go_ret
    refine ⟨rfl, ?_⟩
    with_reducible refine below_ext' (Below.alloc (below_ext' (Below.alloc (below_ext' (Below.alloc (below_ext' (Below.alloc (below_ext' (Below.alloc (below_ext' (Below.alloc (below_ext' (Below.alloc (below_ext' (Below.alloc (Below.alloc (Below.refl _ _) ?_ _) ?_ _) ?_ _ _) ?_ _) ?_ _ _) ?_ _) ?_ _ _) ?_ _) ?_ _ _) ?_ _) ?_ _ _) ?_ _) ?_ _ _) ?_ _) ?_ _ _) ?_ _) ?_ _ _
    all_goals first | exact Nat.le_refl _ | (simp only [size_ext, World.size_alloc]; omega)
end Go.Proofs.Yticgpiipikneiaa
