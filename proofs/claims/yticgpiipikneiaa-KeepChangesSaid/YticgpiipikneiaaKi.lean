/- The contract of the reference's Hold. -/
import Derived.Test.YticgpiipikneiaaKh
set_option linter.unusedSimpArgs false
set_option linter.unusedVariables false
namespace Go.Proofs.Yticgpiipikneiaa
open Go.ChangeShapes Go.WideShapes Go.RowKit Go.Mor

theorem get_set {cs : Array Value} {n i : Nat} {v : Value} (hs : isSz cs n = true) (hi : i < n) : (cs.setIfInBounds i v)[i]? = some v := by
  have : cs.size = n := by simpa [isSz] using hs
  rw [Array.getElem?_setIfInBounds, if_pos rfl, if_pos (by omega)]
@[go_sem high] theorem get_set36 (cs : Array Value) (v : Value) (hs : isSz cs 39 = true) : (cs.setIfInBounds 36 v)[36]? = some v := get_set hs (by decide)

theorem refFind_yes (A : Option Addr) (n c : Nat) (l : List ByteArray) (s : ByteArray) (w : World) (hl : l.length = n) (hm : n ≤ maxLen) (hs : Strs w A l) (k : Int) (hk : findN l s = k) :
    Calls Try.prog 65 #[.slice A n c, .string s] w fun e w' => e = .returned (.int .i64 k) ∧ w = w' := by
  rw [← hk]; exact refFind_any A n c l s w hl hm hs

set_option maxRecDepth 100000 in
set_option maxHeartbeats 1000000 in
theorem refHold_any (cs : Array Value) (s : ByteArray) (ha : Option Addr) (n c : Nat) (l : List ByteArray) (w : World)
    (hsz : isSz cs 39 = true) (hone : ones cs = true) (h36 : cs[36]? = some (.slice ha n c)) (hl : l.length = n) (hm : n ≤ 30) (hs : Rd w ha (strV l)) (hA : ha = none → n = 0) :
    Calls Try.prog 40 #[.agg cs, .string s] w (ClipPost cs (holdN l s) (holdL l s) w) := by
  have hB : Below w.heap.size w ((w.alloc (Obj.cells cs 59)).alloc (Obj.cells cs 59)) := ((Below.refl _ _).alloc (Nat.le_refl _) _).alloc (by simp) _
  have back : ∀ code, code ≠ 0 → holdN l s = code → ClipPost cs (holdN l s) (holdL l s) w (.returned (.tuple #[.agg cs, .int .i64 code])) ((w.alloc (Obj.cells cs 59)).alloc (Obj.cells cs 59)) := by
    intro code hc hd
    have e2 : holdL l s = l := by simp [holdL, hd, hc]
    rw [e2, hd]
    exact ⟨ha, n, c, by rw [set_self h36], hB, hl.symm, hs.keep (Below.mono hB (by simp)), hA⟩
  have HS := hid hs
  have HA := hid hA
  clear hs hA
  by_cases h1 : nameN s = 0
  · have hn : (nameN s != 0) = false := by simpa using h1
    have HN := hid h1
    clear h1
    by_cases h2 : inN l s = true
    · have e1 : holdN l s = 9 := by simp [holdN, HN.out, h2]
      have Hb := hid (back 9 (by decide) e1)
      have h2' : 0 ≤ findN l s := by simpa [inN] using h2
      clear back e1 h2
      go_enter Try.func40, Try.ntmps40
      go_wp2_with (first | (go_at_call 64; refine (refName_any _ _).mono ?_; rintro e w' ⟨rfl, rfl⟩) | (go_at_call 65; refine (refFind_any _ _ _ l _ _ hl (by unfold maxLen; omega) (Strs.of_rd ((HS.out.alloc _).alloc _))).mono ?_; rintro e w' ⟨rfl, rfl⟩))
      refine ret_row2 rfl _ 39 _ rfl Try.underlying59 rfl (by kernel_rfl) ?_ rfl ?_
      · simp [go_sem, hsz]
      · simpa [go_sem] using Hb.out
    · have h2 : inN l s = false := by simpa using h2
      have h2' : findN l s < 0 := by simpa [inN] using h2
      by_cases h3 : 4 ≤ n
      · have e1 : holdN l s = 7 := by simp [holdN, HN.out, h2, hl, h3]
        have Hb := hid (back 7 (by decide) e1)
        clear back e1 h2
        go_enter Try.func40, Try.ntmps40
        go_wp2_with (first | (go_at_call 64; refine (refName_any _ _).mono ?_; rintro e w' ⟨rfl, rfl⟩) | (go_at_call 65; refine (refFind_any _ _ _ l _ _ hl (by unfold maxLen; omega) (Strs.of_rd ((HS.out.alloc _).alloc _))).mono ?_; rintro e w' ⟨rfl, rfl⟩))
        refine ret_row2 rfl _ 39 _ rfl Try.underlying59 rfl (by kernel_rfl) ?_ rfl ?_
        · simp [go_sem, hsz]
        · simpa [go_sem] using Hb.out
      · have e1 : holdN l s = 0 := by simp [holdN, HN.out, h2, hl, h3]
        have e2 : holdL l s = l ++ [s] := by simp [holdL, e1]
        rw [e1, e2]
        clear back e1 e2 h2
        obtain ⟨i0, hi, hz0, hz1, hz2⟩ := info_parts info9
        have hone0 := ones_set cs 36 (.slice none 0 0) hone rfl
        go_enter Try.func40, Try.ntmps40
        go_wp2_with (first | (go_at_call 64; refine (refName_any _ _).mono ?_; rintro e w' ⟨rfl, rfl⟩) | (go_at_call 65; refine (refFind_any _ _ _ l _ _ hl (by unfold maxLen; omega) (Strs.of_rd ((HS.out.alloc _).alloc _))).mono ?_; rintro e w' ⟨rfl, rfl⟩) | (at_builtin; refine wpList_append_ext rfl _ _ 57 rfl (((w.alloc (Obj.cells cs 59)).alloc (Obj.cells zero59 59)).alloc (Obj.cells (cs.setIfInBounds 36 (.slice none 0 0)) 59)) ?hw 9 i0 (.string ByteArray.empty) 1 16 Try.underlying57 hi hz0 hz1 hz2 rfl (by decide) _ 0 [] rfl ?hown ha n c (strV l) rfl ?hr ?hl (strV_one l) ?h63 ?hb ?_))
        case hw => exact Below.refl _ _
        case hown => exact World.ownsRow_nil _ _ _ _
        case hr => exact ((HS.out.alloc _).alloc _).alloc _
        case hl => simp [strV, hl]
        case h63 => unfold maxLen; omega
        case hb => omega
        intro A1 c1 d1 bs1 hown1
        have HO1 := hid hown1
        have hone1 := ones_set cs 36 (.slice A1 n c1) hone rfl
        clear hown1
        go_wp2_with (at_builtin; refine wpList_append_ext rfl _ _ 57 rfl (((w.alloc (Obj.cells cs 59)).alloc (Obj.cells zero59 59)).alloc (Obj.cells (cs.setIfInBounds 36 (.slice A1 n c1)) 59)) ?hw 9 i0 (.string ByteArray.empty) 1 16 Try.underlying57 hi hz0 hz1 hz2 rfl (by decide) _ n (strV l) rfl ((owns_ext HO1.out (by simp) (by simp) _).alloc _) _ 1 1 [.string s] rfl ?hr rfl ?ho ?h63 ?hb ?_)
        case hw => exact (below_ext _ _ _).alloc (by simp) _
        case hr => exact rd_new _ _ _
        case ho => intro u hu; simp at hu; subst hu; rfl
        case h63 => unfold maxLen; omega
        case hb => omega
        intro A2 c2 d2 bs2 hown2
        have HO2 := hid hown2
        have hnn : A2 = none → False := fun h => by subst h; exact owns_none hown2 (by omega)
        have HNN := hid hnn
        have hone2 := ones_set cs 36 (.slice A2 (n + 1) c2) hone rfl
        clear hown2 hnn
        go_wp2
        refine ret_row2 rfl _ 39 _ rfl Try.underlying59 rfl (by kernel_rfl) ?_ rfl ?_
        · simp [go_sem, hsz]
        · refine ⟨A2, n + 1, c2, by simp [go_sem], ?_, by simp [hl], ?_, fun h => (HNN.out h).elim⟩
          · exact below_ext' ((((Below.refl _ _).alloc (Nat.le_refl _) _).alloc (by simp) _).alloc (by simp; omega) _) (by simp; omega) _ _
          · exact rd_snoc (owns_ext HO2.out (by simp) (by simp) _)
  · have hn : (nameN s != 0) = true := by simpa using h1
    have e1 : holdN l s = nameN s := by simp [holdN, h1]
    have Hb := hid (back (nameN s) h1 e1)
    clear back e1 h1
    go_enter Try.func40, Try.ntmps40
    go_wp2_with (go_at_call 64; refine (refName_any _ _).mono ?_; rintro e w' ⟨rfl, rfl⟩)
    refine ret_row2 rfl _ 39 _ rfl Try.underlying59 rfl (by kernel_rfl) ?_ rfl ?_
    · simp [go_sem, hsz]
    · simpa [go_sem] using Hb.out
end Go.Proofs.Yticgpiipikneiaa
