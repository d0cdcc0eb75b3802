/- The contracts of slices.Clone and of keep.Hold. -/
import Derived.Test.YticgpiipikneiaaKe
import Derived.Test.YticgpiipikneiaaBaseB
import Derived.Lib.SliceRun
set_option linter.unusedSimpArgs false
set_option linter.unusedVariables false
namespace Go.Proofs.Yticgpiipikneiaa
open Go.ChangeShapes Go.WideShapes Go.RowKit Go.Mor

theorem info9 : (Try.prog.info? 9).map (fun i => (i.zero, i.size, i.bytes)) = some (some (.string ByteArray.empty), 1, 16) := by kernel_rfl

def strV (l : List ByteArray) : List Value := l.map Value.string
theorem strV_one (l : List ByteArray) : ∀ u ∈ strV l, u.oneCell' = true := by
  intro u hu; obtain ⟨_, _, rfl⟩ := List.mem_map.1 hu; rfl

def ClonePost (n : Nat) (l : List ByteArray) (w : World) (e : Ending) (w' : World) : Prop := ∃ A c, e = .returned (.slice A n c) ∧ Below w.heap.size w w' ∧ w'.ownsRow w.heap.size 9 1 (.slice A n c) n (strV l)

theorem clone_any (A : Option Addr) (n c : Nat) (l : List ByteArray) (w : World) (hl : l.length = n) (hm : n ≤ 100000) (hs : Rd w A (strV l)) (hA : A = none → n = 0) :
    Calls Try.prog 63 #[.slice A n c] w (ClonePost n l w) := by
  have hne := fun w' => Lib.run_eql_slice_nil (P := Try.prog) w' 57 9 A n c 0 0 Try.underlying57
  obtain ⟨i0, hi, hz0, hz1, hz2⟩ := info_parts info9
  rcases A with _ | ad
  · obtain rfl : n = 0 := hA rfl
    obtain rfl : l = [] := List.eq_nil_of_length_eq_zero hl
    go_enter Try.func63, Try.ntmps63
    go_wp2
    go_ret
    exact ⟨none, 0, rfl, Below.refl _ _, World.ownsRow_nil _ _ _ _⟩
  · have HS := hid hs
    clear hs hA
    go_enter Try.func63, Try.ntmps63
    go_wp2_with (at_builtin; refine wpList_append_ext rfl _ _ 57 rfl w ?hw 9 i0 (.string ByteArray.empty) 1 16 Try.underlying57 hi hz0 hz1 hz2 rfl (by decide) _ 0 [] rfl ?own (some ad) n c (strV l) rfl ?hr ?hl (strV_one l) ?h63 ?hb ?_)
    case hw => exact (Below.refl _ _).alloc (Nat.le_refl _) _
    case own => exact World.ownsRow_made w #[] 0 (Nat.le_refl _) (by decide) rfl
    case hr => exact HS.out.alloc _
    case hl => simp [strV, hl]
    case h63 => unfold maxLen; omega
    case hb => omega
    intro A' c' d' bs' hown
    go_wp2
    go_ret
    exact ⟨A', c', rfl, below_ext _ _ _, hown⟩

/-- What a clip is: the cells of the struct that the functions read. -/
structure IsClip (cs : Array Value) (cls created event : Int) (fired : Bool) (ha : Option Addr) (hl hc : Nat) (note : ByteArray) (ta : Option Addr) (tl tc : Nat) : Prop where
  sz : isSz cs 39 = true
  one : ones cs = true
  cls : cs[32]? = some (.int .i64 cls)
  created : cs[33]? = some (.int .i64 created)
  fired : cs[34]? = some (.bool fired)
  event : cs[35]? = some (.int .i64 event)
  holds : cs[36]? = some (.slice ha hl hc)
  note : cs[37]? = some (.string note)
  texts : cs[38]? = some (.slice ta tl tc)

theorem set_self {cs : Array Value} {i : Nat} {v : Value} (h : cs[i]? = some v) : cs.setIfInBounds i v = cs := by
  apply Array.ext_getElem?
  intro j
  rw [Array.getElem?_setIfInBounds]
  by_cases hj : i = j
  · subst hj
    have hlt : i < cs.size := by
      rcases Nat.lt_or_ge i cs.size with h' | h'
      · exact h'
      · simp [Array.getElem?_eq_none h'] at h
    rw [if_pos rfl, if_pos hlt, h]
  · simp [hj]

def holdN (l : List ByteArray) (s : ByteArray) : Int := if nameN s ≠ 0 then nameN s else if inN l s = true then 9 else if 4 ≤ l.length then 7 else 0
def holdL (l : List ByteArray) (s : ByteArray) : List ByteArray := if holdN l s = 0 then l ++ [s] else l
/-- A clip comes back, but for its holds, which are l', and a code. -/
def ClipPost (cs : Array Value) (code : Int) (l' : List ByteArray) (w : World) (e : Ending) (w' : World) : Prop :=
  ∃ A k c, e = .returned (.tuple #[.agg (cs.setIfInBounds 36 (.slice A k c)), .int .i64 code]) ∧ Below w.heap.size w w' ∧ k = l'.length ∧ Rd w' A (strV l') ∧ (A = none → k = 0)

theorem Strs.of_rd {w : World} {A : Option Addr} {l : List ByteArray} (h : Rd w A (strV l)) : Strs w A l := by
  cases l with
  | nil => exact .inl rfl
  | cons x r =>
    rcases h with h | ⟨⟨b, off, spot⟩, h1, h2, h3⟩
    · simp [strV] at h
    · have h0 := h3 0 (.string x) rfl
      have hsp : spot = none := by simpa [Addr.add] using World.cell?_spot h0
      subst hsp
      refine .inr ⟨b, off, h1, h2, fun j s hj => ?_⟩
      have := h3 j (.string s) (by rw [strV, List.getElem?_map, hj]; rfl)
      simpa [Addr.add_lit] using this

theorem rd_new (W : World) (s : ByteArray) (g : Nat) (h : g = W.heap.size := by simp) : Rd (W.alloc (.cells #[.string s] 9)) (some ⟨g, 0, none⟩) [.string s] := by
  subst h
  refine .inr ⟨_, rfl, by simp, fun j u hj => ?_⟩
  match j, hj with
  | 0, hj => simp at hj; subst hj; simp [Addr.add_lit]
theorem owns_none {w : World} {B e n c : Nat} {xs : List Value} (h : w.ownsRow B e 1 (.slice none n c) n xs) (hn : 0 < n) : False := by
  rcases h.2 with ⟨_, h⟩ | ⟨g, cap, cur, hv, _⟩
  · omega
  · cases hv

theorem rd_snoc {W : World} {d : Nat} {bs : Array Obj} {A : Option Addr} {n c : Nat} {l : List ByteArray} {s : ByteArray} {B : Nat} (h : (ext W d bs).ownsRow B 9 1 (.slice A n c) n (strV l ++ [.string s])) : Rd (ext W d bs) A (strV (l ++ [s])) := by
  have := owns_rd h
  simpa [strV] using this

set_option maxRecDepth 100000 in
set_option maxHeartbeats 1000000 in
theorem hold_any (cs : Array Value) (s : ByteArray) (ha : Option Addr) (n c : Nat) (l : List ByteArray) (w : World)
    (hsz : isSz cs 39 = true) (hone : ones cs = true) (h36 : cs[36]? = some (.slice ha n c)) (hl : l.length = n) (hm : n ≤ 30) (hs : Rd w ha (strV l)) (hA : ha = none → n = 0) :
    Calls Try.prog 39 #[.agg cs, .string s] w (ClipPost cs (holdN l s) (holdL l s) w) := by
  have hB : Below w.heap.size w ((w.alloc (Obj.cells cs 59)).alloc (Obj.cells cs 59)) := ((Below.refl _ _).alloc (Nat.le_refl _) _).alloc (by simp) _
  have back : ∀ code, code ≠ 0 → holdN l s = code → ClipPost cs (holdN l s) (holdL l s) w (.returned (.tuple #[.agg cs, .int .i64 code])) ((w.alloc (Obj.cells cs 59)).alloc (Obj.cells cs 59)) := by
    intro code hc hd
    have e2 : holdL l s = l := by simp [holdL, hd, hc]
    rw [e2, hd]
    exact ⟨ha, n, c, by rw [set_self h36], hB, hl.symm, hs.keep (Below.mono hB (by simp)), hA⟩
  have HS := hid hs
  have HA := hid hA
  clear hs hA
  by_cases h1 : nameN s = 0
  · have hn : (nameN s != 0) = false := by simpa using h1
    have HN := hid h1
    clear h1
    by_cases h2 : inN l s = true
    · have e1 : holdN l s = 9 := by simp [holdN, HN.out, h2]
      have Hb := hid (back 9 (by decide) e1)
      clear back e1
      go_enter Try.func39, Try.ntmps39
      go_wp2_with (first | (go_at_call 61; refine (name_any _ _).mono ?_; rintro e w' ⟨rfl, rfl⟩) | (go_at_call 62; refine (contains_any _ _ _ l _ _ hl (by unfold maxLen; omega) (Strs.of_rd ((HS.out.alloc _).alloc _))).mono ?_; rintro e w' ⟨rfl, rfl⟩))
      refine ret_row2 rfl _ 39 _ rfl Try.underlying59 rfl (by kernel_rfl) ?_ rfl ?_
      · simp [go_sem, hsz]
      · simpa [go_sem] using Hb.out
    · have h2 : inN l s = false := by simpa using h2
      by_cases h3 : 4 ≤ n
      · have e1 : holdN l s = 7 := by simp [holdN, HN.out, h2, hl, h3]
        have Hb := hid (back 7 (by decide) e1)
        clear back e1
        go_enter Try.func39, Try.ntmps39
        go_wp2_with (first | (go_at_call 61; refine (name_any _ _).mono ?_; rintro e w' ⟨rfl, rfl⟩) | (go_at_call 62; refine (contains_any _ _ _ l _ _ hl (by unfold maxLen; omega) (Strs.of_rd ((HS.out.alloc _).alloc _))).mono ?_; rintro e w' ⟨rfl, rfl⟩))
        refine ret_row2 rfl _ 39 _ rfl Try.underlying59 rfl (by kernel_rfl) ?_ rfl ?_
        · simp [go_sem, hsz]
        · simpa [go_sem] using Hb.out
      · have e1 : holdN l s = 0 := by simp [holdN, HN.out, h2, hl, h3]
        have e2 : holdL l s = l ++ [s] := by simp [holdL, e1]
        rw [e1, e2]
        clear back e1 e2
        obtain ⟨i0, hi, hz0, hz1, hz2⟩ := info_parts info9
        go_enter Try.func39, Try.ntmps39
        go_wp2_with (first | (go_at_call 61; refine (name_any _ _).mono ?_; rintro e w' ⟨rfl, rfl⟩) | (go_at_call 62; refine (contains_any _ _ _ l _ _ hl (by unfold maxLen; omega) (Strs.of_rd ((HS.out.alloc _).alloc _))).mono ?_; rintro e w' ⟨rfl, rfl⟩) | (go_at_call 63; refine (clone_any _ _ _ l _ hl (by omega) ((HS.out.alloc _).alloc _) HA.out).mono ?_; rintro e w' ⟨A1, c1, rfl, hb1, hown⟩; obtain ⟨d1, bs1, rfl⟩ := ext_of_below hb1; have HO := hid hown; clear hown hb1) | (at_builtin; refine wpList_append_ext rfl _ _ 57 rfl ((w.alloc (Obj.cells cs 59)).alloc (Obj.cells zero59 59)) ?hw 9 i0 (.string ByteArray.empty) 1 16 Try.underlying57 hi hz0 hz1 hz2 rfl (by decide) _ n (strV l) rfl (HO.out.alloc _) _ 1 1 [.string s] rfl ?hr rfl ?ho ?h63 ?hb ?_))
        case hw => exact (below_ext _ _ _).alloc (by simp) _
        case hr => exact rd_new _ _ _
        case ho => intro u hu; simp at hu; subst hu; rfl
        case h63 => unfold maxLen; omega
        case hb => omega
        intro A2 c2 d2 bs2 hown2
        have HO2 := hid hown2
        have hnn : A2 = none → False := fun h => by subst h; exact owns_none hown2 (by omega)
        have HNN := hid hnn
        have hone2 := ones_set cs 36 (.slice A2 (n + 1) c2) hone rfl
        clear hown2 hnn
        go_wp2
        refine ret_row2 rfl _ 39 _ rfl Try.underlying59 rfl (by kernel_rfl) ?_ rfl ?_
        · simp [go_sem, hsz]
        · refine ⟨A2, n + 1, c2, by simp [go_sem], ?_, by simp [hl], ?_, fun h => (HNN.out h).elim⟩
          · exact below_ext' (((Below.refl _ _).alloc (Nat.le_refl _) _).alloc (by simp) _) (by simp; omega) _ _
          · exact rd_snoc (owns_ext HO2.out (by simp) (by simp) _)
  · have hn : (nameN s != 0) = true := by simpa using h1
    have e1 : holdN l s = nameN s := by simp [holdN, h1]
    have Hb := hid (back (nameN s) h1 e1)
    clear back e1 h1
    go_enter Try.func39, Try.ntmps39
    go_wp2_with (go_at_call 61; refine (name_any _ _).mono ?_; rintro e w' ⟨rfl, rfl⟩)
    refine ret_row2 rfl _ 39 _ rfl Try.underlying59 rfl (by kernel_rfl) ?_ rfl ?_
    · simp [go_sem, hsz]
    · simpa [go_sem] using Hb.out
end Go.Proofs.Yticgpiipikneiaa
