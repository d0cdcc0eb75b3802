/- The reference's measures in their order. -/
import Derived.Test.YtldhbodhpdhncaaMq
set_option linter.unusedSimpArgs false
set_option linter.unusedVariables false
namespace Go.Proofs.Ytldhbodhpdhncaa
open Go.ChangeShapes Go.WideShapes Go.RowKit Go.Mor Go.Fl

theorem quietL {P : Program} {f : FuncId} {args : Array Value} {w : World} {n : Nat} {v : Value} (h : Calls P f args (w.drewN n) fun e w' => e = .returned v ∧ w.drewN n = w') : Calls P f args (w.drewN n) fun e w'' => e = .returned v ∧ ∃ m, w'' = w.drewN m :=
  h.mono fun _ _ ⟨he, hm⟩ => ⟨he, n, hm.symm⟩
def SortPost (l : List Nat) (w : World) (e : Ending) (w' : World) : Prop := ∃ A c, e = .returned (.slice A l.length c) ∧ Below w.heap.size w w' ∧ Flt w' A (sortN l)
theorem rd_cut {w : World} {b off : Nat} {l : List Nat} (h : Flt w (some ⟨b, off, none⟩) l) (k : Nat) : Rd w (some ⟨b, off + k, none⟩) (fltV (l.drop k)) := by
  rcases h with h | ⟨b', off', h1, h2, h3⟩
  · subst h; exact .inl (by simp [fltV])
  · injection h1 with h1
    injection h1 with h1 h4
    subst h1; subst h4
    refine .inr ⟨_, rfl, h2, fun j u hu => ?_⟩
    rw [fltV, List.getElem?_map, List.getElem?_drop] at hu
    cases hq : l[k + j]? with
    | none => rw [hq] at hu; cases hu
    | some q =>
      rw [hq] at hu
      injection hu with hu
      subst hu
      rw [Addr.add_lit, Nat.add_assoc]; exact h3 _ q hq
theorem hown_cap {w : World} {base : Nat} {e : TypeId} {A : Option Addr} {n c : Nat} {xs : List Value} (h : w.ownsRow base e 1 (.slice A n c) n xs) : n ≤ c := by
  rcases h.2 with ⟨h2, h3⟩ | ⟨g, cap, cur, hv, hb, hg, hnc, _⟩
  · injection h2 with _ h4 h5
    omega
  · injection hv with _ _ h5
    omega
theorem hown_some {w : World} {base : Nat} {e : TypeId} {A : Option Addr} {n c : Nat} {xs : List Value} (h : w.ownsRow base e 1 (.slice A n c) n xs) (hn : 0 < n) : ∃ g, A = some ⟨g, 0, none⟩ := by
  rcases h.2 with ⟨h2, h3⟩ | ⟨g, cap, cur, hv, _⟩
  · omega
  · injection hv with hv _ _
    exact ⟨g, hv⟩
def SortIn (l : List Nat) (n : Nat) (w : World) (v t : Value) (wr : World) : Prop :=
  ∃ (i : Nat) (A : Option Addr) (c d : Nat) (bs : Array Obj), i ≤ n ∧ i ≤ c ∧ t = .int .i64 i ∧ v = .slice A i c ∧ wr = ext w d bs ∧ Flt (ext w d bs) A (sortN (l.take i)) ∧ ((A = none ∧ c = 0) ∨ ∃ g, A = some ⟨g, 0, none⟩)
def NextIn (S : List Nat) (x i : Nat) (W : World) (v t : Value) (wr : World) : Prop :=
  ∃ (k : Nat) (A : Option Addr) (c d : Nat) (bs : Array Obj), k ≤ i ∧ t = .int .i64 k ∧ v = .slice A k c ∧ wr = ext W d bs ∧ (ext W d bs).ownsRow W.heap.size 23 1 (.slice A k c) k (fltV (S.take k)) ∧ ∀ j y, j < k → S[j]? = some y → cmpN y x ≤ 0
set_option maxHeartbeats 2000000 in
set_option maxRecDepth 100000 in
theorem sorted_any (A : Option Addr) (n c : Nat) (l : List Nat) (w : World) (hl : l.length = n) (hm : n ≤ 1000) (hA : Flt w A l) (hf : fits l) :
    Calls Try.prog 61 #[.slice A n c] w (SortPost l w) := by
  have HL := hid hl
  have HS := hid hA
  have HF := hid hf
  clear hl hA hf
  obtain ⟨i0, hi, hz0, hz1, hz2⟩ := info_parts info23
  go_enter Try.func61, Try.ntmps61
  go_wp2
  go_loopw [3, 4, 5, 6] (fun v t _ _ wr => SortIn l n w v t wr) (fun _ t _ _ _ => n - (intOf t).toNat)
  case atStart => exact ⟨0, none, 0, _, #[], Nat.zero_le _, Nat.zero_le _, rfl, rfl, by simp [ext]; rfl, .inl (by simp [sortN]), .inl ⟨rfl, rfl⟩⟩
  case round =>
    obtain ⟨i, A1, c1, d, bs, hi1, hic, rfl, rfl, rfl, hS, hA1⟩ := hrel
    have HAA := hid hA1
    clear hA1
    have HO := hid hS
    clear hS
    by_cases hlt : i < n
    · obtain ⟨x, hx⟩ : ∃ x, l[i]? = some x := ⟨_, List.getElem?_eq_getElem (by have := HL.out; omega)⟩
      obtain ⟨W, hW⟩ : ∃ W, W = ext w d bs := ⟨_, rfl⟩
      have HBW : Hid (Below w.heap.size w W) := hid (by rw [hW]; exact below_ext w d bs)
      rw [← hW] at HO ⊢
      have HSW : Hid (Flt W A l) := hid (flt_ext HS.out HBW.out)
      clear hW
      obtain ⟨g, off, rfl, hbw, hcell⟩ := HSW.out.at hx
      have HX := hid hx
      have LX := hid (fits_get HF.out hx)
      clear hx
      have hi2 : (0 : Int) ≤ (i : Int) := by omega
      have hi3 : (i : Int) < (n : Int) := by omega
      have HSl : Hid ((sortN (l.take i)).length = i) := hid (by rw [sortN_length, List.length_take]; have := HL.out; omega)
      have HSf : Hid (fits (sortN (l.take i))) := hid (fun y hy => HF.out y (List.mem_of_mem_take ((sortN_perm _).mem_iff.1 hy)))
      obtain ⟨S, hSd⟩ : ∃ S, sortN (l.take i) = S := ⟨_, rfl⟩
      have HSd := hid hSd
      rw [hSd] at HO HSl HSf
      clear hSd
      go_wp2
      go_loopw [5, 6] (NextIn S x i W) (fun _ t _ => i - (intOf t).toNat)
      case atStart => exact ⟨0, none, 0, _, #[], Nat.zero_le _, rfl, rfl, by simp [ext]; rfl, World.ownsRow_nil _ _ _ _, fun j y h => by omega⟩
      case round =>
        obtain ⟨k, A2, c2, d2, bs2, hk, rfl, rfl, rfl, hown, hle⟩ := hrel
        obtain ⟨W3, hW3⟩ : ∃ W3, W3 = ext W d2 bs2 := ⟨_, rfl⟩
        have HB3 : Hid (Below W.heap.size W W3) := hid (by rw [hW3]; exact below_ext W d2 bs2)
        rw [← hW3] at hown ⊢
        have HO3 : Hid (Flt W3 A1 S) := hid (flt_ext HO.out HB3.out)
        have HSW3 : Hid (Flt W3 _ l) := hid (flt_ext HSW.out HB3.out)
        have HW2 := hid hown
        have HLe := hid hle
        clear hown hle hW3
        have hk0 : (0 : Int) ≤ (k : Int) := by omega
        obtain ⟨g1, off1, hA1, hbw1, hcell1⟩ := HSW3.out.at HX.out
        injection hA1 with hA1
        injection hA1 with e1 e2
        subst e1; subst e2
        by_cases hki : k < i
        · obtain ⟨y, hy⟩ : ∃ y, S[k]? = some y := ⟨_, List.getElem?_eq_getElem (by have := HSl.out; omega)⟩
          obtain ⟨g2, off2, rfl, hbw2, hcell2⟩ := HO3.out.at hy
          have HY := hid hy
          have LY := hid (fits_get HSf.out hy)
          clear hy
          have hk1 : (k : Int) < (i : Int) := by omega
          have hg1 : decide ((k : Int) < (i : Int)) = true := by simpa using hk1
          go_wp2
          by_cases hc : cmpN y x ≤ 0
          · have hgc : decide (cmpN y x ≤ 0) = true := decide_eq_true hc
            go_quiet ((go_at_call 17; exact quietL (refCompare_any _ _ _ LY.out LX.out)))
            go_wp2_with (at_builtin; refine wpList_append_ext rfl _ _ 40 rfl W ?hw 23 i0 (.float .f64 0) 1 8 under40 hi hz0 hz1 hz2 rfl (by decide) _ k (fltV (S.take k)) rfl ?own (some ⟨W3.heap.size, 0, none⟩) 1 1 [.float .f64 y] rfl (rd_newF _ _ _) rfl ?ho ?h63 ?hb ?_)
            case hw => exact (below_drewN HB3.out _).alloc (by have := HB3.out.size; simp; omega) _
            case own => exact HW2.out.alloc _
            case ho => intro u hu; simp at hu; subst hu; rfl
            case h63 => unfold maxLen; omega
            case hb => omega
            intro A4 c4 d4 bs4 hown4
            have HO4 := hid hown4
            clear hown4
            go_wp2
            refine ⟨⟨k + 1, A4, c4, d4, bs4, by omega, by go_num, rfl, rfl, ?_, ?_⟩, by simp [intOf]; omega⟩
            · rw [take_succ HY.out]
              simpa [fltV] using HO4.out
            · intro j z hj hz
              by_cases hjk : j = k
              · subst hjk; rw [HY.out] at hz; injection hz with hz; subst hz; exact hc
              · exact HLe.out j z (by omega) hz
          · have hgc : decide (cmpN y x ≤ 0) = false := decide_eq_false hc
            go_quiet ((go_at_call 17; exact quietL (refCompare_any _ _ _ LY.out LX.out)))
            have HAH : Hid (aheadN x S = k) := hid (ahead_of HLe.out (by have := HSl.out; omega) (fun z hz => by rw [HY.out] at hz; injection hz with hz; subst hz; omega))
            go_wp2_with (at_builtin; refine wpList_append_ext rfl _ _ 40 rfl W ?hw 23 i0 (.float .f64 0) 1 8 under40 hi hz0 hz1 hz2 rfl (by decide) _ k (fltV (S.take k)) rfl ?own (some ⟨W3.heap.size, 0, none⟩) 1 1 [.float .f64 x] rfl (rd_newF _ _ _) rfl ?ho ?h63 ?hb ?_)
            case hw => first | exact (below_drewN HB3.out _).alloc (by have := HB3.out.size; simp; omega) _ | exact HB3.out.alloc (by have := HB3.out.size; simp; omega) _ | exact HB3.out.drew.alloc (by have := HB3.out.size; simp; omega) _
            case own => exact HW2.out.alloc _
            case ho => first | rfl | (intro u hu; simp at hu; subst hu; rfl)
            case h63 => unfold maxLen; omega
            case hb => omega
            intro A4 c4 d4 bs4 hown4
            have HO4 := hid hown4
            clear hown4
            go_wp2_with (at_builtin; refine wpList_append_ext rfl _ _ 40 rfl W ?hwB 23 i0 (.float .f64 0) 1 8 under40 hi hz0 hz1 hz2 rfl (by decide) _ (k + 1) (fltV (S.take k) ++ [Value.float .f64 x]) rfl ?ownB _ _ _ (fltV (S.drop k)) rfl ?hrB ?hlB (fltV_one _) ?h63B ?hbB ?_)
            case hwB => exact below_ext _ _ _
            case ownB => exact HO4.out
            case hrB => first | exact rd_cut (flt_ext HO.out (below_ext _ _ _)) k | (have hh := rd_cut (flt_ext HO.out (below_ext W d4 bs4)) k; rw [Nat.zero_add] at hh; exact hh)
            case hlB => simp [fltV]; have := HSl.out; skip; omega
            case h63B => unfold maxLen; omega
            case hbB => omega
            intro A6 c6 d6 bs6 hown6
            have hown6 : (ext W d6 bs6).ownsRow W.heap.size 23 1 (.slice A6 (i + 1) c6) (i + 1) (fltV (sortN (l.take (i + 1)))) := by
              have e : sortN (l.take (i + 1)) = S.take k ++ x :: S.drop k := by rw [sortN_succ HX.out, HSd.out, insN_eq, HAH.out]
              have e2 : fltV (S.take k ++ x :: S.drop k) = fltV (S.take k) ++ Value.float .f64 x :: fltV (S.drop k) := by simp [fltV]
              rw [e, e2]
              skip
              have e3 : k + 1 + (i - k) = i + 1 := by omega
              rw [e3] at hown6
              exact hown6
            have HO6 := hid hown6
            have HBW6 : Hid (∃ d7 bs7, ext W d6 bs6 = ext w d7 bs7) := hid (by
              obtain ⟨d7, bs7, h⟩ := ext_of_below (HBW.out.trans ((below_ext W d6 bs6).mono HBW.out.size))
              exact ⟨d7, bs7, h⟩)
            go_wp2
            obtain ⟨d7, bs7, h7⟩ := HBW6.out
            have e3 : k + 1 + (i - k) = i + 1 := by skip; omega
            refine ⟨⟨i + 1, A6, c6, d7, bs7, by omega, hown_cap HO6.out, by go_num, by rw [e3], h7, ?_, ?_⟩, by simp [intOf]; omega⟩
            · rw [← h7]; exact Flt.of_rd (owns_rd HO6.out)
            · obtain ⟨g6, h6⟩ := hown_some HO6.out (by omega)
              exact .inr ⟨g6, h6⟩
        · have hki2 := hid (show k = i by omega)
          clear hki
          have hg1 : decide (k < i) = false := by have := hki2.out; simp; omega
          have HAH : Hid (aheadN x S = k) := hid (ahead_of HLe.out (by have := HSl.out; omega) (fun z hz => by have := hki2.out; have := (List.getElem?_eq_some_iff.1 hz).1; have := HSl.out; omega))
          by_cases hck : k = c1
          · subst hck
            go_wp2
            go_quiet (fail)
            go_wp2_with (at_builtin; refine wpList_append_ext rfl _ _ 40 rfl W ?hw 23 i0 (.float .f64 0) 1 8 under40 hi hz0 hz1 hz2 rfl (by decide) _ k (fltV (S.take k)) rfl ?own (some ⟨W3.heap.size, 0, none⟩) 1 1 [.float .f64 x] rfl (rd_newF _ _ _) rfl ?ho ?h63 ?hb ?_)
            case hw => first | exact (below_drewN HB3.out _).alloc (by have := HB3.out.size; simp; omega) _ | exact HB3.out.alloc (by have := HB3.out.size; simp; omega) _ | exact HB3.out.drew.alloc (by have := HB3.out.size; simp; omega) _
            case own => exact HW2.out.alloc _
            case ho => first | rfl | (intro u hu; simp at hu; subst hu; rfl)
            case h63 => unfold maxLen; omega
            case hb => omega
            intro A4 c4 d4 bs4 hown4
            have HO4 := hid hown4
            clear hown4
            go_wp2_with (at_builtin; refine wpList_append_ext rfl _ _ 40 rfl W ?hwB 23 i0 (.float .f64 0) 1 8 under40 hi hz0 hz1 hz2 rfl (by decide) _ (k + 1) (fltV (S.take k) ++ [Value.float .f64 x]) rfl ?ownB _ _ _ (fltV (S.drop k)) rfl ?hrB ?hlB (fltV_one _) ?h63B ?hbB ?_)
            case hwB => exact below_ext _ _ _
            case ownB => exact HO4.out
            case hrB => (have hd : S.drop k = [] := List.drop_eq_nil_of_le (by have := HSl.out; have := hki2.out; omega)); rw [hd]; exact .inl rfl
            case hlB => simp [fltV]; have := HSl.out; have := hki2.out; omega
            case h63B => unfold maxLen; omega
            case hbB => omega
            intro A6 c6 d6 bs6 hown6
            have hown6 : (ext W d6 bs6).ownsRow W.heap.size 23 1 (.slice A6 (i + 1) c6) (i + 1) (fltV (sortN (l.take (i + 1)))) := by
              have e : sortN (l.take (i + 1)) = S.take k ++ x :: S.drop k := by rw [sortN_succ HX.out, HSd.out, insN_eq, HAH.out]
              have e2 : fltV (S.take k ++ x :: S.drop k) = fltV (S.take k) ++ Value.float .f64 x :: fltV (S.drop k) := by simp [fltV]
              rw [e, e2]
              have := hki2.out
              have e3 : k + 1 = i + 1 := by omega
              rw [e3] at hown6
              exact hown6
            have HO6 := hid hown6
            have HBW6 : Hid (∃ d7 bs7, ext W d6 bs6 = ext w d7 bs7) := hid (by
              obtain ⟨d7, bs7, h⟩ := ext_of_below (HBW.out.trans ((below_ext W d6 bs6).mono HBW.out.size))
              exact ⟨d7, bs7, h⟩)
            go_wp2
            obtain ⟨d7, bs7, h7⟩ := HBW6.out
            have e3 : k + 1 = i + 1 := by have := hki2.out; omega
            refine ⟨⟨i + 1, A6, c6, d7, bs7, by omega, hown_cap HO6.out, by go_num, by rw [e3], h7, ?_, ?_⟩, by simp [intOf]; omega⟩
            · rw [← h7]; exact Flt.of_rd (owns_rd HO6.out)
            · obtain ⟨g6, h6⟩ := hown_some HO6.out (by omega)
              exact .inr ⟨g6, h6⟩
          · obtain ⟨g2, rfl⟩ : ∃ g2, A1 = some ⟨g2, 0, none⟩ := by
              rcases HAA.out with ⟨_, h⟩ | h
              · exfalso; have := hki2.out; omega
              · exact h
            have hck2 : k < c1 := by have := hki2.out; omega
            clear hck
            go_wp2
            go_quiet (fail)
            go_wp2_with (at_builtin; refine wpList_append_ext rfl _ _ 40 rfl W ?hw 23 i0 (.float .f64 0) 1 8 under40 hi hz0 hz1 hz2 rfl (by decide) _ k (fltV (S.take k)) rfl ?own (some ⟨W3.heap.size, 0, none⟩) 1 1 [.float .f64 x] rfl (rd_newF _ _ _) rfl ?ho ?h63 ?hb ?_)
            case hw => first | exact (below_drewN HB3.out _).alloc (by have := HB3.out.size; simp; omega) _ | exact HB3.out.alloc (by have := HB3.out.size; simp; omega) _ | exact HB3.out.drew.alloc (by have := HB3.out.size; simp; omega) _
            case own => exact HW2.out.alloc _
            case ho => first | rfl | (intro u hu; simp at hu; subst hu; rfl)
            case h63 => unfold maxLen; omega
            case hb => omega
            intro A4 c4 d4 bs4 hown4
            have HO4 := hid hown4
            clear hown4
            go_wp2_with (at_builtin; refine wpList_append_ext rfl _ _ 40 rfl W ?hwB 23 i0 (.float .f64 0) 1 8 under40 hi hz0 hz1 hz2 rfl (by decide) _ (k + 1) (fltV (S.take k) ++ [Value.float .f64 x]) rfl ?ownB _ _ _ (fltV (S.drop k)) rfl ?hrB ?hlB (fltV_one _) ?h63B ?hbB ?_)
            case hwB => exact below_ext _ _ _
            case ownB => exact HO4.out
            case hrB => first | exact rd_cut (flt_ext HO.out (below_ext _ _ _)) k | (have hh := rd_cut (flt_ext HO.out (below_ext W d4 bs4)) k; rw [Nat.zero_add] at hh; exact hh)
            case hlB => simp [fltV]; have := HSl.out; have := hki2.out; omega
            case h63B => unfold maxLen; omega
            case hbB => omega
            intro A6 c6 d6 bs6 hown6
            have hown6 : (ext W d6 bs6).ownsRow W.heap.size 23 1 (.slice A6 (i + 1) c6) (i + 1) (fltV (sortN (l.take (i + 1)))) := by
              have e : sortN (l.take (i + 1)) = S.take k ++ x :: S.drop k := by rw [sortN_succ HX.out, HSd.out, insN_eq, HAH.out]
              have e2 : fltV (S.take k ++ x :: S.drop k) = fltV (S.take k) ++ Value.float .f64 x :: fltV (S.drop k) := by simp [fltV]
              rw [e, e2]
              have := hki2.out
              have e3 : k + 1 + (i - k) = i + 1 := by omega
              rw [e3] at hown6
              exact hown6
            have HO6 := hid hown6
            have HBW6 : Hid (∃ d7 bs7, ext W d6 bs6 = ext w d7 bs7) := hid (by
              obtain ⟨d7, bs7, h⟩ := ext_of_below (HBW.out.trans ((below_ext W d6 bs6).mono HBW.out.size))
              exact ⟨d7, bs7, h⟩)
            go_wp2
            obtain ⟨d7, bs7, h7⟩ := HBW6.out
            have e3 : k + 1 + (i - k) = i + 1 := by have := hki2.out; omega
            refine ⟨⟨i + 1, A6, c6, d7, bs7, by omega, hown_cap HO6.out, by go_num, by rw [e3], h7, ?_, ?_⟩, by simp [intOf]; omega⟩
            · rw [← h7]; exact Flt.of_rd (owns_rd HO6.out)
            · obtain ⟨g6, h6⟩ := hown_some HO6.out (by omega)
              exact .inr ⟨g6, h6⟩
    · have hin : i = n := by omega
      subst hin
      have hF : Flt (ext w d bs) A1 (sortN l) := by
        have h := HO.out
        rwa [List.take_of_length_le (by have := HL.out; omega)] at h
      have HFl := hid hF
      clear hF HO
      go_wp2
      go_ret
      exact ⟨A1, c1, by rw [HL.out]; rfl, below_ext _ _ _, HFl.out⟩
end Go.Proofs.Ytldhbodhpdhncaa
