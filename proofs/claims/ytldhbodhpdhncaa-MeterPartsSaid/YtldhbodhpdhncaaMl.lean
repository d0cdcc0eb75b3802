/- The reference's measures that are some. -/
import Derived.Test.YtldhbodhpdhncaaMk
set_option linter.unusedSimpArgs false
set_option linter.unusedVariables false
namespace Go.Proofs.Ytldhbodhpdhncaa
open Go.ChangeShapes Go.WideShapes Go.RowKit Go.Mor Go.Fl

theorem owns_base {w : World} {base : Nat} {e : TypeId} {A : Option Addr} {n c : Nat} {xs : List Value} (h : w.ownsRow base e 1 (.slice A n c) n xs) {b off : Nat} (hA : A = some ⟨b, off, none⟩) : base ≤ b ∧ b < w.heap.size := by
  subst hA
  rcases h.2 with ⟨h2, _⟩ | ⟨g, cap, cur, hv, hb, hg, _⟩
  · cases h2
  · injection hv with hv _ _
    injection hv with hv
    injection hv with hv _ _
    subst hv
    exact ⟨hb, (Array.getElem?_eq_some_iff.1 hg).1⟩
theorem eqB_self (x : Nat) : eqB x x = !nanB x := by
  have h := nan_ne x
  have e : eqB x x = !(FloatKind.f64.format.order x x != some Ordering.eq) := by unfold eqB; rw [bne, Bool.not_not]
  rw [e, h]
def someN (l : List Nat) : List Nat := l.filter fun x => !nanB x
theorem someN_yes {l : List Nat} {k x : Nat} (h : l[k]? = some x) (hn : nanB x = false) : someN (l.take (k + 1)) = someN (l.take k) ++ [x] := by
  unfold someN; rw [take_succ h, List.filter_append]; simp [hn]
theorem someN_no {l : List Nat} {k x : Nat} (h : l[k]? = some x) (hn : nanB x = true) : someN (l.take (k + 1)) = someN (l.take k) := by
  unfold someN; rw [take_succ h, List.filter_append]; simp [hn]
def SomesIn (l : List Nat) (n : Nat) (w : World) (v t : Value) (wr : World) : Prop :=
  ∃ (i m : Nat) (A : Option Addr) (c d : Nat) (bs : Array Obj), i ≤ n ∧ m ≤ i ∧ t = .int .i64 i ∧ v = .slice A m c ∧ wr = ext w d bs ∧ (ext w d bs).ownsRow w.heap.size 23 1 (.slice A m c) m (fltV (someN (l.take i)))
def SomesPost (l : List Nat) (w : World) (e : Ending) (w' : World) : Prop := ∃ A c, e = .returned (.slice A (someN l).length c) ∧ Below w.heap.size w w' ∧ Flt w' A (someN l) ∧ ∀ b off, A = some ⟨b, off, none⟩ → w.heap.size ≤ b
set_option maxHeartbeats 1000000 in
set_option maxRecDepth 100000 in
theorem some_any (A : Option Addr) (n c : Nat) (l : List Nat) (w : World) (hl : l.length = n) (hm : n ≤ 1000) (hA : Flt w A l) :
    Calls Try.prog 36 #[.slice A n c] w (SomesPost l w) := by
  have HL := hid hl
  have HS := hid hA
  clear hl hA
  obtain ⟨i0, hi, hz0, hz1, hz2⟩ := info_parts info23
  go_enter Try.func36, Try.ntmps36
  go_wp2
  go_loopw [3, 4] (SomesIn l n w) (fun _ t _ => n - (intOf t).toNat)
  case atStart => exact ⟨0, 0, none, 0, _, #[], Nat.zero_le _, Nat.le_refl _, rfl, rfl, by simp [ext]; rfl, World.ownsRow_nil _ _ _ _⟩
  case round =>
    obtain ⟨i, m, A1, c1, d, bs, hi1, hmi, rfl, rfl, rfl, hown⟩ := hrel
    have HO := hid hown
    clear hown
    by_cases hlt : i < n
    · obtain ⟨x, hx⟩ : ∃ x, l[i]? = some x := ⟨_, List.getElem?_eq_getElem (by have := HL.out; omega)⟩
      obtain ⟨g, off, rfl, hbw, hcell⟩ := HS.out.at hx
      have HX := hid hx
      clear hx
      have hi2 : (0 : Int) ≤ (i : Int) := by omega
      have hi3 : (i : Int) < (n : Int) := by omega
      have he := eqB_self x
      cases hn : nanB x with
      | true =>
        rw [hn] at he
        go_wp2
        go_quiet (fail)
        go_wp2
        refine ⟨⟨i + 1, m, A1, c1, _, bs, by omega, by omega, by go_num, rfl, rfl, ?_⟩, by simp [intOf]; omega⟩
        rw [someN_no HX.out hn]
        exact owns_ext HO.out rfl rfl _
      | false =>
        rw [hn] at he
        go_wp2
        go_quiet (fail)
        go_wp2_with (at_builtin; refine wpList_append_ext rfl _ _ 40 rfl w ?hw 23 i0 (.float .f64 0) 1 8 under40 hi hz0 hz1 hz2 rfl (by decide) _ m (fltV (someN (l.take i))) rfl ?own (some ⟨w.heap.size + bs.size, 0, none⟩) 1 1 [.float .f64 x] rfl (rd_newF _ _ _) rfl ?ho ?h63 ?hb ?_)
        case hw => exact (below_ext _ _ _).alloc (by simp) _
        case own => exact (owns_ext HO.out rfl rfl _).alloc _
        case ho => intro u hu; simp at hu; subst hu; rfl
        case h63 => unfold maxLen; omega
        case hb => omega
        intro A2 c2 d2 bs2 hown2
        have HO2 := hid hown2
        clear hown2
        go_wp2
        refine ⟨⟨i + 1, m + 1, A2, c2, d2, bs2, by omega, by omega, by go_num, rfl, rfl, ?_⟩, by simp [intOf]; omega⟩
        rw [someN_yes HX.out hn]
        simpa [fltV] using HO2.out
    · have hin : i = n := by omega
      subst hin
      have hF : Flt (ext w d bs) A1 (someN l) := by
        have h := Flt.of_rd (owns_rd HO.out)
        rwa [List.take_of_length_le (by have := HL.out; omega)] at h
      have hlen : (someN l).length = m := by
        have h := HO.out.1
        rw [List.take_of_length_le (by have := HL.out; omega)] at h
        simpa [fltV] using h
      have HFl := hid hF
      have HLn := hid hlen
      clear hF hlen
      go_wp2
      go_ret
      exact ⟨A1, c1, by rw [HLn.out]; rfl, below_ext _ _ _, HFl.out, fun b off hA => (owns_base HO.out hA).1⟩
end Go.Proofs.Ytldhbodhpdhncaa
