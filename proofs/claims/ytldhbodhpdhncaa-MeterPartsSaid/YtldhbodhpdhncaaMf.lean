/- Copies of lists; the counts of a meter. -/
import Derived.Test.YtldhbodhpdhncaaMe
set_option linter.unusedSimpArgs false
set_option linter.unusedVariables false
namespace Go.Proofs.Ytldhbodhpdhncaa
open Go.ChangeShapes Go.WideShapes Go.RowKit Go.Mor Go.Fl

theorem Flt.rd {w : World} {A : Option Addr} {l : List Nat} (h : Flt w A l) : Rd w A (fltV l) := by
  rcases h with h | ⟨b, off, h1, h2, h3⟩
  · subst h; exact .inl rfl
  · refine .inr ⟨_, h1, h2, fun j u hu => ?_⟩
    rw [fltV, List.getElem?_map] at hu
    cases hq : l[j]? with
    | none => rw [hq] at hu; cases hu
    | some q =>
      rw [hq] at hu
      injection hu with hu
      subst hu
      rw [Addr.add_lit]; exact h3 j q hq
theorem under55 : Try.prog.underlying 55 = some (.slice 3) := by kernel_rfl
theorem info3 : (Try.prog.info? 3).map (fun i => (i.zero, i.size, i.bytes)) = some (some (.int .i64 0), 1, 8) := by kernel_rfl
def intV (l : List Nat) : List Value := l.map fun (v : Nat) => Value.int .i64 (v : Int)
theorem intV_one (l : List Nat) : ∀ u ∈ intV l, u.oneCell' = true := by
  intro u hu
  obtain ⟨x, _, rfl⟩ := List.mem_map.1 hu
  rfl
/-- A slice of ints reads as the list. -/
def Ins (w : World) (A : Option Addr) (l : List Nat) : Prop := l = [] ∨ ∃ b off, A = some ⟨b, off, none⟩ ∧ b < w.heap.size ∧ ∀ (j x : Nat), l[j]? = some x → w.cell? ⟨b, off + j, none⟩ = some (.int .i64 (x : Int))
theorem Ins.rd {w : World} {A : Option Addr} {l : List Nat} (h : Ins w A l) : Rd w A (intV l) := by
  rcases h with h | ⟨b, off, h1, h2, h3⟩
  · subst h; exact .inl rfl
  · refine .inr ⟨_, h1, h2, fun j u hu => ?_⟩
    rw [intV, List.getElem?_map] at hu
    cases hq : l[j]? with
    | none => rw [hq] at hu; cases hu
    | some q =>
      rw [hq] at hu
      injection hu with hu
      subst hu
      rw [Addr.add_lit]; exact h3 j q hq
theorem Ins.of_rd {w : World} {A : Option Addr} {l : List Nat} (h : Rd w A (intV l)) : Ins w A l := by
  cases l with
  | nil => exact .inl rfl
  | cons x r =>
    rcases h with h | ⟨⟨b, off, spot⟩, h1, h2, h3⟩
    · simp [intV] at h
    · have h0 := h3 0 (.int .i64 (x : Int)) rfl
      have hsp : spot = none := by simpa [Addr.add] using World.cell?_spot h0
      subst hsp
      refine .inr ⟨b, off, h1, h2, fun j s hj => ?_⟩
      have := h3 j (.int .i64 (s : Int)) (by rw [intV, List.getElem?_map, hj]; rfl)
      simpa [Addr.add_lit] using this
theorem Ins.keep {w w' : World} {A : Option Addr} {l : List Nat} (h : Ins w A l) (hb : Below w.heap.size w w') : Ins w' A l := by
  rcases h with h | ⟨b, off, h1, h2, h3⟩
  · exact .inl h
  · exact .inr ⟨b, off, h1, Nat.lt_of_lt_of_le h2 hb.size, fun j x hx => by rw [hb.cell (by exact h2)]; exact h3 j x hx⟩
def CloneF (n : Nat) (l : List Nat) (w : World) (e : Ending) (w' : World) : Prop := ∃ A c, e = .returned (.slice A n c) ∧ Below w.heap.size w w' ∧ w'.ownsRow w.heap.size 23 1 (.slice A n c) n (fltV l)
def CloneI (n : Nat) (l : List Nat) (w : World) (e : Ending) (w' : World) : Prop := ∃ A c, e = .returned (.slice A n c) ∧ Below w.heap.size w w' ∧ w'.ownsRow w.heap.size 3 1 (.slice A n c) n (intV l)
theorem cloneF_any (ad : Addr) (n c : Nat) (l : List Nat) (w : World) (hl : l.length = n) (hm : n ≤ 100000) (hs : Rd w (some ad) (fltV l)) :
    Calls Try.prog 57 #[.slice (some ad) n c] w (CloneF n l w) := by
  have hne := fun w' => Lib.run_eql_slice_nil (P := Try.prog) w' 40 23 (some ad) n c 0 0 under40
  obtain ⟨i0, hi, hz0, hz1, hz2⟩ := info_parts info23
  have HS := hid hs
  clear hs
  go_enter Try.func57, Try.ntmps57
  go_wp2_with (at_builtin; refine wpList_append_ext rfl _ _ 40 rfl w ?hw 23 i0 (.float .f64 0) 1 8 under40 hi hz0 hz1 hz2 rfl (by decide) _ 0 [] rfl ?own (some ad) n c (fltV l) rfl ?hr ?hl (fltV_one l) ?h63 ?hb ?_)
  case hw => exact (Below.refl _ _).alloc (Nat.le_refl _) _
  case own => exact World.ownsRow_made w #[] 0 (Nat.le_refl _) (by decide) rfl
  case hr => exact HS.out.alloc _
  case hl => simp [fltV, hl]
  case h63 => unfold maxLen; omega
  case hb => omega
  intro A' c' d' bs' hown
  go_wp2
  go_ret
  exact ⟨A', c', rfl, below_ext _ _ _, hown⟩
theorem cloneI_any (ad : Addr) (n c : Nat) (l : List Nat) (w : World) (hl : l.length = n) (hm : n ≤ 100000) (hs : Rd w (some ad) (intV l)) :
    Calls Try.prog 59 #[.slice (some ad) n c] w (CloneI n l w) := by
  have hne := fun w' => Lib.run_eql_slice_nil (P := Try.prog) w' 55 3 (some ad) n c 0 0 under55
  obtain ⟨i0, hi, hz0, hz1, hz2⟩ := info_parts info3
  have HS := hid hs
  clear hs
  go_enter Try.func59, Try.ntmps59
  go_wp2_with (at_builtin; refine wpList_append_ext rfl _ _ 55 rfl w ?hw 3 i0 (.int .i64 0) 1 8 under55 hi hz0 hz1 hz2 rfl (by decide) _ 0 [] rfl ?own (some ad) n c (intV l) rfl ?hr ?hl (intV_one l) ?h63 ?hb ?_)
  case hw => exact (Below.refl _ _).alloc (Nat.le_refl _) _
  case own => exact World.ownsRow_made w #[] 0 (Nat.le_refl _) (by decide) rfl
  case hr => exact HS.out.alloc _
  case hl => simp [intV, hl]
  case h63 => unfold maxLen; omega
  case hb => omega
  intro A' c' d' bs' hown
  go_wp2
  go_ret
  exact ⟨A', c', rfl, below_ext _ _ _, hown⟩
def CountsPost (C : List Nat) (w : World) (e : Ending) (w' : World) : Prop := ∃ A c, e = .returned (.slice A C.length c) ∧ Below w.heap.size w w' ∧ Ins w' A C
theorem counts_of {g h : Nat} {E C : List Nat} {nn lo hi s : Nat} {A : Option Addr} {c k : Nat} {w : World} (m : MeterAt w g h E C nn lo hi s A c k) : Calls Try.prog 40 #[.pointer (some ⟨g, 0, none⟩)] w (CountsPost C w) := by
  have h1 := m.c1
  have hg := within_of m.lg
  have hI : Ins w (some ⟨h, 0, none⟩) C := .inr ⟨h, 0, rfl, m.lh, fun j x hx => by rw [Nat.zero_add]; exact m.cs j x hx⟩
  have HI := hid hI.rd
  have hle : C.length ≤ 100000 := by have := m.lc; have := m.le; omega
  clear m hI
  go_enter Try.func40, Try.ntmps40
  go_wp2_with fail
  refine (cloneI_any _ _ _ C _ rfl hle HI.out).mono ?_
  rintro e w' ⟨A', c', rfl, hb, hown⟩
  have HO := hid hown
  have HB := hid hb
  clear hown hb
  go_wp2
  go_ret
  exact ⟨A', c', rfl, HB.out, Ins.of_rd (owns_rd HO.out)⟩
end Go.Proofs.Ytldhbodhpdhncaa
