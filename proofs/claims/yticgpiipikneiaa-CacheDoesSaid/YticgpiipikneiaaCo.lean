/- The reference's functions on a list of keys and things: the walks. No condition. -/
import Derived.Test.YticgpiipikneiaaCl
import Derived.Test.YticgpiipikneiaaBaseC
import Derived.IntWalk
set_option linter.unusedSimpArgs false
set_option linter.unusedVariables false
namespace Go.Proofs.Yticgpiipikneiaa
open Go.ChangeShapes Go.WideShapes Go.RowKit Go.Mor Go.Cch Go.Maps

abbrev It := Int × Int
/-- Items as cells. -/
def its (l : List It) : List Value := l.flatMap fun p => [.int .i64 p.1, .int .i64 p.2]
def Itm (w : World) (A : Option Addr) (l : List It) : Prop := l = [] ∨ ∃ b off, A = some ⟨b, off, none⟩ ∧ b < w.heap.size ∧ ∀ j p, l[j]? = some p → w.cell? ⟨b, off + j * 2, none⟩ = some (.int .i64 p.1) ∧ w.cell? ⟨b, off + j * 2 + 1, none⟩ = some (.int .i64 p.2)
theorem Itm.at {w : World} {A : Option Addr} {l : List It} (h : Itm w A l) {j : Nat} {p : It} (hj : l[j]? = some p) : ∃ b off, A = some ⟨b, off, none⟩ ∧ within b w = true ∧ w.cell? ⟨b, off + j * 2, none⟩ = some (.int .i64 p.1) ∧ w.cell? ⟨b, off + j * 2 + 1, none⟩ = some (.int .i64 p.2) := by
  rcases h with h | ⟨b, off, h1, h2, h3⟩
  · subst h; simp at hj
  · exact ⟨b, off, h1, within_of h2, h3 j p hj⟩
theorem Itm.keep {w w' : World} {A : Option Addr} {l : List It} (h : Itm w A l) (hb : Below w.heap.size w w') : Itm w' A l := by
  rcases h with h | ⟨b, off, h1, h2, h3⟩
  · exact .inl h
  · exact .inr ⟨b, off, h1, Nat.lt_of_lt_of_le h2 hb.size, fun j p hj => ⟨(hb.cell (by exact h2)).trans (h3 j p hj).1, (hb.cell (by exact h2)).trans (h3 j p hj).2⟩⟩
/-- Where a key stands. -/
def fi : List It → Int → Nat
  | [], _ => 0
  | p :: r, k => if p.1 = k then 0 else fi r k + 1
def find (l : List It) (k : Int) : Int := if fi l k < l.length then (fi l k : Int) else -1
theorem fi_le (k : Int) : ∀ l, fi l k ≤ l.length
  | [] => Nat.le_refl _
  | p :: r => by unfold fi; split; · simp
                 · have := fi_le k r; simp; omega
theorem fi_ge {k : Int} : ∀ {l : List It} {i : Nat}, (∀ j p, j < i → l[j]? = some p → p.1 ≠ k) → i ≤ l.length → i ≤ fi l k
  | [], i, _, h => by simp at h; omega
  | p :: r, 0, _, _ => Nat.zero_le _
  | p :: r, i + 1, h, hl => by
    unfold fi
    rw [if_neg (h 0 p (by omega) rfl)]
    have := fi_ge (l := r) (i := i) (k := k) (fun j q hj hq => h (j + 1) q (by omega) (by simpa using hq)) (by simpa using hl)
    omega
theorem fi_here {k : Int} : ∀ {l : List It} {i : Nat} {p : It}, (∀ j p, j < i → l[j]? = some p → p.1 ≠ k) → l[i]? = some p → p.1 = k → fi l k = i
  | [], i, p, _, h, _ => by simp at h
  | q :: r, 0, p, _, h, e => by simp at h; subst h; unfold fi; rw [if_pos e]
  | q :: r, i + 1, p, h, hp, e => by
    unfold fi
    rw [if_neg (h 0 q (by omega) rfl), fi_here (l := r) (i := i) (k := k) (fun j s hj hs => h (j + 1) s (by omega) (by simpa using hs)) (by simpa using hp) e]
def before (l : List It) (k : Int) (i : Nat) : Prop := ∀ j p, j < i → l[j]? = some p → p.1 ≠ k
theorem before_succ {l : List It} {k : Int} {i : Nat} {p : It} (h : before l k i) (hp : l[i]? = some p) (hne : p.1 ≠ k) : before l k (i + 1) := fun j q hj hq => by
  rcases Nat.lt_or_ge j i with c | c
  · exact h j q c hq
  · obtain rfl : j = i := by omega
    rw [hp] at hq; injection hq with hq; subst hq; exact hne
theorem find_any (A : Option Addr) (n c : Nat) (l : List It) (k : Int) (w : World) (hl : l.length = n) (hm : n ≤ 1000) (hA : Itm w A l) :
    Calls Try.prog 10 #[.slice A n c, .int .i64 k] w fun e w' => e = .returned (.int .i64 (find l k)) ∧ w' = w := by
  have HL := hid hl
  have HA := hid hA
  clear hl hA
  go_enter Try.func10, Try.ntmps10
  go_wp2
  go_loop [5] (fun t => ∃ i : Nat, i ≤ n ∧ t = .int .i64 i ∧ Hid (before l k i)) (fun t => n - (intOf t).toNat)
  case atStart => exact ⟨0, Nat.zero_le _, rfl, hid (fun j p hj => by omega)⟩
  case round =>
    obtain ⟨i, hi, rfl, HB⟩ := hrel
    by_cases hlt : i < n
    · obtain ⟨p, hp⟩ : ∃ p, l[i]? = some p := ⟨_, List.getElem?_eq_getElem (by rw [HL.out]; exact hlt)⟩
      obtain ⟨b, off, rfl, hbw, hc, hc2⟩ := HA.out.at hp
      have HP := hid hp
      clear hp
      have hi0 : (0 : Int) ≤ (i : Int) := by omega
      have hi1 : (i : Int) < (n : Int) := by omega
      have hwi : IntKind.i64.wrap ((i : Int) + 1) = (i : Int) + 1 := IntWalk.i64_in _ (by omega)
      go_wp2
      · have he : p.1 = k := by have h : (p.1 == k) = true := by assumption
                                simpa using h
        go_ret
        refine ⟨?_, rfl⟩
        have hf := fi_here HB.out HP.out he
        unfold find
        rw [hf, if_pos (by rw [HL.out]; exact hlt)]
        rfl
      · have he : p.1 ≠ k := by have h : (p.1 == k) = false := by assumption
                                simpa using h
        exact ⟨⟨i + 1, by omega, by go_num, hid (before_succ HB.out HP.out he)⟩, by simp [intOf]; omega⟩
    · go_wp2
      go_ret
      refine ⟨?_, rfl⟩
      have hg := fi_ge HB.out (by rw [HL.out]; exact hi)
      have := fi_le k l
      unfold find
      rw [if_neg (by rw [HL.out]; omega)]
      rfl
/-- Without the item in a place, if there is one. -/
def wo (l : List It) : Option Nat → List It
  | some a => l.eraseIdx a
  | none => l
def atI : Option Nat → Int
  | some a => (a : Int)
  | none => -1
theorem wo_some (l : List It) (a : Nat) : wo l (some a) = l.eraseIdx a := rfl
theorem wo_none (l : List It) : wo l none = l := rfl
theorem atI_some (a : Nat) : atI (some a) = (a : Int) := rfl
theorem atI_none : atI none = -1 := rfl
theorem wo_nil (a : Option Nat) : wo [] a = [] := by cases a <;> rfl
theorem wo_same {l : List It} {i : Nat} {p : It} (hp : l[i]? = some p) {a : Option Nat} (h : atI a = (i : Int)) : wo (l.take (i + 1)) a = wo (l.take i) a := by
  obtain ⟨hi, e⟩ := List.getElem?_eq_some_iff.1 hp
  cases a with
  | none => rw [atI_none] at h; omega
  | some a =>
    rw [atI_some] at h
    obtain rfl : a = i := by omega
    rw [wo_some, wo_some, List.take_succ_eq_append_getElem hi, List.eraseIdx_append_of_length_le (by rw [List.length_take]; omega), List.eraseIdx_of_length_le (l := List.take a l) (by rw [List.length_take]; omega)]
    rw [List.length_take, show a - min a l.length = 0 by omega]
    simp
theorem wo_more {l : List It} {i : Nat} {p : It} (hp : l[i]? = some p) {a : Option Nat} (h : atI a ≠ (i : Int)) : wo (l.take (i + 1)) a = wo (l.take i) a ++ [p] := by
  obtain ⟨hi, e⟩ := List.getElem?_eq_some_iff.1 hp
  have ht : l.take (i + 1) = l.take i ++ [p] := by rw [List.take_succ_eq_append_getElem hi, e]
  cases a with
  | none => exact ht
  | some a =>
    rw [atI_some] at h
    rw [wo_some, wo_some, ht]
    rcases Nat.lt_or_ge a i with c | c
    · rw [List.eraseIdx_append_of_lt_length (by rw [List.length_take]; omega)]
    · have ha : i < a := by omega
      rw [List.eraseIdx_of_length_le (by rw [List.length_append, List.length_take]; simp; omega), List.eraseIdx_of_length_le (by rw [List.length_take]; omega)]
theorem info37 : (Try.prog.info? 37).map (fun i => (i.zero, i.size, i.bytes)) = some (some (.agg #[.int .i64 0, .int .i64 0]), 2, 16) := by kernel_rfl
theorem under28 : Try.prog.underlying 28 = some (.slice 37) := by kernel_rfl
theorem its_len (l : List It) : (its l).length = l.length * 2 := by
  induction l with
  | nil => rfl
  | cons p r ih => simp only [its, List.flatMap_cons, List.length_append] at *; rw [ih]; simp; omega
theorem its_one (l : List It) : ∀ u ∈ its l, u.oneCell' = true := by
  intro u hu
  simp only [its, List.mem_flatMap] at hu
  obtain ⟨p, _, h⟩ := hu
  simp at h
  rcases h with rfl | rfl <;> rfl
theorem its_app (l m : List It) : its (l ++ m) = its l ++ its m := by simp [its]
theorem rd_two (W : World) {g : Nat} (hg : g = W.heap.size) (u v : Value) (ty : TypeId) : Rd (W.alloc (.cells #[u, v] ty)) (some ⟨g, 0, none⟩) [u, v] := by
  subst hg
  refine .inr ⟨_, rfl, by simp, fun j x hj => ?_⟩
  match j, hj with
  | 0, hj => simp at hj; subst hj; simp [Addr.add]
  | 1, hj => simp at hj; subst hj; simp [Addr.add]
  | j + 2, hj => simp at hj
theorem item_load {w : World} {b o : Nat} {p : It} (h1 : w.cell? ⟨b, o, none⟩ = some (.int .i64 p.1)) (h2 : w.cell? ⟨b, o + 1, none⟩ = some (.int .i64 p.2)) :
    (Instr.loadAt 37 (.pointer (some ⟨b, o, none⟩))).run Try.prog w = .ok (.agg #[.int .i64 p.1, .int .i64 p.2]) w := by
  have h := run_loadAt_mid (P := Try.prog) w b o 37 [.int .i64 p.1, .int .i64 p.2] _ (fun j v hj => by
    match j, hj with
    | 0, hj => simp at hj; subst hj; exact h1
    | 1, hj => simp at hj; subst hj; exact h2
    | j + 2, hj => simp at hj) Try.underlying37 rfl (by kernel_rfl)
  exact h
def woV (l : List It) (a : Option Nat) (i : Nat) : List Value := its (wo (l.take i) a)
def OutPost40 (w : World) (l : List It) (e : Ending) (w' : World) : Prop :=
  ∃ A c, e = .returned (.slice A l.length c) ∧ Below w.heap.size w w' ∧ w'.ownsRow w.heap.size 37 2 (.slice A l.length c) l.length (its l)
def WoIn (w : World) (l : List It) (a : Option Nat) (n : Nat) (o t : Value) (wr : World) : Prop :=
  ∃ (i m : Nat) (A : Option Addr) (c d : Nat) (bs : Array Obj), i ≤ n ∧ m ≤ i ∧ t = .int .i64 i ∧ o = .slice A m c ∧ m = (wo (l.take i) a).length ∧ wr = ext w d bs ∧ (ext w d bs).ownsRow w.heap.size 37 2 (.slice A m c) m (woV l a i)
set_option maxRecDepth 100000 in
theorem without_any (A : Option Addr) (n c : Nat) (l : List It) (a : Option Nat) (w : World) (hl : l.length = n) (hm : n ≤ 1000) (hA : Itm w A l) :
    Calls Try.prog 16 #[.slice A n c, .int .i64 (atI a)] w (OutPost40 w (wo l a)) := by
  have HL := hid hl
  have HA := hid hA
  obtain ⟨i0, hi, hz0, hz1, hz2⟩ := info_parts info37
  clear hl hA
  obtain ⟨z, hz⟩ : ∃ z, atI a = z := ⟨_, rfl⟩
  rw [hz]
  have hz := hid hz
  go_enter Try.func16, Try.ntmps16
  go_wp2
  go_loopw [5, 6] (WoIn w l a n) (fun _ t _ => n - (intOf t).toNat)
  case atStart => exact ⟨0, 0, none, 0, _, #[], Nat.zero_le _, Nat.le_refl _, rfl, rfl, by rw [List.take_zero, wo_nil]; rfl, by simp [ext]; rfl, by unfold woV; rw [List.take_zero, wo_nil]; exact World.ownsRow_nil _ _ _ _⟩
  case round =>
    obtain ⟨i, m, A1, c1, d, bs, hi1, hm1, rfl, rfl, hml, rfl, hown⟩ := hrel
    have HO := hid hown
    have HM := hid hml
    clear hown hml
    by_cases hlt : i < n
    · obtain ⟨p, hp⟩ : ∃ p, l[i]? = some p := ⟨_, List.getElem?_eq_getElem (by rw [HL.out]; exact hlt)⟩
      obtain ⟨b, off, rfl, hbw, hc, hc2⟩ := HA.out.at hp
      have HP := hid hp
      clear hp
      have hi0 : (0 : Int) ≤ (i : Int) := by omega
      have hi2 : (i : Int) < (n : Int) := by omega
      have hwi : IntKind.i64.wrap ((i : Int) + 1) = (i : Int) + 1 := IntWalk.i64_in _ (by omega)
      have hld := item_load (w := ext w d bs) (b := b) (o := off + i * 2) (p := p) ((cell?_ext w d bs hbw).trans hc) ((cell?_ext w d bs hbw).trans hc2)
      by_cases hze : z = (i : Int)
      · have hne : ((i : Int) == z) = true := by simpa using hze.symm
        have HS := hid (wo_same HP.out (a := a) (hz.out.trans hze))
        clear hze
        go_wp2
        refine ⟨⟨i + 1, m, A1, c1, d, bs, by omega, by omega, by go_num, rfl, by rw [HS.out]; exact HM.out, rfl, by unfold woV; rw [HS.out]; exact HO.out⟩, by simp [intOf]; omega⟩
      · have hne : ((i : Int) == z) = false := by simpa using Ne.symm hze
        have HS := hid (wo_more HP.out (a := a) (fun e => hze (hz.out.symm.trans e)))
        clear hze
        go_wp2_with (at_builtin; refine wpList_append_ext rfl _ _ 28 rfl w ?hw 37 i0 (.agg #[.int .i64 0, .int .i64 0]) 2 16 under28 hi hz0 hz1 hz2 rfl (by decide) _ m (woV l a i) rfl ?own (some ⟨w.heap.size + bs.size, 0, none⟩) 1 1 [.int .i64 p.1, .int .i64 p.2] rfl ?hr rfl ?ho ?h63 ?hb ?_)
        case hw => exact (below_ext _ _ _).alloc (by simp) _
        case own => exact HO.out.alloc _
        case hr => exact rd_two _ (by simp) _ _ _
        case ho => intro u hu; simp at hu; rcases hu with rfl | rfl <;> rfl
        case h63 => unfold maxLen; omega
        case hb => omega
        intro A2 c2 d2 bs2 hown2
        have HO2 := hid hown2
        clear hown2 HO
        go_wp2
        refine ⟨⟨i + 1, m + 1, A2, c2, d2, bs2, by omega, by omega, by go_num, rfl, by rw [HS.out, List.length_append, ← HM.out]; rfl, rfl, ?_⟩, by simp [intOf]; omega⟩
        unfold woV
        rw [HS.out, its_app]
        exact HO2.out
    · obtain rfl : i = n := by omega
      have ht : l.take i = l := List.take_of_length_le (by rw [HL.out]; exact Nat.le_refl _)
      have HF : Hid ((wo l a).length = m ∧ (ext w d bs).ownsRow w.heap.size 37 2 (.slice A1 m c1) m (its (wo l a))) := hid ⟨by rw [HM.out, ht], by have h := HO.out; unfold woV at h; rwa [ht] at h⟩
      clear ht HO HM
      go_wp2
      go_ret
      exact ⟨A1, c1, by rw [HF.out.1]; rfl, below_ext _ _ _, by rw [HF.out.1]; exact HF.out.2⟩
end Go.Proofs.Yticgpiipikneiaa
