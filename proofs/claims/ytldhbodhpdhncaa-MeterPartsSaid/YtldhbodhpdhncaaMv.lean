/- A meter that measures were added to. -/
import Derived.Test.YtldhbodhpdhncaaMu
import Derived.Test.YtldhbodhpdhncaaMh
import Derived.Test.YtldhbodhpdhncaaMn
import Derived.Test.YtldhbodhpdhncaaMt
set_option linter.unusedSimpArgs false
set_option linter.unusedVariables false
namespace Go.Proofs.Ytldhbodhpdhncaa
open Go.ChangeShapes Go.WideShapes Go.RowKit Go.Mor Go.Fl

theorem someN_snoc (l : List Nat) (x : Nat) : someN (l ++ [x]) = if nanB x then someN l else someN l ++ [x] := by
  unfold someN; rw [List.filter_append]; cases h : nanB x <;> simp [h]
theorem leastN_snoc (l : List Nat) (x : Nat) : leastN (l ++ [x]) = stepL (leastN l) x := by unfold leastN; rw [List.foldl_append]; rfl
theorem greatN_snoc (l : List Nat) (x : Nat) : greatN (l ++ [x]) = stepG (greatN l) x := by unfold greatN; rw [List.foldl_append]; rfl
theorem sumO_snoc (l : List Nat) (x : Nat) : sumO (l ++ [x]) = stepS (sumO l) x := by unfold sumO; rw [List.foldl_append]; rfl
theorem countN_snoc (E l : List Nat) (x : Nat) : countN E (l ++ [x]) = addC E (countN E l) x := by unfold countN; rw [List.foldl_append]; rfl
theorem someN_le (l : List Nat) : (someN l).length ≤ l.length := List.length_filter_le _ _
/-- A meter in memory that the measures l were added to. -/
def FedAt (w : World) (g h : Nat) (E l : List Nat) (A : Option Addr) (c k : Nat) : Prop :=
  ∃ s, stR (sumO (someN l)) s ∧ MeterAt w g h E (countN E (someN l)) (l.length - (someN l).length) (leastN l) (greatN l) s A c k
theorem fed_new {w : World} {g h : Nat} {E : List Nat} {A : Option Addr} {c k : Nat} (m : MeterAt w g h E (List.replicate (E.length + 1) 0) 0 9218868437227405312 18442240474082181120 0 A c k) : FedAt w g h E [] A c k := by
  refine ⟨0, ?_, ?_⟩
  · show stR (sumO []) 0; rw [sumO_nil]; exact rfl
  · rw [leastN_nil, greatN_nil]; exact m
def FedPost (g h : Nat) (E l : List Nat) (A : Option Addr) (c k : Nat) (w : World) (e : Ending) (w' : World) : Prop := e = .returned (.tuple #[]) ∧ Kp g h w w' ∧ FedAt w' g h E l A c k
theorem add_fed {w : World} {g h x : Nat} {E l : List Nat} {A : Option Addr} {c k : Nat} (m : FedAt w g h E l A c k) (hl : l.length < 100000) (hx : x < 18446744073709551616) :
    Calls Try.prog 35 #[.pointer (some ⟨g, 0, none⟩), .float .f64 x] w (FedPost g h E (l ++ [x]) A c k w) := by
  obtain ⟨s, hs, m⟩ := m
  have hsl := someN_le l
  cases hn : nanB x with
  | true =>
    refine (addNone_any g h x E _ _ _ _ s A c k w m (by omega) hn).mono ?_
    rintro e w' ⟨h1, h2, h3⟩
    refine ⟨h1, h2, s, ?_, ?_⟩
    · rw [someN_snoc, hn, if_pos rfl]; exact hs
    · rw [someN_snoc, hn, if_pos rfl, leastN_snoc, greatN_snoc, stepL_nan hn, stepG_nan hn]
      have e : (l ++ [x]).length - (someN l).length = l.length - (someN l).length + 1 := by simp; omega
      rw [e]; exact h3
  | false =>
    refine (addSome_any g h x E _ _ _ _ s A c k w m (fun v hv => by have := countN_cap E (someN l) v hv; omega) hx hn).mono ?_
    rintro e w' ⟨s', h1, h2, h3, h4⟩
    refine ⟨h1, h3, s', ?_, ?_⟩
    · rw [someN_snoc, hn, if_neg (by decide), sumO_snoc]; exact h2 _ hs
    · rw [someN_snoc, hn, if_neg (by decide), leastN_snoc, greatN_snoc, countN_snoc]
      have e : (l ++ [x]).length - (someN l ++ [x]).length = l.length - (someN l).length := by simp
      rw [e]; exact h4
theorem FedAt.keep {w w' : World} {g h : Nat} {E l : List Nat} {A : Option Addr} {c k : Nat} (m : FedAt w g h E l A c k) (hb : Below w.heap.size w w') : FedAt w' g h E l A c k := by
  obtain ⟨s, hs, m⟩ := m; exact ⟨s, hs, m.keep hb⟩
theorem FedAt.kp {w w' : World} {g h g2 h2 : Nat} {E l : List Nat} {A : Option Addr} {c k : Nat} (m : FedAt w g2 h2 E l A c k) (q : Kp g h w w') (a : Apart g h g2 h2 A) : FedAt w' g2 h2 E l A c k := by
  obtain ⟨s, hs, m⟩ := m; exact ⟨s, hs, m.kp q a⟩
/-- The counts, in a block of their own. -/
def CountsPost2 (C : List Nat) (w : World) (e : Ending) (w' : World) : Prop := ∃ A c, e = .returned (.slice A C.length c) ∧ Below w.heap.size w w' ∧ Ins w' A C ∧ ∀ b off, A = some ⟨b, off, none⟩ → w.heap.size ≤ b
theorem counts_of2 {g h : Nat} {E C : List Nat} {nn lo hi s : Nat} {A : Option Addr} {c k : Nat} {w : World} (m : MeterAt w g h E C nn lo hi s A c k) : Calls Try.prog 40 #[.pointer (some ⟨g, 0, none⟩)] w (CountsPost2 C w) := by
  have h1 := m.c1
  have hg := within_of m.lg
  have hI : Ins w (some ⟨h, 0, none⟩) C := .inr ⟨h, 0, rfl, m.lh, fun j x hx => by rw [Nat.zero_add]; exact m.cs j x hx⟩
  have HI := hid hI.rd
  have hle : C.length ≤ 100000 := by have := m.lc; have := m.le; omega
  clear m hI
  go_enter Try.func40, Try.ntmps40
  go_wp2_with fail
  refine (cloneI_any _ _ _ C _ rfl hle HI.out).mono ?_
  rintro e w' ⟨A', c', rfl, hb, hown⟩
  have HO := hid hown
  have HB := hid hb
  clear hown hb
  go_wp2
  go_ret
  exact ⟨A', c', rfl, HB.out, Ins.of_rd (owns_rd HO.out), fun b off hA => (owns_base HO.out hA).1⟩
theorem Ins.kp {w w' : World} {g h : Nat} {A : Option Addr} {l : List Nat} (x : Ins w A l) (q : Kp g h w w') (hn : ∀ b off, A = some ⟨b, off, none⟩ → b ≠ g ∧ b ≠ h) : Ins w' A l := by
  rcases x with x | ⟨b, off, h1, h2, h3⟩
  · exact .inl x
  · obtain ⟨e1, e2⟩ := hn b off h1
    exact .inr ⟨b, off, h1, Nat.lt_of_lt_of_le h2 q.size, fun j y hy => by rw [q.cell h2 e1 e2]; exact h3 j y hy⟩
/-- The band of a part, of measures that were added: the reference's. -/
theorem quant_both (E l : List Nat) (p : Nat) (hl : l.length ≤ 100) (fl : fits l) : ∃ v : Int,
    (∀ (w : World) (g h : Nat) (A : Option Addr) (c k : Nat), FedAt w g h E l A c k → Calls Try.prog 46 #[.pointer (some ⟨g, 0, none⟩), .float .f64 p] w fun e w' => e = .returned (.int .i64 v) ∧ w = w') ∧
    (∀ (w : World) (A B : Option Addr) (n c m d : Nat), E.length = n → n ≤ 100000 → Flt w A E → fits E → l.length = m → Flt w B l → Calls Try.prog 47 #[.slice A n c, .slice B m d, .float .f64 p] w fun e w' => e = .returned (.int .i64 v) ∧ Below w.heap.size w w') := by
  have hsl := someN_le l
  by_cases hq : (someN l).length = 0 ∨ nanB p = true ∨ ltB p 0 = true ∨ ltB 4607182418800017408 p = true
  · refine ⟨-1, fun w g h A c k m => ?_, fun w A B n c m d hE hn hA fE hm hB => ?_⟩
    · obtain ⟨s, _, m⟩ := m
      exact quant_none m (fun v hv => by have := countN_cap E (someN l) v hv; omega) p (by rw [countN_sum]; exact hq)
    · exact refQuant_none A B n c m d p E l w hm (by omega) hB fl hq
  · obtain ⟨q, hS⟩ : ∃ q, (someN l).length = q + 1 := ⟨(someN l).length - 1, by omega⟩
    have h1 : nanB p = false := by cases h : nanB p; rfl; exact absurd (.inr (.inl h)) hq
    have h2 : ltB p 0 = false := by cases h : ltB p 0; rfl; exact absurd (.inr (.inr (.inl h))) hq
    have h3 : ltB 4607182418800017408 p = false := by cases h : ltB 4607182418800017408 p; rfl; exact absurd (.inr (.inr (.inr h))) hq
    obtain ⟨_, r, hr, _, hv, hw, _⟩ := part_index h1 h2 h3 (q := q) (by omega)
    obtain ⟨x, hx⟩ : ∃ x, (sortN (someN l))[r]? = some x := ⟨_, List.getElem?_eq_getElem (by rw [sortN_length]; omega)⟩
    refine ⟨(bandN E x : Int), fun w g h A c k m => ?_, fun w A B n c m d hE hn hA fE hm hB => ?_⟩
    · obtain ⟨s, _, m⟩ := m
      refine (quant_some m (fun v hv => by have := countN_cap E (someN l) v hv; omega) p q r (by rw [countN_sum]; exact hS) (by omega) h1 h2 h3 hw hr).mono ?_
      rintro e w' ⟨⟨i, he, hi, s1, s2⟩, hww⟩
      exact ⟨by rw [he, band_at hx s1 s2], hww⟩
    · exact refQuant_some A B n c m d p q r x E l w hE hn hA fE hm (by omega) hB fl hS h1 h2 h3 hv hr hx
end Go.Proofs.Ytldhbodhpdhncaa
