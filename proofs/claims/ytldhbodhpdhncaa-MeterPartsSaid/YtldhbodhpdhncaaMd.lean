/- What a meter is in memory; how it changes. -/
import Derived.Test.YtldhbodhpdhncaaMb
set_option linter.unusedSimpArgs false
set_option linter.unusedVariables false
namespace Go.Proofs.Ytldhbodhpdhncaa
open Go.ChangeShapes Go.WideShapes Go.RowKit Go.Mor Go.Fl

theorem cs_same {w : World} {p : Addr} {u v : Value} (h : w.cell? p = some u) : (w.setCell p v).cell? p = some v := by apply World.cell?_setCell_same; exact h
theorem cs_other {w : World} {p q : Addr} {v : Value} (h : p ≠ q) : (w.setCell p v).cell? q = w.cell? q := by apply World.cell?_setCell_other; exact h
theorem fz_set {w : World} {p q : Addr} {v : Value} : (w.setCell p v).frozen? q = w.frozen? q := by apply World.frozen?_setCell
/-- Nothing but the blocks g and h may have changed, and there may be more of them. -/
structure Kp (g h : Nat) (w w' : World) : Prop where
  os : w'.os = w.os
  tape : w'.tape = w.tape
  output : w'.output = w.output
  size : w.heap.size ≤ w'.heap.size
  block : ∀ k, k < w.heap.size → k ≠ g → k ≠ h → w'.heap[k]? = w.heap[k]?
theorem Kp.refl (g h : Nat) (w : World) : Kp g h w w := ⟨rfl, rfl, rfl, Nat.le_refl _, fun _ _ _ _ => rfl⟩
theorem Kp.trans {g h : Nat} {a b c : World} (x : Kp g h a b) (y : Kp g h b c) : Kp g h a c :=
  ⟨y.os.trans x.os, y.tape.trans x.tape, y.output.trans x.output, Nat.le_trans x.size y.size, fun k hk h1 h2 => (y.block k (Nat.lt_of_lt_of_le hk x.size) h1 h2).trans (x.block k hk h1 h2)⟩
theorem Kp.drew {g h : Nat} {a w : World} (x : Kp g h a w) : Kp g h a w.drew := ⟨x.os, x.tape, x.output, x.size, x.block⟩
theorem Kp.set {g h : Nat} {a w : World} (x : Kp g h a w) (p : Addr) (v : Value) (hp : p.block = g ∨ p.block = h) : Kp g h a (w.setCell p v) := by
  have b : Below 0 w (w.setCell p v) := (Below.refl 0 w).setCell (Nat.zero_le _) v
  refine ⟨b.os.trans x.os, b.tape.trans x.tape, b.output.trans x.output, Nat.le_trans x.size b.size, fun k hk h1 h2 => ?_⟩
  rw [Below.heap_setCell w p v k (by rcases hp with hp | hp <;> rw [hp] <;> assumption)]
  exact x.block k hk h1 h2
theorem Kp.of_below {g h : Nat} {w w' : World} (b : Below w.heap.size w w') : Kp g h w w' := ⟨b.os, b.tape, b.output, b.size, fun k hk _ _ => b.block k hk⟩
theorem Kp.below {g h B : Nat} {w w' : World} (x : Kp g h w w') (hB : B ≤ w.heap.size) (h1 : B ≤ g) (h2 : B ≤ h) : Below B w w' := ⟨x.os, x.tape, x.output, x.size, fun k hk => x.block k (by omega) (by omega) (by omega)⟩

def EdgesAt (w : World) (A : Option Addr) (E : List Nat) (g h : Nat) : Prop := E = [] ∨ ∃ b off, A = some ⟨b, off, none⟩ ∧ b < w.heap.size ∧ b ≠ g ∧ b ≠ h ∧ ∀ (j x : Nat), E[j]? = some x → w.cell? ⟨b, off + j, none⟩ = some (.float .f64 x)
theorem EdgesAt.flt {w : World} {A : Option Addr} {E : List Nat} {g h : Nat} (x : EdgesAt w A E g h) : Flt w A E := by
  rcases x with x | ⟨b, off, h1, h2, _, _, h3⟩
  · exact .inl x
  · exact .inr ⟨b, off, h1, h2, h3⟩

structure MeterAt (w : World) (g h : Nat) (E C : List Nat) (nn lo hi s : Nat) (A : Option Addr) (c k : Nat) : Prop where
  ne : g ≠ h
  lg : g < w.heap.size
  lh : h < w.heap.size
  c0 : w.cell? ⟨g, 0, none⟩ = some (.slice A E.length c)
  c1 : w.cell? ⟨g, 1, none⟩ = some (.slice (some ⟨h, 0, none⟩) C.length k)
  c2 : w.cell? ⟨g, 2, none⟩ = some (.int .i64 (nn : Int))
  c3 : w.cell? ⟨g, 3, none⟩ = some (.float .f64 lo)
  c4 : w.cell? ⟨g, 4, none⟩ = some (.float .f64 hi)
  c5 : w.cell? ⟨g, 5, none⟩ = some (.float .f64 s)
  cs : ∀ (j v : Nat), C[j]? = some v → w.cell? ⟨h, j, none⟩ = some (.int .i64 (v : Int))
  fg : ∀ o, w.frozen? ⟨g, o, none⟩ = false
  fh : ∀ o, w.frozen? ⟨h, o, none⟩ = false
  ed : EdgesAt w A E g h
  fe : fits E
  re : rising E
  le : E.length ≤ 1000
  lc : C.length = E.length + 1
  ll : lo < 18446744073709551616
  lu : hi < 18446744073709551616

theorem far_ne {a b i j : Nat} (h : a ≠ b) : (⟨a, i, none⟩ : Addr) ≠ ⟨b, j, none⟩ := fun e => h (by injection e)
theorem off_ne {a i j : Nat} (h : i ≠ j) : (⟨a, i, none⟩ : Addr) ≠ ⟨a, j, none⟩ := fun e => h (by injection e)
theorem size_set (w : World) (p : Addr) (v : Value) : w.heap.size ≤ (w.setCell p v).heap.size := ((Below.refl 0 w).setCell (Nat.zero_le _) v).size
theorem EdgesAt.set {w : World} {A : Option Addr} {E : List Nat} {g h : Nat} (x : EdgesAt w A E g h) (p : Addr) (v : Value) (hp : p.block = g ∨ p.block = h) : EdgesAt (w.setCell p v) A E g h := by
  rcases x with x | ⟨b, off, h1, h2, n1, n2, h3⟩
  · exact .inl x
  · refine .inr ⟨b, off, h1, Nat.lt_of_lt_of_le h2 (size_set w p v), n1, n2, fun j y hy => ?_⟩
    rw [cs_other]
    · exact h3 j y hy
    · intro e
      have : p.block = b := by rw [e]
      omega
variable {w : World} {g h : Nat} {E C : List Nat} {nn lo hi s : Nat} {A : Option Addr} {c k : Nat}
theorem MeterAt.drew (m : MeterAt w g h E C nn lo hi s A c k) : MeterAt w.drew g h E C nn lo hi s A c k := ⟨m.ne, m.lg, m.lh, m.c0, m.c1, m.c2, m.c3, m.c4, m.c5, m.cs, m.fg, m.fh, m.ed, m.fe, m.re, m.le, m.lc, m.ll, m.lu⟩
theorem MeterAt.set2 (m : MeterAt w g h E C nn lo hi s A c k) (x : Nat) : MeterAt (w.setCell ⟨g, 2, none⟩ (.int .i64 (x : Int))) g h E C x lo hi s A c k where
  ne := m.ne
  lg := Nat.lt_of_lt_of_le m.lg (size_set ..)
  lh := Nat.lt_of_lt_of_le m.lh (size_set ..)
  c0 := by rw [cs_other (off_ne (by decide))]; exact m.c0
  c1 := by rw [cs_other (off_ne (by decide))]; exact m.c1
  c2 := cs_same m.c2
  c3 := by rw [cs_other (off_ne (by decide))]; exact m.c3
  c4 := by rw [cs_other (off_ne (by decide))]; exact m.c4
  c5 := by rw [cs_other (off_ne (by decide))]; exact m.c5
  cs := fun j v hj => by rw [cs_other (far_ne m.ne)]; exact m.cs j v hj
  fg := fun o => by rw [fz_set]; exact m.fg o
  fh := fun o => by rw [fz_set]; exact m.fh o
  ed := m.ed.set _ _ (.inl rfl)
  fe := m.fe
  re := m.re
  le := m.le
  lc := m.lc
  ll := m.ll
  lu := m.lu
theorem MeterAt.set3 (m : MeterAt w g h E C nn lo hi s A c k) (x : Nat) (hx : x < 18446744073709551616) : MeterAt (w.setCell ⟨g, 3, none⟩ (.float .f64 x)) g h E C nn x hi s A c k where
  ne := m.ne
  lg := Nat.lt_of_lt_of_le m.lg (size_set ..)
  lh := Nat.lt_of_lt_of_le m.lh (size_set ..)
  c0 := by rw [cs_other (off_ne (by decide))]; exact m.c0
  c1 := by rw [cs_other (off_ne (by decide))]; exact m.c1
  c2 := by rw [cs_other (off_ne (by decide))]; exact m.c2
  c3 := cs_same m.c3
  c4 := by rw [cs_other (off_ne (by decide))]; exact m.c4
  c5 := by rw [cs_other (off_ne (by decide))]; exact m.c5
  cs := fun j v hj => by rw [cs_other (far_ne m.ne)]; exact m.cs j v hj
  fg := fun o => by rw [fz_set]; exact m.fg o
  fh := fun o => by rw [fz_set]; exact m.fh o
  ed := m.ed.set _ _ (.inl rfl)
  fe := m.fe
  re := m.re
  le := m.le
  lc := m.lc
  ll := hx
  lu := m.lu
theorem MeterAt.set4 (m : MeterAt w g h E C nn lo hi s A c k) (x : Nat) (hx : x < 18446744073709551616) : MeterAt (w.setCell ⟨g, 4, none⟩ (.float .f64 x)) g h E C nn lo x s A c k where
  ne := m.ne
  lg := Nat.lt_of_lt_of_le m.lg (size_set ..)
  lh := Nat.lt_of_lt_of_le m.lh (size_set ..)
  c0 := by rw [cs_other (off_ne (by decide))]; exact m.c0
  c1 := by rw [cs_other (off_ne (by decide))]; exact m.c1
  c2 := by rw [cs_other (off_ne (by decide))]; exact m.c2
  c3 := by rw [cs_other (off_ne (by decide))]; exact m.c3
  c4 := cs_same m.c4
  c5 := by rw [cs_other (off_ne (by decide))]; exact m.c5
  cs := fun j v hj => by rw [cs_other (far_ne m.ne)]; exact m.cs j v hj
  fg := fun o => by rw [fz_set]; exact m.fg o
  fh := fun o => by rw [fz_set]; exact m.fh o
  ed := m.ed.set _ _ (.inl rfl)
  fe := m.fe
  re := m.re
  le := m.le
  lc := m.lc
  ll := m.ll
  lu := hx
theorem MeterAt.set5 (m : MeterAt w g h E C nn lo hi s A c k) (x : Nat) : MeterAt (w.setCell ⟨g, 5, none⟩ (.float .f64 x)) g h E C nn lo hi x A c k where
  ne := m.ne
  lg := Nat.lt_of_lt_of_le m.lg (size_set ..)
  lh := Nat.lt_of_lt_of_le m.lh (size_set ..)
  c0 := by rw [cs_other (off_ne (by decide))]; exact m.c0
  c1 := by rw [cs_other (off_ne (by decide))]; exact m.c1
  c2 := by rw [cs_other (off_ne (by decide))]; exact m.c2
  c3 := by rw [cs_other (off_ne (by decide))]; exact m.c3
  c4 := by rw [cs_other (off_ne (by decide))]; exact m.c4
  c5 := cs_same m.c5
  cs := fun j v hj => by rw [cs_other (far_ne m.ne)]; exact m.cs j v hj
  fg := fun o => by rw [fz_set]; exact m.fg o
  fh := fun o => by rw [fz_set]; exact m.fh o
  ed := m.ed.set _ _ (.inl rfl)
  fe := m.fe
  re := m.re
  le := m.le
  lc := m.lc
  ll := m.ll
  lu := m.lu
theorem MeterAt.setC (m : MeterAt w g h E C nn lo hi s A c k) (i x : Nat) (hi' : i < C.length) : MeterAt (w.setCell ⟨h, i, none⟩ (.int .i64 (x : Int))) g h E (C.set i x) nn lo hi s A c k where
  ne := m.ne
  lg := Nat.lt_of_lt_of_le m.lg (size_set ..)
  lh := Nat.lt_of_lt_of_le m.lh (size_set ..)
  c0 := by rw [cs_other (far_ne m.ne.symm)]; exact m.c0
  c1 := by rw [cs_other (far_ne m.ne.symm), List.length_set]; exact m.c1
  c2 := by rw [cs_other (far_ne m.ne.symm)]; exact m.c2
  c3 := by rw [cs_other (far_ne m.ne.symm)]; exact m.c3
  c4 := by rw [cs_other (far_ne m.ne.symm)]; exact m.c4
  c5 := by rw [cs_other (far_ne m.ne.symm)]; exact m.c5
  cs := fun j v hj => by
    by_cases e : i = j
    · subst e
      rw [List.getElem?_set, if_pos rfl, if_pos hi'] at hj
      injection hj with hj
      subst hj
      exact cs_same (m.cs i _ (List.getElem?_eq_getElem hi'))
    · rw [List.getElem?_set, if_neg e] at hj
      rw [cs_other (off_ne e)]; exact m.cs j v hj
  fg := fun o => by rw [fz_set]; exact m.fg o
  fh := fun o => by rw [fz_set]; exact m.fh o
  ed := m.ed.set _ _ (.inr rfl)
  fe := m.fe
  re := m.re
  le := m.le
  lc := by rw [List.length_set]; exact m.lc
  ll := m.ll
  lu := m.lu
/-- A meter is what it was where other blocks change. -/
theorem MeterAt.keep {w' : World} (m : MeterAt w g h E C nn lo hi s A c k) (hb : Below w.heap.size w w') : MeterAt w' g h E C nn lo hi s A c k where
  ne := m.ne
  lg := Nat.lt_of_lt_of_le m.lg hb.size
  lh := Nat.lt_of_lt_of_le m.lh hb.size
  c0 := by rw [hb.cell m.lg]; exact m.c0
  c1 := by rw [hb.cell m.lg]; exact m.c1
  c2 := by rw [hb.cell m.lg]; exact m.c2
  c3 := by rw [hb.cell m.lg]; exact m.c3
  c4 := by rw [hb.cell m.lg]; exact m.c4
  c5 := by rw [hb.cell m.lg]; exact m.c5
  cs := fun j v hj => by rw [hb.cell m.lh]; exact m.cs j v hj
  fg := fun o => by rw [hb.frozen m.lg]; exact m.fg o
  fh := fun o => by rw [hb.frozen m.lh]; exact m.fh o
  ed := by
    rcases m.ed with x | ⟨b, off, h1, h2, n1, n2, h3⟩
    · exact .inl x
    · exact .inr ⟨b, off, h1, Nat.lt_of_lt_of_le h2 hb.size, n1, n2, fun j y hy => by rw [hb.cell (by exact h2)]; exact h3 j y hy⟩
  fe := m.fe
  re := m.re
  le := m.le
  lc := m.lc
  ll := m.ll
  lu := m.lu
end Go.Proofs.Ytldhbodhpdhncaa
