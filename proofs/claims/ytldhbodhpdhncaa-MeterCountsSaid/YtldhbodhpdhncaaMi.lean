/- A new meter in memory. -/
import Derived.Test.YtldhbodhpdhncaaMg
import Derived.Test.YtldhbodhpdhncaaMl
set_option linter.unusedSimpArgs false
set_option linter.unusedVariables false
namespace Go.Proofs.Ytldhbodhpdhncaa
open Go.ChangeShapes Go.WideShapes Go.RowKit Go.Mor Go.Fl

abbrev meter0 (A : Option Addr) (n c h k : Nat) : Array Value := #[.slice A n c, .slice (some ⟨h, 0, none⟩) (n + 1) k, .int .i64 0, .float .f64 9218868437227405312, .float .f64 18442240474082181120, .float .f64 0]
theorem meter_new {W : World} {A : Option Addr} {n c h k g : Nat} {l : List Nat} (hl : l.length = n) (ok : newC l = 0) (hf : fits l) (hg : g = W.heap.size) (hh : h < W.heap.size) (hc : ∀ j, j < n + 1 → W.cell? ⟨h, j, none⟩ = some (.int .i64 0)) (hz : ∀ o, W.frozen? ⟨h, o, none⟩ = false)
    (he : Flt W A l) (hne : ∀ b off, A = some ⟨b, off, none⟩ → b ≠ h) :
    MeterAt (W.alloc (.cells (meter0 A n c h k) 73)) g h l (List.replicate (l.length + 1) 0) 0 9218868437227405312 18442240474082181120 0 A c k := by
  subst hg; subst hl
  obtain ⟨n1, n2, hr⟩ := newC_ok ok
  have hb : Below W.heap.size W (W.alloc (.cells (meter0 A l.length c h k) 73)) := (Below.refl _ _).alloc (Nat.le_refl _) _
  refine ⟨by omega, by simp, Nat.lt_of_lt_of_le hh hb.size, by simp, by simp, by simp, by simp, by simp, by simp, ?_, ?_, ?_, ?_, hf, hr, by omega, by simp, by decide, by decide⟩
  · intro j v hj
    rw [List.getElem?_replicate] at hj
    split at hj
    · injection hj with hj
      subst hj
      rw [hb.cell (by exact hh)]
      exact hc j (by assumption)
    · cases hj
  · intro o
    simp
  · intro o
    rw [hb.frozen (by exact hh)]; exact hz o
  · rcases he with he | ⟨b, off, h1, h2, h3⟩
    · exact .inl he
    · refine .inr ⟨b, off, h1, Nat.lt_of_lt_of_le h2 hb.size, by omega, hne b off h1, fun j x hx => ?_⟩
      rw [hb.cell (by exact h2)]; exact h3 j x hx
theorem made_cell (n j : Nat) (hj : j < n) : (madeCells #[Value.int .i64 0] n)[j]? = some (.int .i64 0) := by
  simp [madeCells, hj, Nat.mod_one]
def NewPost (l : List Nat) (w : World) (e : Ending) (w' : World) : Prop :=
  Below w.heap.size w w' ∧ ((newC l ≠ 0 ∧ e = .returned (.tuple #[.pointer none, .int .i64 (newC l)])) ∨
    (newC l = 0 ∧ ∃ g h A c k, e = .returned (.tuple #[.pointer (some ⟨g, 0, none⟩), .int .i64 0]) ∧ w.heap.size ≤ g ∧ w.heap.size ≤ h ∧ MeterAt w' g h l (List.replicate (l.length + 1) 0) 0 9218868437227405312 18442240474082181120 0 A c k ∧ ∀ b off, A = some ⟨b, off, none⟩ → w.heap.size ≤ b))
theorem rd_heap {w w' : World} {A : Option Addr} {xs : List Value} (h : Rd w A xs) (e : w'.heap = w.heap) (ht : w'.tape = w.tape) (ho : w'.os = w.os) (hp : w'.output = w.output) : Rd w' A xs :=
  h.keep ⟨ho, ht, hp, by rw [e]; exact Nat.le_refl _, fun k _ => by rw [e]⟩
theorem new_A {w : World} {A : Option Addr} {n c d : Nat} {bs : Array Obj} {l : List Nat} (hown : (ext w.drew d bs).ownsRow w.drew.heap.size 23 1 (.slice A n c) n (fltV l)) (hl : l.length = n) (ok : newC l = 0) (hf : fits l) :
    NewPost l w (.returned (.tuple #[.pointer (some ⟨w.heap.size + bs.size + 1, 0, none⟩), .int .i64 0])) (((ext w d bs).alloc (.cells (madeCells #[Value.int .i64 0] (n + 1)) 3)).alloc (.cells (meter0 A n c (w.heap.size + bs.size) (n + 1)) 73)) := by
  refine ⟨?_, .inr ⟨ok, _, w.heap.size + bs.size, A, c, n + 1, rfl, by omega, by omega, ?_, fun b off hA => (owns_base hown hA).1⟩⟩
  · exact ((below_ext w d bs).alloc (by simp) _).alloc (by simp; omega) _
  · refine meter_new hl ok hf (by simp) (by simp) (fun j hj => ?_) (fun o => ?_) ?_ ?_
    · have := made_cell (n + 1) j hj
      simp [go_sem, this]
    · simp [go_sem]
    · have hr : Rd (ext w d bs) A (fltV l) := rd_heap (owns_rd hown) rfl rfl rfl rfl
      exact Flt.of_rd (hr.alloc _)
    · intro b off hA
      have h := (owns_base hown hA).2
      have e : (ext w.drew d bs).heap.size = w.heap.size + bs.size := by simp [size_ext]
      omega
theorem new_B {w : World} {A : Option Addr} {n c d : Nat} {bs : Array Obj} {l : List Nat} (hown : (ext (w.drew.alloc (.cells (madeCells #[Value.int .i64 0] (n + 1)) 3)) d bs).ownsRow (w.drew.alloc (.cells (madeCells #[Value.int .i64 0] (n + 1)) 3)).heap.size 23 1 (.slice A n c) n (fltV l)) (hl : l.length = n) (ok : newC l = 0) (hf : fits l) :
    NewPost l w (.returned (.tuple #[.pointer (some ⟨w.heap.size + 1 + bs.size, 0, none⟩), .int .i64 0])) ((ext (w.alloc (.cells (madeCells #[Value.int .i64 0] (n + 1)) 3)) d bs).alloc (.cells (meter0 A n c w.heap.size (n + 1)) 73)) := by
  refine ⟨?_, .inr ⟨ok, _, w.heap.size, A, c, n + 1, rfl, by omega, Nat.le_refl _, ?_, fun b off hA => Nat.le_trans (by simp) (owns_base hown hA).1⟩⟩
  · exact (below_ext' ((Below.refl _ _).alloc (Nat.le_refl _) _) (by simp) d bs).alloc (by simp [size_ext]; omega) _
  · refine meter_new hl ok hf (by simp [size_ext]) (by simp [size_ext]; omega) (fun j hj => ?_) (fun o => ?_) ?_ ?_
    · have hb := below_ext (w.alloc (.cells (madeCells #[Value.int .i64 0] (n + 1)) 3)) d bs
      rw [hb.cell (by simp)]
      have := made_cell (n + 1) j hj
      simp [this]
    · have hb := below_ext (w.alloc (.cells (madeCells #[Value.int .i64 0] (n + 1)) 3)) d bs
      rw [hb.frozen (by simp)]
      simp
    · exact Flt.of_rd (rd_heap (owns_rd hown) rfl rfl rfl rfl)
    · intro b off hA
      have h := (owns_base hown hA).1
      have e : (w.drew.alloc (.cells (madeCells #[Value.int .i64 0] (n + 1)) 3)).heap.size = w.heap.size + 1 := by simp
      omega
end Go.Proofs.Ytldhbodhpdhncaa
