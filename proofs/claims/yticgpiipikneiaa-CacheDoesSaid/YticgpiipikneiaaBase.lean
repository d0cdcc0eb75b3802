/- Small laws on worlds that have grown by blocks of which nothing is known, and on whole rows of cells. No condition. -/
import Derived.WalkKit
import Derived.WalkLawsBesides
import Derived.WalkSpells
import Derived.Deep.Quiet
import Derived.BigQuiet
import Derived.Deep.MidRow
set_option linter.unusedSimpArgs false
set_option linter.unusedVariables false
namespace Go.Mor
open Go.RowKit

/-- Out of the walk's sight. -/
theorem hid {p : Prop} (h : p) : Hid p := h

/-- 'W' with more blocks behind its own, after whatever draws. -/
def ext (W : World) (d : Nat) (bs : Array Obj) : World := { heap := W.heap ++ bs, tape := W.tape, drawn := d, os := W.os, output := W.output }

theorem ext_of_below {W w : World} (h : Below W.heap.size W w) : ∃ d bs, w = ext W d bs := by
  refine ⟨w.drawn, w.heap.extract W.heap.size w.heap.size, ?_⟩
  obtain ⟨h1, h2, h3, h4, h5⟩ := h
  cases w with
  | mk heap tape drawn os output =>
    simp only [ext] at *
    subst h1; subst h2; subst h3
    congr 1
    apply Array.ext_getElem?
    intro i
    rw [Array.getElem?_append]
    by_cases hi : i < W.heap.size
    · rw [if_pos hi, h5 i hi]
    · rw [if_neg hi, Array.getElem?_extract]
      by_cases hj : i < heap.size
      · rw [if_pos (by omega)]; congr 1; omega
      · rw [if_neg (by omega)]; simp; omega

theorem below_ext (W : World) (d : Nat) (bs : Array Obj) : Below W.heap.size W (ext W d bs) :=
  ⟨rfl, rfl, rfl, by simp [ext], fun k hk => by simp only [ext]; rw [Array.getElem?_append_left hk]⟩

theorem below_ext' {B : Nat} {A W : World} (h : Below B A W) (hB : B ≤ W.heap.size) (d : Nat) (bs : Array Obj) : Below B A (ext W d bs) :=
  h.trans ((below_ext W d bs).mono hB)

/-- Block g is one of W's. -/
def within (g : Nat) (W : World) : Bool := decide (g < W.heap.size)
theorem within_lt {g : Nat} {W : World} (h : within g W = true) : g < W.heap.size := by simpa [within] using h
theorem within_of {g : Nat} {W : World} (h : g < W.heap.size) : within g W = true := by simpa [within] using h
@[go_sem] theorem within_alloc (g : Nat) (W : World) (o : Obj) : within g (W.alloc o) = (g == W.heap.size || within g W) := by
  rw [Bool.eq_iff_iff]; simp [within]; omega
@[go_sem] theorem within_drew (g : Nat) (W : World) : within g W.drew = within g W := rfl
@[go_sem] theorem within_drewN (g : Nat) (W : World) (n : Nat) : within g (W.drewN n) = within g W := rfl
@[go_sem] theorem within_setCell (g : Nat) (W : World) (a : Addr) (v : Value) : within g (W.setCell a v) = within g W := by simp [within, World.setCell]
@[go_sem] theorem within_setRow (g : Nat) (W : World) (a : Nat) (v : Array Value) : within g (W.setRow a v) = within g W := by simp [within, World.setRow]
@[go_sem] theorem within_ext (g : Nat) (W : World) (d : Nat) (bs : Array Obj) : within g (ext W d bs) = (within g W || decide (g < W.heap.size + bs.size)) := by
  rw [Bool.eq_iff_iff]; simp [within, ext]; omega

section
variable (w : World) (o : Obj) {n i : Nat}
@[go_sem] theorem cell?_alloc_in (h : within n w = true) : (w.alloc o).cell? ⟨n, i, none⟩ = w.cell? ⟨n, i, none⟩ := World.cell?_alloc_past o n i (within_lt h)
@[go_sem] theorem frozen?_alloc_in (h : within n w = true) : (w.alloc o).frozen? ⟨n, i, none⟩ = w.frozen? ⟨n, i, none⟩ := World.frozen?_alloc_past o n i (within_lt h)
@[go_sem] theorem setCell_alloc_in (v : Value) (h : within n w = true) : (w.alloc o).setCell ⟨n, i, none⟩ v = (w.setCell ⟨n, i, none⟩ v).alloc o := World.setCell_alloc_past o n i v (within_lt h)
end

section
variable (W : World) (d : Nat) (bs : Array Obj)
@[go_sem, simp] theorem size_ext : (ext W d bs).heap.size = W.heap.size + bs.size := by simp [ext]
theorem heap_ext {k : Nat} (h : k < W.heap.size) : (ext W d bs).heap[k]? = W.heap[k]? := by simp only [ext]; rw [Array.getElem?_append_left h]
@[go_sem] theorem cell?_ext {n i : Nat} (h : within n W = true) : (ext W d bs).cell? ⟨n, i, none⟩ = W.cell? ⟨n, i, none⟩ := World.cell?_of_block (heap_ext W d bs (within_lt h))
@[go_sem] theorem frozen?_ext {n i : Nat} (h : within n W = true) : (ext W d bs).frozen? ⟨n, i, none⟩ = W.frozen? ⟨n, i, none⟩ := World.frozen?_of_block (heap_ext W d bs (within_lt h))
@[go_sem] theorem drew_ext : (ext W d bs).drew = ext W (d + 1) bs := rfl
@[go_sem] theorem ext_drew : ext W.drew d bs = ext W d bs := rfl
@[go_sem] theorem ext_drewN (n : Nat) : ext (W.drewN n) d bs = ext W d bs := rfl
@[go_sem] theorem drewN_ext (n : Nat) : (ext W d bs).drewN n = ext W (d + n) bs := rfl
@[go_sem] theorem ext_ext (e : Nat) (cs : Array Obj) : ext (ext W d bs) e cs = ext W e (bs ++ cs) := by simp [ext, Array.append_assoc]
@[go_sem] theorem setCell_ext {n i : Nat} (v : Value) (h : within n W = true) : (ext W d bs).setCell ⟨n, i, none⟩ v = ext (W.setCell ⟨n, i, none⟩ v) d bs := by
  replace h := within_lt h
  unfold World.setCell ext
  congr 1
  apply Array.ext_getElem?
  intro k
  simp only [Array.getElem?_modify, Array.getElem?_append, Array.size_modify]
  by_cases hk : k = n
  · subst hk; simp [h]
  · simp [Ne.symm hk]
end

/-! ### whole rows -/
/-- The cells of block 'g'. -/
def rowOf (w : World) (g : Nat) : Array Value := match w.heap[g]? with | some (.cells cs _ _) => cs | _ => #[]
def isSz (cs : Array Value) (n : Nat) : Bool := cs.size == n
/-- Block 'g' is a row of n cells that may be written. -/
def isRow (w : World) (g n : Nat) : Bool := match w.heap[g]? with | some (.cells cs _ (0, 0)) => isSz cs n | _ => false
/-- Each is one cell. -/
def ones (cs : Array Value) : Bool := cs.all (·.oneCell')

theorem isRow_spec {w : World} {g n : Nat} (h : isRow w g n = true) : ∃ cs t, w.heap[g]? = some (.cells cs t (0, 0)) ∧ cs.size = n ∧ rowOf w g = cs := by
  unfold isRow at h
  split at h
  · rename_i cs t hg
    exact ⟨cs, t, hg, by simpa [isSz] using h, by simp [rowOf, hg]⟩
  · cases h

section
variable (w : World) (g n : Nat)
@[go_sem] theorem isRow_alloc_past (o : Obj) (h : within g w = true) : isRow (w.alloc o) g n = isRow w g n := by
  unfold isRow; rw [Below.heap_alloc w o g (within_lt h)]
@[go_sem] theorem isRow_alloc_at (cs : Array Value) (t : TypeId) (h : g = w.heap.size) : isRow (w.alloc (.cells cs t)) g n = isSz cs n := by
  subst h; unfold isRow; rw [heap_alloc_new w _]; rfl
@[go_sem] theorem rowOf_alloc_past (o : Obj) (h : within g w = true) : rowOf (w.alloc o) g = rowOf w g := by
  unfold rowOf; rw [Below.heap_alloc w o g (within_lt h)]
@[go_sem] theorem rowOf_alloc_at (cs : Array Value) (t : TypeId) (h : g = w.heap.size) : rowOf (w.alloc (.cells cs t)) g = cs := by
  subst h; unfold rowOf; rw [heap_alloc_new w _]
@[go_sem] theorem isRow_drew : isRow w.drew g n = isRow w g n := rfl
@[go_sem] theorem rowOf_drew : rowOf w.drew g = rowOf w g := rfl
@[go_sem] theorem isRow_drewN (k : Nat) : isRow (w.drewN k) g n = isRow w g n := rfl
@[go_sem] theorem rowOf_drewN (k : Nat) : rowOf (w.drewN k) g = rowOf w g := rfl
@[go_sem] theorem isRow_ext (d : Nat) (bs : Array Obj) (h : within g w = true) : isRow (ext w d bs) g n = isRow w g n := by
  unfold isRow; rw [heap_ext w d bs (within_lt h)]
@[go_sem] theorem rowOf_ext (d : Nat) (bs : Array Obj) (h : within g w = true) : rowOf (ext w d bs) g = rowOf w g := by
  unfold rowOf; rw [heap_ext w d bs (within_lt h)]
theorem isRow_setCell (b i : Nat) (v : Value) : isRow (w.setCell ⟨b, i, none⟩ v) g n = isRow w g n := by
  unfold isRow World.setCell
  simp only [Array.getElem?_modify]
  by_cases h : b = g
  · subst h
    simp only [if_true]
    cases hb : w.heap[b]? with
    | none => simp
    | some o => cases o with
      | cells c t f => obtain ⟨f1, f2⟩ := f; rcases f1 with _ | f1 <;> rcases f2 with _ | f2 <;> simp [isSz]
      | _ => simp
  · simp only [if_neg h]
theorem rowOf_setCell_other (b i : Nat) (v : Value) (h : b ≠ g) : rowOf (w.setCell ⟨b, i, none⟩ v) g = rowOf w g := by
  unfold rowOf World.setCell
  simp only [Array.getElem?_modify, if_neg h]
theorem rowOf_setCell_same (i : Nat) (v : Value) : rowOf (w.setCell ⟨g, i, none⟩ v) g = (rowOf w g).setIfInBounds i v := by
  unfold rowOf World.setCell
  simp only [Array.getElem?_modify, if_true]
  cases hb : w.heap[g]? with
  | none => simp
  | some o => cases o <;> simp
attribute [go_sem] isRow_setCell rowOf_setCell_same
@[go_sem] theorem rowOf_setCell_ne (b i : Nat) (v : Value) (h : (b == g) = false) : rowOf (w.setCell ⟨b, i, none⟩ v) g = rowOf w g :=
  rowOf_setCell_other w g b i v (by simpa using h)
@[go_sem] theorem setRow_alloc_past (o : Obj) (cs : Array Value) (h : within g w = true) : (w.alloc o).setRow g cs = (w.setRow g cs).alloc o := by
  replace h := within_lt h
  unfold World.setRow World.alloc
  congr 1
  apply Array.ext_getElem?
  intro k
  simp only [Array.getElem?_modify, Array.getElem?_push, Array.size_modify]
  by_cases hk : k = w.heap.size
  · subst hk
    simp [Nat.ne_of_lt h]
  · simp [hk]
@[go_sem] theorem setRow_alloc_at (c cs : Array Value) (t : TypeId) (h : g = w.heap.size) : (w.alloc (.cells c t)).setRow g cs = w.alloc (.cells cs t) := by
  subst h
  unfold World.setRow World.alloc
  congr 1
  apply Array.ext_getElem?
  intro k
  simp only [Array.getElem?_modify, Array.getElem?_push]
  by_cases hk : k = w.heap.size
  · subst hk; simp
  · simp [hk, Ne.symm hk]
@[go_sem] theorem setRow_drew (cs : Array Value) : w.drew.setRow g cs = (w.setRow g cs).drew := rfl
@[go_sem] theorem setRow_drewN (k : Nat) (cs : Array Value) : (w.drewN k).setRow g cs = (w.setRow g cs).drewN k := rfl
@[go_sem] theorem setRow_ext (d : Nat) (bs : Array Obj) (cs : Array Value) (h : within g w = true) : (ext w d bs).setRow g cs = ext (w.setRow g cs) d bs := by
  replace h := within_lt h
  unfold World.setRow ext
  congr 1
  apply Array.ext_getElem?
  intro k
  simp only [Array.getElem?_modify, Array.getElem?_append, Array.size_modify]
  by_cases hk : k = g
  · subst hk; simp [h]
  · simp [Ne.symm hk]
@[go_sem] theorem isSz_set (cs : Array Value) (i : Nat) (v : Value) : isSz (cs.setIfInBounds i v) n = isSz cs n := by simp [isSz]
@[go_sem] theorem isSz_lit (l : List Value) : isSz l.toArray n = (l.length == n) := by simp [isSz]
@[go_sem] theorem ones_lit (l : List Value) : ones l.toArray = l.all (·.oneCell') := by simp [ones]
theorem ones_set (cs : Array Value) (i : Nat) (v : Value) (h : ones cs = true) (hv : v.oneCell' = true) : ones (cs.setIfInBounds i v) = true := by
  unfold ones at *
  rw [Array.all_eq_true_iff_forall_mem] at *
  intro x hx
  rcases Array.mem_or_eq_of_mem_setIfInBounds hx with h1 | h1
  · exact h x h1
  · rw [h1]; exact hv
end

/-- A whole struct (or array) is read out of its variable. -/
theorem run_loadAt_rowOf {P : Program} (w : World) (g : Nat) (ty : TypeId) (n : Nat) (d : TypeDesc) (hu : P.underlying ty = some d)
    (hd : (match d with | .struct _ | .array _ _ => true | _ => false) = true) (hi : (P.info? ty).map (·.size) = some n) (h : isRow w g n = true) :
    (Instr.loadAt ty (.pointer (some ⟨g, 0, none⟩))).run P w = .ok (.agg (rowOf w g)) w := by
  obtain ⟨cs, t, hg, hs, hr⟩ := isRow_spec h
  simp only [Instr.loadAt, Instr.sureAddr, Sem.run_bind, Sem.run_pure, Result.andThen_ok, run_loadVar_row w g t ty cs (0, 0) d hg hu hd (by rw [hi, hs]), hr]

/-- .. and stored into it. -/
theorem run_storeAt_rowOf {P : Program} (w : World) (g : Nat) (ty : TypeId) (n : Nat) (cs : Array Value) (hi : (P.info? ty).map (·.size) = some n) (hs : isSz cs n = true) (h1 : ones cs = true) (h : isRow w g n = true) :
    (Instr.storeAt ty (.pointer (some ⟨g, 0, none⟩)) (.agg cs)).run P w = .ok () (w.setRow g cs) := by
  obtain ⟨old, t, hg, hs', hr⟩ := isRow_spec h
  have hn : cs.size = n := by simpa [isSz] using hs
  simp only [Instr.storeAt, Instr.sureAddr, Sem.run_bind, Sem.run_pure, Result.andThen_ok, run_storeVar_row w g t ty old cs hg (by rw [hi, hn]) (by omega) h1]

/-! ### a region that draws its order: whatever its callees make -/
/-- How a world has grown. -/
structure Gr where
  d : Nat
  bs : Array Obj
instance : Inhabited Gr := ⟨⟨0, #[]⟩⟩

theorem wp_region_ext {P : Program} {id : Nat} {Q : Exit → Act → World → Prop} {a : Act} {w : World} {l : List Oper} (hm : P.follows .mixedOrders = true) (hB : Region.lexB .any l.toArray = true)
    (h : wpQuiet P l.toArray (fun w' => ∃ x : Gr, w' = ext w x.d x.bs) (fun a' => ∀ w', (∃ x : Gr, w' = ext w x.d x.bs) → Q .normal a' w') l a) : (Code.region id l.toArray true).wp P Q a w :=
  wp_region_quiet (C := fun w' => ∃ x : Gr, w' = ext w x.d x.bs) hm hB ⟨⟨w.drawn + 1, #[]⟩, by cases w; simp [ext]⟩ (by simpa using h)

theorem calls_ext {P : Program} {f : FuncId} {args : Array Value} {W : World} {x : Gr} {v : Value}
    (h : Calls P f args (ext W x.d x.bs) fun e w' => e = .returned v ∧ Below (ext W x.d x.bs).heap.size (ext W x.d x.bs) w') :
    Calls P f args (ext W x.d x.bs) fun e w'' => e = .returned v ∧ ∃ y : Gr, w'' = ext W y.d y.bs :=
  h.mono fun _ _ ⟨he, hb⟩ => by
    obtain ⟨d', bs', rfl⟩ := ext_of_below hb
    exact ⟨he, ⟨d', x.bs ++ bs'⟩, by rw [ext_ext]⟩

end Go.Mor

namespace Go.Mor
open Go.RowKit
/-- A pointer to a block's head. -/
def isHead : Value → Bool | .pointer (some ⟨_, 0, none⟩) => true | _ => false
def blk : Value → Nat | .pointer (some a) => a.block | _ => 0
def aggs : Value → Array Value | .agg cs => cs | _ => #[]
/-- A value of n cells. -/
def isAgg' (v : Value) (n : Nat) : Bool := match v with | .agg cs => isSz cs n && ones cs | _ => false
@[go_sem] theorem isHead_ptr (n : Nat) : isHead (.pointer (some ⟨n, 0, none⟩)) = true := rfl
@[go_sem] theorem blk_ptr (n i : Nat) : blk (.pointer (some ⟨n, i, none⟩)) = n := rfl
@[go_sem] theorem aggs_agg (cs : Array Value) : aggs (.agg cs) = cs := rfl
@[go_sem] theorem isAgg'_agg (cs : Array Value) (n : Nat) : isAgg' (.agg cs) n = (isSz cs n && ones cs) := rfl

theorem isHead_spec {v : Value} (h : isHead v = true) : ∃ b, v = .pointer (some ⟨b, 0, none⟩) := by
  unfold isHead at h
  split at h
  · exact ⟨_, rfl⟩
  · cases h
theorem isAgg'_spec {v : Value} {n : Nat} (h : isAgg' v n = true) : ∃ cs, v = .agg cs ∧ isSz cs n = true ∧ ones cs = true := by
  cases v <;> simp only [isAgg', Bool.and_eq_true] at h <;> first | (cases h; done) | exact ⟨_, rfl, h.1, h.2⟩

section
variable {P : Program} (ev : Operand → Value) (w : World)
theorem exec_load (ty : TypeId) (n : Nat) (D : TypeDesc) (hu : P.underlying ty = some D)
    (hd : D.isRow = true) (hi : (P.info? ty).map (·.size) = some n)
    (x : Operand) (d : Option Tmp) (t : TypeId) (pos : String) (af : Array Edge) (gd : Option (Nat × Bool))
    (h1 : isHead (ev x) = true) (h2 : isRow w (blk (ev x)) n = true) :
    (execOp ev (Oper.mk d (.load ty x) t pos af gd)).run P w = .ok (.value (.agg (rowOf w (blk (ev x))))) w := by
  obtain ⟨b, hb⟩ := isHead_spec h1
  rw [hb] at h2 ⊢
  simp only [execOp, hb, blk] at *
  simp only [Sem.run_bind, run_loadAt_rowOf w b ty n D hu (by cases D <;> first | rfl | (cases hd; done)) hi h2, Result.andThen_ok, Sem.run_pure]

theorem exec_store (ty : TypeId) (n : Nat) (hi : (P.info? ty).map (·.size) = some n)
    (x y : Operand) (d : Option Tmp) (t : TypeId) (pos : String) (af : Array Edge) (gd : Option (Nat × Bool))
    (h1 : isHead (ev x) = true) (h2 : isRow w (blk (ev x)) n = true) (h3 : isAgg' (ev y) n = true) :
    (execOp ev (Oper.mk d (.store ty x y) t pos af gd)).run P w = .ok .skip (w.setRow (blk (ev x)) (aggs (ev y))) := by
  obtain ⟨b, hb⟩ := isHead_spec h1
  obtain ⟨cs, hc, h4, h5⟩ := isAgg'_spec h3
  rw [hb] at h2 ⊢
  simp only [execOp, hb, hc, blk, aggs] at *
  simp only [Sem.run_bind, run_storeAt_rowOf w b ty n _ hi h4 h5 h2, Result.andThen_ok, Sem.run_pure]

theorem exec_alloc (ty : TypeId) (z : Array Value) (hz : ∀ w, (execOp ev (Oper.mk none (.alloc ty) 0 "" #[] none)).run P w = .ok (.value (.pointer (some ⟨w.heap.size, 0, none⟩))) (w.alloc (.cells z ty)))
    (d : Option Tmp) (t : TypeId) (pos : String) (af : Array Edge) (gd : Option (Nat × Bool)) :
    (execOp ev (Oper.mk d (.alloc ty) t pos af gd)).run P w = .ok (.value (.pointer (some ⟨w.heap.size, 0, none⟩))) (w.alloc (.cells z ty)) := hz w
end
end Go.Mor
