/- An append onto a row of the call's own, the source nil or not, with the world behind it told as 'W with more blocks'. -/
import Derived.Test.YticgpiipikneiaaBase
set_option linter.unusedSimpArgs false
set_option linter.unusedVariables false
namespace Go.Mor
open Go.RowKit

theorem ext_of_below' {W w : World} {d : Nat} {bs : Array Obj} (h : Below W.heap.size (ext W d bs) w) : ∃ d' bs', w = ext W d' bs' :=
  ext_of_below ((below_ext W d bs).trans h)

/-- The cells xs are read behind the address A. -/
def Rd (w : World) (A : Option Addr) (xs : List Value) : Prop := xs = [] ∨ ∃ ad, A = some ad ∧ ad.block < w.heap.size ∧ ∀ j u, xs[j]? = some u → w.cell? (ad.add j) = some u
theorem Rd.get {w : World} {ad : Addr} {xs : List Value} (h : Rd w (some ad) xs) : ∀ j u, xs[j]? = some u → w.cell? (ad.add j) = some u := by
  rcases h with rfl | ⟨ad', h, _, hc⟩
  · intro j u h; simp at h
  · injection h with h; subst h; exact hc
theorem add_block (a : Addr) (n : Nat) : (a.add n).block = a.block := by unfold Addr.add; split <;> rfl
theorem Rd.keep {w w' : World} {A : Option Addr} {xs : List Value} (h : Rd w A xs) (hb : Below w.heap.size w w') : Rd w' A xs := by
  rcases h with h | ⟨ad, h1, h2, h3⟩
  · exact .inl h
  · exact .inr ⟨ad, h1, Nat.lt_of_lt_of_le h2 hb.size, fun j u hj => (hb.cell (p := ad.add j) (by rw [add_block]; exact h2)).trans (h3 j u hj)⟩
theorem Rd.ext {w : World} {A : Option Addr} {xs : List Value} (h : Rd w A xs) (d : Nat) (bs : Array Obj) : Rd (Mor.ext w d bs) A xs := h.keep (below_ext w d bs)
theorem Rd.alloc {w : World} {A : Option Addr} {xs : List Value} (h : Rd w A xs) (o : Obj) : Rd (w.alloc o) A xs := h.keep ((Below.refl _ _).alloc (Nat.le_refl _) o)

/-- What is owned from 'base' on asks nothing of what lies below. -/
theorem owns_ext {W W' : World} {d : Nat} {bs : Array Obj} {e : TypeId} {size n : Nat} {v : Value} {xs : List Value} {B : Nat} (h : (ext W d bs).ownsRow B e size v n xs) (hB : B = W.heap.size) (hs : W'.heap.size = W.heap.size) (d' : Nat) :
    (ext W' d' bs).ownsRow W'.heap.size e size v n xs := by
  subst hB
  obtain ⟨h1, h2⟩ := h
  refine ⟨h1, ?_⟩
  rcases h2 with h2 | ⟨g, cap, cur, hv, hb, hg, r⟩
  · exact .inl h2
  · refine .inr ⟨g, cap, cur, hv, by omega, ?_, r⟩
    rw [← hg]
    simp only [ext]
    rw [Array.getElem?_append_right (by omega), Array.getElem?_append_right (by omega), hs]

theorem heap_ext_ge {W : World} (d : Nat) (bs : Array Obj) {k : Nat} (h : W.heap.size ≤ k) : (ext W d bs).heap[k]? = bs[k - W.heap.size]? := by
  simp only [ext]; rw [Array.getElem?_append_right h]
/-- What is read in the new blocks asks nothing of the old ones. -/
theorem rd_ext {W W' : World} {d : Nat} {bs : Array Obj} {a : Addr} {xs : List Value} (h : Rd (ext W d bs) (some a) xs) (hg : W.heap.size ≤ a.block) (hs : W'.heap.size = W.heap.size) (d' : Nat) : Rd (ext W' d' bs) (some a) xs := by
  rcases h with h | ⟨ad, h1, h2, h3⟩
  · exact .inl h
  · injection h1 with h1
    subst h1
    refine .inr ⟨_, rfl, by simp only [size_ext] at *; omega, fun j u hj => ?_⟩
    rw [← h3 j u hj]
    refine World.cell?_of_block ?_
    rw [add_block, heap_ext_ge d' bs (by omega), heap_ext_ge d bs hg, hs]

theorem owns_rd {w : World} {base : Nat} {e : TypeId} {A : Option Addr} {n c : Nat} {xs : List Value} (h : w.ownsRow base e 1 (.slice A n c) n xs) : Rd w A xs := by
  rcases h.2 with ⟨h2, rfl⟩ | ⟨g, cap, cur, hv, hb, hg, r⟩
  · exact .inl (List.eq_nil_of_length_eq_zero (by simpa using h.1))
  · injection hv with hv h3 h4
    subst hv
    exact .inr ⟨_, rfl, (Array.getElem?_eq_some_iff.1 hg).1, h.cells (g := g) rfl⟩

section
variable {P : Program}
theorem run_append_ext (W w : World) (hw : Below W.heap.size W w) (t ty e : TypeId) (i : TypeInfo) (z : Value) (size bytes : Nat) (ht : P.underlying t = some (.slice e)) (hi : P.info? e = some i) (hz : i.zero = some z)
    (hsize : i.size = size) (hby : i.bytes = bytes) (hzs : z.cells.size = size) (hsz : 0 < size)
    (v : Value) (n : Nat) (xs : List Value) (hown : w.ownsRow W.heap.size e size v n xs)
    (A : Option Addr) (m c : Nat) (news : List Value) (hr : Rd w A news) (hl : news.length = m * size) (h1 : ∀ u ∈ news, u.oneCell' = true)
    (h63 : n + m ≤ maxLen) (hbytes : (n + m) * bytes ≤ 140737488355328) :
    ∃ A' c' d' bs', (Builtin.append_ #[t, t] ty #[v, .slice A m c]).run P w = .ok (.slice A' (n + m) c') (ext W d' bs') ∧ (ext W d' bs').ownsRow W.heap.size e size (.slice A' (n + m) c') (n + m) (xs ++ news) := by
  have form : ∀ w' v' k ys, Below W.heap.size W w' → w'.ownsRow W.heap.size e size v' k ys → ∃ A' c' d' bs', v' = .slice A' k c' ∧ w' = ext W d' bs' := by
    intro w' v' k ys hb ho
    obtain ⟨d', bs', rfl⟩ := ext_of_below hb
    rcases ho.2 with ⟨rfl, rfl⟩ | ⟨g, cap, cur, rfl, _⟩
    · exact ⟨_, _, d', bs', rfl, rfl⟩
    · exact ⟨_, _, d', bs', rfl, rfl⟩
  rcases A with _ | ad
  · have hn : news = [] := by
      rcases hr with h | ⟨ad, h, _⟩
      · exact h
      · cases h
    subst hn
    have hm : m = 0 := by
      rcases Nat.eq_zero_or_pos m with h | h
      · exact h
      · have := Nat.mul_pos h hsz; simp at hl; omega
    subst hm
    obtain ⟨A', c', d', bs', rfl, rfl⟩ := form w v n xs hw hown
    refine ⟨A', c', d', bs', ?_, by simpa using hown⟩
    rcases hown.2 with ⟨hv, rfl⟩ | ⟨g, cap, cur, hv, _, _, hnc, _⟩
    · injection hv with hv1 hv2 hv3
      subst hv1; subst hv3
      simp [Builtin.append_, run_underlying ht, sizeOf, typeInfo, hi, Builtin.lenOf, Builtin.firstCells]
    · injection hv with hv1 hv2 hv3
      subst hv1; subst hv3
      simp [Builtin.append_, run_underlying ht, sizeOf, typeInfo, hi, Builtin.lenOf, Builtin.firstCells, hnc, storeCells]
  · obtain ⟨v', w', hrun, h2, h3, _⟩ := run_append_own (P := P) w W.heap.size t ty e i z size bytes ht hi hz hsize hby hzs hsz v n xs hown ad m c news hl hr.get h1 h63 hbytes hw.size
    have hb : Below W.heap.size W w' := hw.grown h3 hw.size (fun k hk => (hown.lt k hk).1)
    obtain ⟨A', c', d', bs', rfl, rfl⟩ := form w' v' _ _ hb h2
    exact ⟨A', c', d', bs', hrun, h2⟩

theorem wpList_append_ext {ops : Array Oper} {rest : List Oper} {o : Oper} {a : Act} {w : World} {Q : Exit → Act → World → Prop} (hgd : o.guard = none) (s x : Operand) (t : TypeId)
    (ho : o.op = .call { callee := .builtin .append, args := #[s, x], argTypes := #[t, t] }) (W : World) (hw : Below W.heap.size W w)
    (e : TypeId) (i : TypeInfo) (z : Value) (size bytes : Nat) (ht : P.underlying t = some (.slice e)) (hi : P.info? e = some i) (hz : i.zero = some z)
    (hsize : i.size = size) (hby : i.bytes = bytes) (hzs : z.cells.size = size) (hsz : 0 < size)
    (v : Value) (n : Nat) (xs : List Value) (hs : a.eval s = v) (hown : w.ownsRow W.heap.size e size v n xs)
    (A : Option Addr) (m c : Nat) (news : List Value) (hx : a.eval x = .slice A m c) (hr : Rd w A news) (hl : news.length = m * size) (h1 : ∀ u ∈ news, u.oneCell' = true)
    (h63 : n + m ≤ maxLen) (hbytes : (n + m) * bytes ≤ 140737488355328)
    (h : ∀ A' c' d' bs', (ext W d' bs').ownsRow W.heap.size e size (.slice A' (n + m) c') (n + m) (xs ++ news) → wpList P ops Q rest (a.put o.dst (.slice A' (n + m) c')) (ext W d' bs')) : wpList P ops Q (o :: rest) a w :=
  wpList_plain hgd fun _ hK => by
    obtain ⟨A', c', d', bs', hrun, h2⟩ := run_append_ext (P := P) W w hw t o.type e i z size bytes ht hi hz hsize hby hzs hsz v n xs hown A m c news hr hl h1 h63 hbytes
    unfold Oper.wp execOp
    simp only [ho, resolve, invoke, builtin, Sem.run_bind, Sem.run_pure, Result.andThen_ok, List.map_toArray, List.map_cons, List.map_nil, hs, hx, hrun]
    exact hK _ _ (h A' c' d' bs' h2)
end
end Go.Mor

namespace Go.Mor
open Go.RowKit
/-- Two results, the first of which is a struct in its variable. -/
theorem results_row2 {P : Program} {fn : Func} {p q : Tmp} {ty : TypeId} (h : fn.results = #[.cell p ty, .tmp q]) (tmps : Array Value) (w : World) (g n : Nat) (D : TypeDesc)
    (hp : tmps.getD p undef = .pointer (some ⟨g, 0, none⟩)) (hu : P.underlying ty = some D) (hd : D.isRow = true) (hi : (P.info? ty).map (·.size) = some n) (hr : isRow w g n = true) :
    (results fn tmps).run P w = .ok (.tuple #[.agg (rowOf w g), tmps.getD q undef]) w := by
  obtain ⟨cs, t, hg, hs, hro⟩ := isRow_spec hr
  have hp' : tmps[p]?.getD undef = .pointer (some ⟨g, 0, none⟩) := by simpa using hp
  simp [results, h, hp', asAddr, run_loadVar_row w g t ty cs (0, 0) D hg hu (by cases D <;> first | rfl | (cases hd; done)) (by rw [hi, hs]), hro]
theorem ret_row2 {P : Program} {fn : Func} {R : Ending → World → Prop} {a : Act} {w : World} {p q : Tmp} {ty : TypeId} (h : fn.results = #[.cell p ty, .tmp q]) (g n : Nat) (D : TypeDesc)
    (hp : a.tmps.getD p undef = .pointer (some ⟨g, 0, none⟩)) (hu : P.underlying ty = some D) (hd : D.isRow = true) (hi : (P.info? ty).map (·.size) = some n) (hr : isRow w g n = true) (hdef : a.defers = [])
    (hR : R (.returned (.tuple #[.agg (rowOf w g), a.tmps.getD q undef])) w) : bodyPost P fn R .ret a w :=
  bodyPost_ret (results_row2 h a.tmps w g n D hp hu hd hi hr) hdef hR
end Go.Mor
