/- The row of nodes in memory; a node taken out of it, and put first. No program in sight. -/
import Derived.Test.YticgpiipikneiaaCa
set_option linter.unusedSimpArgs false
set_option linter.unusedVariables false
namespace Go.Cch
open Go.RowKit Go.Mor

theorem cs_same {w : World} {p : Addr} {u v : Value} (h : w.cell? p = some u) : (w.setCell p v).cell? p = some v := by apply World.cell?_setCell_same; exact h
theorem cs_other {w : World} {p q : Addr} {v : Value} (h : p ≠ q) : (w.setCell p v).cell? q = w.cell? q := by apply World.cell?_setCell_other; exact h
theorem fz_set {w : World} {p q : Addr} {v : Value} : (w.setCell p v).frozen? q = w.frozen? q := by apply World.frozen?_setCell
theorem far {a b i j : Nat} (h : a ≠ b) : (⟨a, i, none⟩ : Addr) ≠ ⟨b, j, none⟩ := fun e => h (by injection e)
theorem off {a b i j : Nat} (h : i ≠ j) : (⟨a, i, none⟩ : Addr) ≠ ⟨b, j, none⟩ := fun e => h (by injection e)
theorem sz_set (w : World) (p : Addr) (v : Value) : (w.setCell p v).heap.size = w.heap.size := by simp [World.setCell]
theorem bl_set {w : World} {p : Addr} {v : Value} {k : Nat} (h : k ≠ p.block) : (w.setCell p v).heap[k]? = w.heap[k]? := Below.heap_setCell w p v k h

structure NodeAt (w : World) (n : Nd) (p q : Option Nat) : Prop where
  lt : n.b < w.heap.size
  c0 : w.cell? ⟨n.b, 0, none⟩ = some n.k.value
  c1 : w.cell? ⟨n.b, 1, none⟩ = some (.int .i64 n.v)
  c2 : w.cell? ⟨n.b, 2, none⟩ = some (ptrV p)
  c3 : w.cell? ⟨n.b, 3, none⟩ = some (ptrV q)
  fz : ∀ o, w.frozen? ⟨n.b, o, none⟩ = false
def pv (ns : List Nd) (j : Nat) : Option Nat := if j = 0 then none else (ns[j - 1]?).map (·.b)
def nx (ns : List Nd) (j : Nat) : Option Nat := (ns[j + 1]?).map (·.b)
def fst (ns : List Nd) : Option Nat := (ns[0]?).map (·.b)
def lst (ns : List Nd) : Option Nat := (ns[ns.length - 1]?).map (·.b)
structure RowAt (w : World) (c : Nat) (ns : List Nd) : Prop where
  lc : c < w.heap.size
  f : w.cell? ⟨c, 2, none⟩ = some (ptrV (fst ns))
  l : w.cell? ⟨c, 3, none⟩ = some (ptrV (lst ns))
  fz : ∀ o, w.frozen? ⟨c, o, none⟩ = false
  nd : ∀ j n, ns[j]? = some n → NodeAt w n (pv ns j) (nx ns j)
  dj : (ns.map (·.b)).Nodup
  nc : ∀ n ∈ ns, n.b ≠ c
/-- But for the links of the row nothing has turned. -/
structure Turn (c : Nat) (bs : List Nat) (w w' : World) : Prop where
  os : w'.os = w.os
  tape : w'.tape = w.tape
  output : w'.output = w.output
  size : w'.heap.size = w.heap.size
  block : ∀ k, k ≠ c → k ∉ bs → w'.heap[k]? = w.heap[k]?
  cell : ∀ x o, o ≠ 2 → o ≠ 3 → w'.cell? ⟨x, o, none⟩ = w.cell? ⟨x, o, none⟩
  fz : ∀ a, w'.frozen? a = w.frozen? a
theorem Turn.refl (c : Nat) (bs : List Nat) (w : World) : Turn c bs w w := ⟨rfl, rfl, rfl, rfl, fun _ _ _ => rfl, fun _ _ _ _ => rfl, fun _ => rfl⟩
theorem Turn.trans {c : Nat} {bs : List Nat} {a b d : World} (x : Turn c bs a b) (y : Turn c bs b d) : Turn c bs a d :=
  ⟨y.os.trans x.os, y.tape.trans x.tape, y.output.trans x.output, y.size.trans x.size, fun k h1 h2 => (y.block k h1 h2).trans (x.block k h1 h2), fun p o h1 h2 => (y.cell p o h1 h2).trans (x.cell p o h1 h2), fun a => (y.fz a).trans (x.fz a)⟩
theorem Turn.mono {c : Nat} {bs cs : List Nat} {a b : World} (x : Turn c bs a b) (h : ∀ k ∈ bs, k ∈ cs) : Turn c cs a b :=
  ⟨x.os, x.tape, x.output, x.size, fun k h1 h2 => x.block k h1 (fun e => h2 (h k e)), x.cell, x.fz⟩
theorem Turn.drewN {c : Nat} {bs : List Nat} {a b : World} (x : Turn c bs a b) (n : Nat) : Turn c bs a (b.drewN n) := ⟨x.os, x.tape, x.output, x.size, x.block, x.cell, x.fz⟩
theorem Turn.set {c : Nat} {bs : List Nat} {a b : World} (x : Turn c bs a b) (y o : Nat) (v : Value) (ho : o = 2 ∨ o = 3) (hy : y = c ∨ y ∈ bs) : Turn c bs a (b.setCell ⟨y, o, none⟩ v) where
  os := x.os
  tape := x.tape
  output := x.output
  size := (sz_set _ _ _).trans x.size
  block := fun k h1 h2 => (bl_set (fun e => hy.elim (fun h => h1 (e.trans h)) (fun h => h2 (by rw [show k = y from e]; exact h)))).trans (x.block k h1 h2)
  cell := fun p q h1 h2 => (cs_other (off (by rcases ho with h | h <;> subst h <;> omega))).trans (x.cell p q h1 h2)
  fz := fun p => fz_set.trans (x.fz p)

def outW (w : World) (c b : Nat) (p q : Option Nat) : World :=
  let w1 := match p with
    | none => w.setCell ⟨c, 2, none⟩ (ptrV q)
    | some a => w.setCell ⟨a, 3, none⟩ (ptrV q)
  let w2 := match q with
    | none => w1.setCell ⟨c, 3, none⟩ (ptrV p)
    | some a => w1.setCell ⟨a, 2, none⟩ (ptrV p)
  (w2.setCell ⟨b, 2, none⟩ (ptrV none)).setCell ⟨b, 3, none⟩ (ptrV none)
section
variable {w : World} {c b x : Nat} {p q : Option Nat} {u : Value}
theorem out_2_q (hq : q = some x) (hb : x ≠ b) (hc : x ≠ c) (hu : w.cell? ⟨x, 2, none⟩ = some u) : (outW w c b p q).cell? ⟨x, 2, none⟩ = some (ptrV p) := by
  subst hq
  unfold outW
  simp only []
  rw [cs_other (off (by decide)), cs_other (far hb.symm)]
  cases p with
  | none => exact cs_same (u := u) (by rw [cs_other (far hc.symm)]; exact hu)
  | some a => exact cs_same (u := u) (by rw [cs_other (off (by decide))]; exact hu)
theorem out_2_c (hp : p = none) (hb : c ≠ b) (hq : q ≠ some c) (hu : w.cell? ⟨c, 2, none⟩ = some u) : (outW w c b p q).cell? ⟨c, 2, none⟩ = some (ptrV q) := by
  subst hp
  unfold outW
  simp only []
  rw [cs_other (off (by decide)), cs_other (far hb.symm)]
  cases q with
  | none => simp only []; rw [cs_other (off (by decide))]; exact cs_same hu
  | some a => simp only []; rw [cs_other (far (fun e => hq (by rw [e])))]; exact cs_same hu
theorem out_2_else (hb : x ≠ b) (hq : q ≠ some x) (hp : p = none → x ≠ c) : (outW w c b p q).cell? ⟨x, 2, none⟩ = w.cell? ⟨x, 2, none⟩ := by
  unfold outW
  simp only []
  rw [cs_other (off (by decide)), cs_other (far hb.symm)]
  cases p with
  | none =>
    cases q with
    | none => simp only []; rw [cs_other (off (by decide)), cs_other (far (hp rfl).symm)]
    | some a => simp only []; rw [cs_other (far (fun e => hq (by rw [e]))), cs_other (far (hp rfl).symm)]
  | some a =>
    cases q with
    | none => simp only []; rw [cs_other (off (by decide)), cs_other (off (by decide))]
    | some a => simp only []; rw [cs_other (far (fun e => hq (by rw [e]))), cs_other (off (by decide))]
theorem out_3_p (hp : p = some x) (hb : x ≠ b) (hc : x ≠ c) (hu : w.cell? ⟨x, 3, none⟩ = some u) : (outW w c b p q).cell? ⟨x, 3, none⟩ = some (ptrV q) := by
  subst hp
  unfold outW
  simp only []
  rw [cs_other (far hb.symm), cs_other (off (by decide))]
  cases q with
  | none => simp only []; rw [cs_other (far hc.symm)]; exact cs_same hu
  | some a => simp only []; rw [cs_other (off (by decide))]; exact cs_same hu
theorem out_3_c (hq : q = none) (hb : c ≠ b) (hp : p ≠ some c) (hu : w.cell? ⟨c, 3, none⟩ = some u) : (outW w c b p q).cell? ⟨c, 3, none⟩ = some (ptrV p) := by
  subst hq
  unfold outW
  simp only []
  rw [cs_other (far hb.symm), cs_other (off (by decide))]
  cases p with
  | none => exact cs_same (u := u) (by rw [cs_other (off (by decide))]; exact hu)
  | some a => exact cs_same (u := u) (by rw [cs_other (far (fun e => hp (by rw [e])))]; exact hu)
theorem out_3_else (hb : x ≠ b) (hp : p ≠ some x) (hq : q = none → x ≠ c) : (outW w c b p q).cell? ⟨x, 3, none⟩ = w.cell? ⟨x, 3, none⟩ := by
  unfold outW
  simp only []
  rw [cs_other (far hb.symm), cs_other (off (by decide))]
  cases p with
  | none =>
    cases q with
    | none => simp only []; rw [cs_other (far (hq rfl).symm), cs_other (off (by decide))]
    | some a => simp only []; rw [cs_other (off (by decide)), cs_other (off (by decide))]
  | some a =>
    cases q with
    | none => simp only []; rw [cs_other (far (hq rfl).symm), cs_other (far (fun e => hp (by rw [e])))]
    | some a => simp only []; rw [cs_other (off (by decide)), cs_other (far (fun e => hp (by rw [e])))]
theorem out_turn {bs : List Nat} (hb : b ∈ bs) (hp : ∀ a, p = some a → a ∈ bs) (hq : ∀ a, q = some a → a ∈ bs) : Turn c bs w (outW w c b p q) := by
  unfold outW
  simp only []
  refine Turn.set (Turn.set ?_ _ _ _ (.inl rfl) (.inr hb)) _ _ _ (.inr rfl) (.inr hb)
  cases p with
  | none =>
    cases q with
    | none => exact ((Turn.refl _ _ _).set _ _ _ (.inl rfl) (.inl rfl)).set _ _ _ (.inr rfl) (.inl rfl)
    | some a => exact ((Turn.refl _ _ _).set _ _ _ (.inl rfl) (.inl rfl)).set _ _ _ (.inl rfl) (.inr (hq a rfl))
  | some a =>
    cases q with
    | none => exact ((Turn.refl _ _ _).set _ _ _ (.inr rfl) (.inr (hp a rfl))).set _ _ _ (.inr rfl) (.inl rfl)
    | some a2 => exact ((Turn.refl _ _ _).set _ _ _ (.inr rfl) (.inr (hp a rfl))).set _ _ _ (.inl rfl) (.inr (hq a2 rfl))
theorem out_own2 (hu : ∃ u, w.cell? ⟨b, 2, none⟩ = some u) (hbc : b ≠ c) (hpb : p ≠ some b) (hqb : q ≠ some b) : (outW w c b p q).cell? ⟨b, 2, none⟩ = some (ptrV none) := by
  obtain ⟨u, hu⟩ := hu
  unfold outW
  simp only []
  rw [cs_other (off (by decide))]
  refine cs_same (u := u) ?_
  cases p with
  | none =>
    cases q with
    | none => simp only []; rw [cs_other (off (by decide)), cs_other (far hbc.symm)]; exact hu
    | some a => simp only []; rw [cs_other (far (fun e => hqb (by rw [e]))), cs_other (far hbc.symm)]; exact hu
  | some a =>
    cases q with
    | none => simp only []; rw [cs_other (off (by decide)), cs_other (off (by decide))]; exact hu
    | some a2 => simp only []; rw [cs_other (far (fun e => hqb (by rw [e]))), cs_other (off (by decide))]; exact hu
theorem out_own3 (hu : ∃ u, w.cell? ⟨b, 3, none⟩ = some u) (hbc : b ≠ c) (hpb : p ≠ some b) (hqb : q ≠ some b) : (outW w c b p q).cell? ⟨b, 3, none⟩ = some (ptrV none) := by
  obtain ⟨u, hu⟩ := hu
  unfold outW
  simp only []
  refine cs_same (u := u) ?_
  rw [cs_other (off (by decide))]
  cases p with
  | none =>
    cases q with
    | none => simp only []; rw [cs_other (far hbc.symm), cs_other (off (by decide))]; exact hu
    | some a => simp only []; rw [cs_other (off (by decide)), cs_other (off (by decide))]; exact hu
  | some a =>
    cases q with
    | none => simp only []; rw [cs_other (far hbc.symm), cs_other (far (fun e => hpb (by rw [e])))]; exact hu
    | some a2 => simp only []; rw [cs_other (off (by decide)), cs_other (far (fun e => hpb (by rw [e])))]; exact hu
end
/-- Two nodes of one block are one. -/
theorem blk_inj {ns : List Nd} (h : (ns.map (·.b)).Nodup) {i j : Nat} {m n : Nd} (hi : ns[i]? = some m) (hj : ns[j]? = some n) (e : m.b = n.b) : i = j := by
  obtain ⟨h1, e1⟩ := List.getElem?_eq_some_iff.1 hi
  obtain ⟨h2, e2⟩ := List.getElem?_eq_some_iff.1 hj
  have h' := List.pairwise_iff_getElem.1 h
  rcases Nat.lt_trichotomy i j with c | c | c
  · refine absurd ?_ (h' i j (by simpa using h1) (by simpa using h2) c)
    rw [List.getElem_map, List.getElem_map, e1, e2, e]
  · exact c
  · refine absurd ?_ (h' j i (by simpa using h2) (by simpa using h1) c)
    rw [List.getElem_map, List.getElem_map, e1, e2, e]
theorem pv_some {ns : List Nd} {j a : Nat} (h : pv ns j = some a) : ∃ m, 0 < j ∧ ns[j - 1]? = some m ∧ m.b = a := by
  unfold pv at h
  split at h
  · cases h
  · cases hq : ns[j - 1]? with
    | none => rw [hq] at h; cases h
    | some m => rw [hq] at h; exact ⟨m, by omega, rfl, by simpa using h⟩
theorem nx_some {ns : List Nd} {j a : Nat} (h : nx ns j = some a) : ∃ m, ns[j + 1]? = some m ∧ m.b = a := by
  unfold nx at h
  cases hq : ns[j + 1]? with
  | none => rw [hq] at h; cases h
  | some m => rw [hq] at h; exact ⟨m, rfl, by simpa using h⟩
theorem nx_none {ns : List Nd} {j : Nat} (h : nx ns j = none) : ns.length ≤ j + 1 := by
  unfold nx at h
  cases hq : ns[j + 1]? with
  | none => exact List.getElem?_eq_none_iff.1 hq
  | some m => rw [hq] at h; cases h
theorem pv_none {ns : List Nd} {j : Nat} {n : Nd} (hn : ns[j]? = some n) (h : pv ns j = none) : j = 0 := by
  unfold pv at h
  split at h
  · assumption
  · have := (List.getElem?_eq_some_iff.1 hn).1
    rw [List.getElem?_eq_getElem (by omega)] at h
    cases h
section
variable {w : World} {c i : Nat} {ns : List Nd} {n : Nd}
theorem RowAt.mem (r : RowAt w c ns) (h : ns[i]? = some n) : n.b ∈ ns.map (·.b) := List.mem_map.2 ⟨n, List.mem_of_getElem? h, rfl⟩
/-- A node taken out of the row. -/
theorem RowAt.out (r : RowAt w c ns) (h : ns[i]? = some n) : RowAt (outW w c n.b (pv ns i) (nx ns i)) c (ns.eraseIdx i) ∧ NodeAt (outW w c n.b (pv ns i) (nx ns i)) n none none ∧ Turn c (ns.map (·.b)) w (outW w c n.b (pv ns i) (nx ns i)) := by
  have hil := (List.getElem?_eq_some_iff.1 h).1
  have hnc := r.nc n (List.mem_of_getElem? h)
  have N := r.nd i n h
  have hpb : pv ns i ≠ some n.b := fun e => by
    obtain ⟨m, h0, hm, e2⟩ := pv_some e
    have := blk_inj r.dj hm h e2; omega
  have hqb : nx ns i ≠ some n.b := fun e => by
    obtain ⟨m, hm, e2⟩ := nx_some e
    have := blk_inj r.dj hm h e2; omega
  have hpc : pv ns i ≠ some c := fun e => by
    obtain ⟨m, h0, hm, e2⟩ := pv_some e
    exact r.nc m (List.mem_of_getElem? hm) e2
  have hqc : nx ns i ≠ some c := fun e => by
    obtain ⟨m, hm, e2⟩ := nx_some e
    exact r.nc m (List.mem_of_getElem? hm) e2
  have T : Turn c (ns.map (·.b)) w (outW w c n.b (pv ns i) (nx ns i)) := out_turn (r.mem h)
    (fun a e => by obtain ⟨m, h0, hm, e2⟩ := pv_some e; subst e2; exact r.mem hm) (fun a e => by obtain ⟨m, hm, e2⟩ := nx_some e; subst e2; exact r.mem hm)
  refine ⟨⟨by rw [T.size]; exact r.lc, ?_, ?_, fun o => (T.fz _).trans (r.fz o), ?_, ?_, fun m hm => r.nc m (List.mem_of_mem_eraseIdx hm)⟩, ?_, T⟩
  · -- the first
    by_cases h0 : i = 0
    · subst h0
      have hp : pv ns 0 = none := rfl
      rw [out_2_c hp hnc.symm hqc r.f]
      unfold fst nx
      rw [List.getElem?_eraseIdx, if_neg (by omega)]
    · rw [out_2_else hnc.symm hqc (fun e => absurd (pv_none h e) h0)]
      unfold fst
      rw [List.getElem?_eraseIdx, if_pos (by omega)]
      exact r.f
  · -- the last
    have hlen : (ns.eraseIdx i).length = ns.length - 1 := by rw [List.length_eraseIdx, if_pos hil]
    cases hq : nx ns i with
    | none =>
      have hl := nx_none hq
      rw [hq] at *
      rw [out_3_c rfl hnc.symm hpc r.l]
      unfold lst pv
      rw [hlen, List.getElem?_eraseIdx]
      by_cases h0 : i = 0
      · subst h0
        rw [if_pos rfl, if_neg (by omega), List.getElem?_eq_none (by omega)]; rfl
      · rw [if_neg h0, if_pos (by omega), show ns.length - 1 - 1 = i - 1 by omega]
    | some a =>
      obtain ⟨m, hm, e2⟩ := nx_some hq
      have := (List.getElem?_eq_some_iff.1 hm).1
      rw [out_3_else hnc.symm hpc (fun e => by cases e), r.l]
      unfold lst
      rw [hlen, List.getElem?_eraseIdx, if_neg (by omega), show ns.length - 1 - 1 + 1 = ns.length - 1 by omega]
  · intro j m hm
    rw [List.getElem?_eraseIdx] at hm
    by_cases hji : j < i
    · rw [if_pos hji] at hm
      have M := r.nd j m hm
      have hmn : m.b ≠ n.b := fun e => by have := blk_inj r.dj hm h e; omega
      have hmc := r.nc m (List.mem_of_getElem? hm)
      refine ⟨by rw [T.size]; exact M.lt, (T.cell _ _ (by decide) (by decide)).trans M.c0, (T.cell _ _ (by decide) (by decide)).trans M.c1, ?_, ?_, fun o => (T.fz _).trans (M.fz o)⟩
      · rw [out_2_else hmn (fun e => by obtain ⟨m2, hm2, e2⟩ := nx_some e; have := blk_inj r.dj hm2 hm e2; omega) (fun _ => hmc), M.c2]
        unfold pv
        by_cases hj : j = 0
        · rw [if_pos hj, if_pos hj]
        · rw [if_neg hj, if_neg hj, List.getElem?_eraseIdx, if_pos (by omega)]
      · by_cases hj : j + 1 = i
        · have hp : pv ns i = some m.b := by unfold pv; rw [if_neg (by omega), show i - 1 = j by omega, hm]; rfl
          rw [out_3_p hp hmn hmc M.c3]
          unfold nx
          rw [List.getElem?_eraseIdx, if_neg (by omega), show j + 1 + 1 = i + 1 by omega]
        · rw [out_3_else hmn (fun e => by obtain ⟨m2, h0, hm2, e2⟩ := pv_some e; have := blk_inj r.dj hm2 hm e2; omega) (fun _ => hmc), M.c3]
          unfold nx
          rw [List.getElem?_eraseIdx, if_pos (by omega)]
    · rw [if_neg hji] at hm
      have M := r.nd (j + 1) m hm
      have hmn : m.b ≠ n.b := fun e => by have := blk_inj r.dj hm h e; omega
      have hmc := r.nc m (List.mem_of_getElem? hm)
      refine ⟨by rw [T.size]; exact M.lt, (T.cell _ _ (by decide) (by decide)).trans M.c0, (T.cell _ _ (by decide) (by decide)).trans M.c1, ?_, ?_, fun o => (T.fz _).trans (M.fz o)⟩
      · by_cases hj : j = i
        · subst hj
          have hq : nx ns j = some m.b := by unfold nx; rw [hm]; rfl
          rw [out_2_q hq hmn hmc M.c2]
          unfold pv
          by_cases h0 : j = 0
          · rw [if_pos h0, if_pos h0]
          · rw [if_neg h0, if_neg h0, List.getElem?_eraseIdx, if_pos (by omega)]
        · rw [out_2_else hmn (fun e => by obtain ⟨m2, hm2, e2⟩ := nx_some e; have := blk_inj r.dj hm2 hm e2; omega) (fun _ => hmc), M.c2]
          unfold pv
          rw [if_neg (by omega), if_neg (by omega), List.getElem?_eraseIdx, if_neg (by omega), show j + 1 - 1 = j - 1 + 1 by omega]
      · rw [out_3_else hmn (fun e => by obtain ⟨m2, h0, hm2, e2⟩ := pv_some e; have := blk_inj r.dj hm2 hm e2; omega) (fun _ => hmc), M.c3]
        unfold nx
        rw [List.getElem?_eraseIdx, if_neg (by omega)]
  · have e : (ns.eraseIdx i).map (·.b) = (ns.map (·.b)).eraseIdx i := by rw [List.eraseIdx_eq_take_drop_succ, List.eraseIdx_eq_take_drop_succ, List.map_append, List.map_take, List.map_drop]
    rw [e]; exact r.dj.sublist (List.eraseIdx_sublist _ _)
  · exact ⟨by rw [T.size]; exact N.lt, (T.cell _ _ (by decide) (by decide)).trans N.c0, (T.cell _ _ (by decide) (by decide)).trans N.c1, out_own2 ⟨_, N.c2⟩ hnc hpb hqb, out_own3 ⟨_, N.c3⟩ hnc hpb hqb, fun o => (T.fz _).trans (N.fz o)⟩

def frontW (w : World) (c b : Nat) (f : Option Nat) : World :=
  match f with
  | none => ((w.setCell ⟨b, 3, none⟩ (ptrV none)).setCell ⟨c, 2, none⟩ (ptrV (some b))).setCell ⟨c, 3, none⟩ (ptrV (some b))
  | some q => ((w.setCell ⟨b, 3, none⟩ (ptrV (some q))).setCell ⟨q, 2, none⟩ (ptrV (some b))).setCell ⟨c, 2, none⟩ (ptrV (some b))
/-- A node put first. -/
theorem RowAt.front (r : RowAt w c ns) {x : Option Nat} (N : NodeAt w n none x) (hn : ∀ m ∈ ns, m.b ≠ n.b) (hnc : n.b ≠ c) : RowAt (frontW w c n.b (fst ns)) c (n :: ns) ∧ Turn c (n.b :: ns.map (·.b)) w (frontW w c n.b (fst ns)) := by
  have dj : ((n :: ns).map (·.b)).Nodup := by
    simp only [List.map_cons, List.nodup_cons]
    exact ⟨fun h => by obtain ⟨m, hm, e⟩ := List.mem_map.1 h; exact hn m hm e, r.dj⟩
  have nc : ∀ m ∈ n :: ns, m.b ≠ c := fun m hm => by
    rcases List.mem_cons.1 hm with e | e
    · subst e; exact hnc
    · exact r.nc m e
  cases ns with
  | nil =>
    have T : Turn c (n.b :: ([] : List Nd).map (·.b)) w (frontW w c n.b (fst [])) :=
      (((Turn.refl _ _ _).set _ _ _ (.inr rfl) (.inr (List.mem_cons_self ..))).set _ _ _ (.inl rfl) (.inl rfl)).set _ _ _ (.inr rfl) (.inl rfl)
    refine ⟨⟨by rw [T.size]; exact r.lc, ?_, ?_, fun o => (T.fz _).trans (r.fz o), ?_, dj, nc⟩, T⟩
    · show (World.setCell _ _ _).cell? _ = _
      rw [cs_other (off (by decide))]
      exact cs_same (u := _) (by rw [cs_other (far hnc)]; exact r.f)
    · show (World.setCell _ _ _).cell? _ = _
      exact cs_same (u := _) (by rw [cs_other (off (by decide)), cs_other (far hnc)]; exact r.l)
    · intro j m hm
      cases j with
      | succ j => simp at hm
      | zero =>
        simp at hm; subst hm
        refine ⟨by rw [T.size]; exact N.lt, (T.cell _ _ (by decide) (by decide)).trans N.c0, (T.cell _ _ (by decide) (by decide)).trans N.c1, ?_, ?_, fun o => (T.fz _).trans (N.fz o)⟩
        · show (World.setCell _ _ _).cell? _ = _
          rw [cs_other (off (by decide)), cs_other (far hnc.symm), cs_other (off (by decide))]
          exact N.c2
        · show (World.setCell _ _ _).cell? _ = _
          rw [cs_other (far hnc.symm), cs_other (far hnc.symm)]
          exact cs_same N.c3
  | cons m0 ns =>
    have h0 : m0.b ≠ n.b := hn m0 (List.mem_cons_self ..)
    have h0c : m0.b ≠ c := r.nc m0 (List.mem_cons_self ..)
    have M0 := r.nd 0 m0 rfl
    have T : Turn c (n.b :: (m0 :: ns).map (·.b)) w (frontW w c n.b (fst (m0 :: ns))) :=
      (((Turn.refl _ _ _).set _ _ _ (.inr rfl) (.inr (List.mem_cons_self ..))).set _ _ _ (.inl rfl) (.inr (by simp))).set _ _ _ (.inl rfl) (.inl rfl)
    refine ⟨⟨by rw [T.size]; exact r.lc, ?_, ?_, fun o => (T.fz _).trans (r.fz o), ?_, dj, nc⟩, T⟩
    · show (World.setCell _ _ _).cell? _ = _
      exact cs_same (u := _) (by rw [cs_other (far h0c), cs_other (far hnc)]; exact r.f)
    · show (World.setCell _ _ _).cell? _ = _
      rw [cs_other (off (by decide)), cs_other (off (by decide)), cs_other (far hnc), r.l]
      unfold lst
      simp
    · intro j m hm
      cases j with
      | zero =>
        simp at hm; subst hm
        refine ⟨by rw [T.size]; exact N.lt, (T.cell _ _ (by decide) (by decide)).trans N.c0, (T.cell _ _ (by decide) (by decide)).trans N.c1, ?_, ?_, fun o => (T.fz _).trans (N.fz o)⟩
        · show (World.setCell _ _ _).cell? _ = _
          rw [cs_other (far hnc.symm), cs_other (far h0), cs_other (off (by decide))]
          exact N.c2
        · show (World.setCell _ _ _).cell? _ = _
          rw [cs_other (off (by decide)), cs_other (off (by decide))]
          exact cs_same N.c3
      | succ j =>
        have hm' : (m0 :: ns)[j]? = some m := by simpa using hm
        have M := r.nd j m hm'
        have hmn : m.b ≠ n.b := hn m (List.mem_of_getElem? hm')
        have hmc : m.b ≠ c := r.nc m (List.mem_of_getElem? hm')
        refine ⟨by rw [T.size]; exact M.lt, (T.cell _ _ (by decide) (by decide)).trans M.c0, (T.cell _ _ (by decide) (by decide)).trans M.c1, ?_, ?_, fun o => (T.fz _).trans (M.fz o)⟩
        · show (World.setCell _ _ _).cell? _ = _
          rw [cs_other (far hmc.symm)]
          by_cases hj : j = 0
          · subst hj
            simp at hm'; subst hm'
            rw [cs_same (u := _) (by rw [cs_other (off (by decide))]; exact M.c2)]
            unfold pv; simp
          · have hne : m0.b ≠ m.b := fun e => by have := blk_inj r.dj (i := 0) (j := j) rfl hm' e; omega
            rw [cs_other (far hne), cs_other (off (by decide)), M.c2]
            unfold pv
            rw [if_neg hj, if_neg (by omega)]
            obtain ⟨j', rfl⟩ : ∃ j', j = j' + 1 := ⟨j - 1, by omega⟩
            simp
        · show (World.setCell _ _ _).cell? _ = _
          rw [cs_other (off (by decide)), cs_other (off (by decide)), cs_other (far hmn.symm), M.c3]
          unfold nx
          simp
end
end Go.Cch
