/- A cache in memory, and what its calls do, in plain words. No program in sight. No condition. -/
import Derived.Test.YticgpiipikneiaaCb
set_option linter.unusedSimpArgs false
set_option linter.unusedVariables false
namespace Go.Cch
open Go.RowKit Go.Mor Go.Maps Go.WideShapes

/-! ### what the calls do, on a list of keys and things -/
abbrev KV := Lit × Int
def kv (ns : List Nd) : List KV := ns.map fun n => (n.k, n.v)
def posL : List KV → Lit → Nat
  | [], _ => 0
  | x :: r, k => if x.1.sameKey k then 0 else posL r k + 1
theorem posL_kv (k : Lit) : ∀ ns, posL (kv ns) k = pos ns k
  | [] => rfl
  | n :: r => by
    show (if n.k.sameKey k then 0 else posL (kv r) k + 1) = _
    unfold pos
    rw [posL_kv k r]
theorem kv_len (ns : List Nd) : (kv ns).length = ns.length := by simp [kv]
theorem kv_get (ns : List Nd) (i : Nat) : (kv ns)[i]? = (ns[i]?).map fun n => (n.k, n.v) := by simp [kv]
theorem kv_erase (ns : List Nd) (i : Nat) : kv (ns.eraseIdx i) = (kv ns).eraseIdx i := by
  unfold kv
  rw [List.eraseIdx_eq_take_drop_succ, List.eraseIdx_eq_take_drop_succ, List.map_append, List.map_take, List.map_drop]
/-- Is the key there? -/
def hasL (l : List KV) (k : Lit) : Bool := decide (posL l k < l.length)
def getV (l : List KV) (k : Lit) : Int := match l[posL l k]? with | some x => x.2 | none => 0
def getL (l : List KV) (k : Lit) : List KV := match l[posL l k]? with | some x => x :: l.eraseIdx (posL l k) | none => l
def dropL (l : List KV) (k : Lit) : List KV := l.eraseIdx (posL l k)
def putL (l : List KV) (room : Nat) (k : Lit) (v : Int) : List KV :=
  match l[posL l k]? with
  | some _ => (k, v) :: l.eraseIdx (posL l k)
  | none => if l.length = room then (k, v) :: l.eraseIdx (l.length - 1) else (k, v) :: l
/-- The key that has to go. -/
def putG (l : List KV) (room : Nat) (k : Lit) : Option Lit :=
  match l[posL l k]? with
  | some _ => none
  | none => if l.length = room then (l[l.length - 1]?).map (·.1) else none
def putT (l : List KV) (room : Nat) (k : Lit) : Bool :=
  match l[posL l k]? with
  | some _ => false
  | none => decide (l.length = room)

/-! ### what has turned -/
def own (c mb : Nat) (ns : List Nd) : List Nat := c :: mb :: ns.map (·.b)
structure Fr (l : List Nat) (w w' : World) : Prop where
  os : w'.os = w.os
  tape : w'.tape = w.tape
  output : w'.output = w.output
  size : w.heap.size ≤ w'.heap.size
  block : ∀ k, k < w.heap.size → k ∉ l → w'.heap[k]? = w.heap[k]?
theorem Fr.refl (l : List Nat) (w : World) : Fr l w w := ⟨rfl, rfl, rfl, Nat.le_refl _, fun _ _ _ => rfl⟩
theorem Fr.mono {l l' : List Nat} {w w' : World} (h : Fr l w w') (hl : ∀ k ∈ l, k ∈ l') : Fr l' w w' := ⟨h.os, h.tape, h.output, h.size, fun k h1 h2 => h.block k h1 (fun e => h2 (hl k e))⟩
theorem Fr.trans {l l' : List Nat} {a b d : World} (x : Fr l a b) (y : Fr l' b d) (hl : ∀ k ∈ l', k ∈ l ∨ a.heap.size ≤ k) : Fr l a d :=
  ⟨y.os.trans x.os, y.tape.trans x.tape, y.output.trans x.output, Nat.le_trans x.size y.size, fun k h1 h2 => (y.block k (Nat.lt_of_lt_of_le h1 x.size) (fun e => (hl k e).elim h2 (fun h => by omega))).trans (x.block k h1 h2)⟩
theorem Fr.drewN {l : List Nat} {a b : World} (x : Fr l a b) (n : Nat) : Fr l a (b.drewN n) := ⟨x.os, x.tape, x.output, x.size, x.block⟩
theorem Fr.below {l : List Nat} {w w' : World} (h : Fr l w w') {B : Nat} (hB : B ≤ w.heap.size) (hl : ∀ k ∈ l, B ≤ k) : Below B w w' :=
  ⟨h.os, h.tape, h.output, h.size, fun k hk => h.block k (Nat.lt_of_lt_of_le hk hB) (fun e => by have := hl k e; omega)⟩
theorem Fr.of_below {w w' : World} (h : Below w.heap.size w w') (l : List Nat) : Fr l w w' := ⟨h.os, h.tape, h.output, h.size, fun k hk _ => h.block k hk⟩
theorem Fr.of_turn {c : Nat} {bs : List Nat} {w w' : World} (h : Turn c bs w w') {l : List Nat} (hc : c ∈ l) (hb : ∀ k ∈ bs, k ∈ l) : Fr l w w' :=
  ⟨h.os, h.tape, h.output, by rw [h.size]; exact Nat.le_refl _, fun k _ h2 => h.block k (fun e => h2 (by rw [e]; exact hc)) (fun e => h2 (hb k e))⟩
theorem Fr.of_map {w w' : World} {mb : Nat} (h : w.mapTurned w' mb) {l : List Nat} (hm : mb ∈ l) : Fr l w w' := by
  have g := h.grown
  exact ⟨g.os, g.tape, g.output, g.size, fun k h1 h2 => g.block k h1 (fun e => h2 (by injection e with e; rw [e]; exact hm))⟩
theorem Fr.of_set {w : World} {p : Addr} {v : Value} {l : List Nat} (hp : p.block ∈ l) : Fr l w (w.setCell p v) :=
  ⟨rfl, rfl, rfl, by rw [sz_set]; exact Nat.le_refl _, fun k _ h2 => bl_set (fun e => h2 (by rw [e]; exact hp))⟩
structure Stp (c mb : Nat) (ns ns' : List Nd) (w w' : World) : Prop where
  fr : Fr (own c mb ns) w w'
  nw : ∀ n ∈ ns', n.b ∈ ns.map (·.b) ∨ w.heap.size ≤ n.b
section
variable {c mb : Nat} {ns ns' ns'' : List Nd} {a b d w w' : World}
theorem own_c : c ∈ own c mb ns := List.mem_cons_self ..
theorem own_m : mb ∈ own c mb ns := List.mem_cons_of_mem _ (List.mem_cons_self ..)
theorem own_n {k : Nat} (h : k ∈ ns.map (·.b)) : k ∈ own c mb ns := List.mem_cons_of_mem _ (List.mem_cons_of_mem _ h)
theorem Stp.refl : Stp c mb ns ns w w := ⟨Fr.refl _ _, fun n hn => .inl (List.mem_map.2 ⟨n, hn, rfl⟩)⟩
theorem Stp.trans (x : Stp c mb ns ns' a b) (y : Stp c mb ns' ns'' b d) : Stp c mb ns ns'' a d := by
  have h1 : ∀ k ∈ ns'.map (·.b), k ∈ ns.map (·.b) ∨ a.heap.size ≤ k := fun k hk => by obtain ⟨n, hn, e⟩ := List.mem_map.1 hk; subst e; exact x.nw n hn
  refine ⟨x.fr.trans y.fr fun k hk => ?_, fun n hn => ?_⟩
  · rcases List.mem_cons.1 hk with e | hk
    · exact .inl (e ▸ own_c)
    · rcases List.mem_cons.1 hk with e | hk
      · exact .inl (e ▸ own_m)
      · exact (h1 k hk).imp own_n id
  · rcases y.nw n hn with h | h
    · exact h1 _ h
    · exact .inr (Nat.le_trans x.fr.size h)
theorem Stp.drewN (x : Stp c mb ns ns' a b) (n : Nat) : Stp c mb ns ns' a (b.drewN n) := ⟨x.fr.drewN n, x.nw⟩
/-- A block that was there, and is none of the cache's, is so still. -/
theorem Stp.apart (x : Stp c mb ns ns' w w') {g : Nat} (h : g < w.heap.size) (hg : g ∉ own c mb ns) : g ∉ own c mb ns' := fun e => by
  rcases List.mem_cons.1 e with e | e
  · exact hg (e ▸ own_c)
  · rcases List.mem_cons.1 e with e | e
    · exact hg (e ▸ own_m)
    · obtain ⟨n, hn, rfl⟩ := List.mem_map.1 e
      rcases x.nw n hn with h1 | h1
      · exact hg (own_n h1)
      · omega
end

/-! ### the cache -/
structure CacheAt (P : Program) (kT : TypeId) (Kd : Lit → Prop) (w : World) (c mb : Nat) (ns : List Nd) (room met miss : Nat) : Prop where
  row : RowAt w c ns
  map : MapAt P kT w mb ns
  ok : KeysOk ns
  kd : ∀ n ∈ ns, Kd n.k
  r : w.cell? ⟨c, 0, none⟩ = some (.int .i64 room)
  a : w.cell? ⟨c, 1, none⟩ = some (.map (some mb))
  m : w.cell? ⟨c, 4, none⟩ = some (.int .i64 met)
  s : w.cell? ⟨c, 5, none⟩ = some (.int .i64 miss)
  cm : c ≠ mb
  nm : ∀ n ∈ ns, n.b ≠ mb
  le : ns.length ≤ room
  hi : room ≤ 4096
  lo : 0 < room
section
variable {P : Program} {kT : TypeId} {Kd : Lit → Prop} {w w' : World} {c mb room met miss : Nat} {ns : List Nd}
theorem RowAt.same (r : RowAt w c ns) (hc : w'.heap[c]? = w.heap[c]?) (hs : w.heap.size ≤ w'.heap.size) (hb : ∀ n ∈ ns, w'.heap[n.b]? = w.heap[n.b]?) : RowAt w' c ns :=
  ⟨Nat.lt_of_lt_of_le r.lc hs, (World.cell?_of_block (w := w) hc).trans r.f, (World.cell?_of_block (w := w) hc).trans r.l, fun o => (World.frozen?_of_block (w := w) hc).trans (r.fz o),
   fun j n h => by
    have N := r.nd j n h
    have e := hb n (List.mem_of_getElem? h)
    exact ⟨Nat.lt_of_lt_of_le N.lt hs, (World.cell?_of_block (w := w) e).trans N.c0, (World.cell?_of_block (w := w) e).trans N.c1, (World.cell?_of_block (w := w) e).trans N.c2, (World.cell?_of_block (w := w) e).trans N.c3, fun o => (World.frozen?_of_block (w := w) e).trans (N.fz o)⟩,
   r.dj, r.nc⟩
theorem NodeAt.same {n : Nd} {p q : Option Nat} (N : NodeAt w n p q) (e : w'.heap[n.b]? = w.heap[n.b]?) (hs : w.heap.size ≤ w'.heap.size) : NodeAt w' n p q :=
  ⟨Nat.lt_of_lt_of_le N.lt hs, (World.cell?_of_block (w := w) e).trans N.c0, (World.cell?_of_block (w := w) e).trans N.c1, (World.cell?_of_block (w := w) e).trans N.c2, (World.cell?_of_block (w := w) e).trans N.c3, fun o => (World.frozen?_of_block (w := w) e).trans (N.fz o)⟩
/-- Its blocks are as they were. -/
theorem CacheAt.same (C : CacheAt P kT Kd w c mb ns room met miss) (hs : w.heap.size ≤ w'.heap.size) (h : ∀ k ∈ own c mb ns, w'.heap[k]? = w.heap[k]?) : CacheAt P kT Kd w' c mb ns room met miss :=
  ⟨C.row.same (h c own_c) hs (fun n hn => h _ (own_n (List.mem_map.2 ⟨n, hn, rfl⟩))), C.map.of_block (h mb own_m), C.ok, C.kd,
   (World.cell?_of_block (w := w) (h c own_c)).trans C.r, (World.cell?_of_block (w := w) (h c own_c)).trans C.a, (World.cell?_of_block (w := w) (h c own_c)).trans C.m, (World.cell?_of_block (w := w) (h c own_c)).trans C.s, C.cm, C.nm, C.le, C.hi, C.lo⟩
theorem CacheAt.lt (C : CacheAt P kT Kd w c mb ns room met miss) : ∀ k ∈ own c mb ns, k < w.heap.size := fun k hk => by
  rcases List.mem_cons.1 hk with e | hk
  · exact e ▸ C.row.lc
  · rcases List.mem_cons.1 hk with e | hk
    · exact e ▸ C.map.lt
    · obtain ⟨n, hn, rfl⟩ := List.mem_map.1 hk
      obtain ⟨j, hj⟩ := List.mem_iff_getElem?.1 hn
      exact (C.row.nd j n hj).lt
theorem CacheAt.keep (C : CacheAt P kT Kd w c mb ns room met miss) (h : Below w.heap.size w w') : CacheAt P kT Kd w' c mb ns room met miss :=
  C.same h.size fun k hk => h.block k (C.lt k hk)
theorem CacheAt.drewN (C : CacheAt P kT Kd w c mb ns room met miss) (n : Nat) : CacheAt P kT Kd (w.drewN n) c mb ns room met miss := C.keep ⟨rfl, rfl, rfl, Nat.le_refl _, fun _ _ => rfl⟩
/-- The links alone have turned. -/
theorem CacheAt.turn (C : CacheAt P kT Kd w c mb ns room met miss) {bs : List Nat} (T : Turn c bs w w') (hb : ∀ k ∈ bs, k ≠ mb) {ns' : List Nd} (R : RowAt w' c ns') (M : MapAt P kT w' mb ns') (O : KeysOk ns') (K : ∀ n ∈ ns', Kd n.k) (nm : ∀ n ∈ ns', n.b ≠ mb) (le : ns'.length ≤ room) : CacheAt P kT Kd w' c mb ns' room met miss :=
  ⟨R, M, O, K, (T.cell _ _ (by decide) (by decide)).trans C.r, (T.cell _ _ (by decide) (by decide)).trans C.a, (T.cell _ _ (by decide) (by decide)).trans C.m, (T.cell _ _ (by decide) (by decide)).trans C.s, C.cm, nm, le, C.hi, C.lo⟩
theorem Turn.map_block {bs : List Nat} (T : Turn c bs w w') (h1 : mb ≠ c) (h2 : mb ∉ bs) : w'.heap[mb]? = w.heap[mb]? := T.block mb h1 h2
theorem CacheAt.nmb (C : CacheAt P kT Kd w c mb ns room met miss) : mb ∉ ns.map (·.b) := fun h => by
  obtain ⟨n, hn, e⟩ := List.mem_map.1 h
  exact C.nm n hn e
end
/-- The same entries, in another order. -/
theorem MapAt.perm {P : Program} {kT : TypeId} {w : World} {mb : Nat} {ns ns' : List Nd} (h : MapAt P kT w mb ns) (hl : ns'.length = ns.length) (hf : ∀ k, WideAt.IsKeyLit k → fnd ns' k = fnd ns k) : MapAt P kT w mb ns' := by
  obtain ⟨D, h1, h2, h3⟩ := h
  exact ⟨D, by rw [hl]; exact h1, by rw [hl]; exact h2, fun k hk z => by rw [hf k hk]; exact h3 k hk z⟩
/-- A node ahead of the others. -/
theorem fnd_use {ns : List Nd} (ok : KeysOk ns) {i : Nat} {n : Nd} (h : ns[i]? = some n) (v : Int) (k : Lit) (hk : WideAt.IsKeyLit k) : fnd (⟨n.k, v, n.b⟩ :: ns.eraseIdx i) k = fnd ns k := by
  show (if n.k.sameKey k then some n.b else fnd (ns.eraseIdx i) k) = _
  by_cases c : n.k.sameKey k = true
  · rw [if_pos c, ← WideAt.sameKey_eq c, (fnd_get ok h).1]
  · rw [if_neg c, fnd_erase ok h k hk, if_neg c]
theorem KeysOk.use {ns : List Nd} (ok : KeysOk ns) {i : Nat} {n : Nd} (h : ns[i]? = some n) (v : Int) : KeysOk (⟨n.k, v, n.b⟩ :: ns.eraseIdx i) :=
  (ok.erase i).cons (n := ⟨n.k, v, n.b⟩) (ok.key n (List.mem_of_getElem? h)) (fun m hm => erase_ne ok h m hm)
theorem erase_ne_b {ns : List Nd} (dj : (ns.map (·.b)).Nodup) {i : Nat} {n : Nd} (h : ns[i]? = some n) : ∀ m ∈ ns.eraseIdx i, m.b ≠ n.b := by
  intro m hm e
  obtain ⟨j, hj⟩ := List.mem_iff_getElem?.1 hm
  rw [List.getElem?_eraseIdx] at hj
  split at hj
  · have := blk_inj dj hj h e; omega
  · have := blk_inj dj hj h e; omega
theorem erase_len {α : Type} {l : List α} {i : Nat} (h : i < l.length) : (l.eraseIdx i).length + 1 = l.length := by
  rw [List.length_eraseIdx, if_pos h]; omega
/-- A node's thing is another one. -/
theorem map_set_b (ns : List Nd) (i : Nat) {n : Nd} (h : ns[i]? = some n) (v : Int) : (ns.set i ⟨n.k, v, n.b⟩).map (·.b) = ns.map (·.b) := by
  obtain ⟨hi, e⟩ := List.getElem?_eq_some_iff.1 h
  rw [List.map_set]
  apply List.ext_getElem?
  intro j
  rw [List.getElem?_set]
  by_cases hj : i = j
  · subst hj; rw [if_pos rfl, if_pos (by simpa using hi)]; simp [h]
  · rw [if_neg hj]
theorem RowAt.setV {w : World} {c i : Nat} {ns : List Nd} {n : Nd} (r : RowAt w c ns) (h : ns[i]? = some n) (v : Int) : RowAt (w.setCell ⟨n.b, 1, none⟩ (.int .i64 v)) c (ns.set i ⟨n.k, v, n.b⟩) := by
  have hil := (List.getElem?_eq_some_iff.1 h).1
  have hnc := r.nc n (List.mem_of_getElem? h)
  have hb : ∀ j : Nat, ((ns.set i ⟨n.k, v, n.b⟩)[j]?).map (·.b) = (ns[j]?).map (·.b) := fun j => by
    have e := congrArg (·[j]?) (map_set_b ns i h v)
    rw [← List.getElem?_map, ← List.getElem?_map]
    exact e
  have hp : ∀ j, pv (ns.set i ⟨n.k, v, n.b⟩) j = pv ns j := fun j => by unfold pv; rw [hb]
  have hn : ∀ j, nx (ns.set i ⟨n.k, v, n.b⟩) j = nx ns j := fun j => by unfold nx; rw [hb]
  refine ⟨by rw [sz_set]; exact r.lc, ?_, ?_, fun o => fz_set.trans (r.fz o), ?_, by rw [map_set_b ns i h]; exact r.dj, ?_⟩
  · rw [cs_other (far hnc)]; unfold fst; rw [hb]; exact r.f
  · rw [cs_other (far hnc)]; unfold lst; rw [hb, List.length_set]; exact r.l
  · intro j m hm
    rw [hp, hn]
    rw [List.getElem?_set] at hm
    by_cases hj : i = j
    · subst hj
      rw [if_pos rfl, if_pos hil] at hm
      injection hm with hm
      subst hm
      have N := r.nd i n h
      exact ⟨by rw [sz_set]; exact N.lt, (cs_other (off (by decide))).trans N.c0, cs_same N.c1, (cs_other (off (by decide))).trans N.c2, (cs_other (off (by decide))).trans N.c3, fun o => fz_set.trans (N.fz o)⟩
    · rw [if_neg hj] at hm
      have N := r.nd j m hm
      have hne : n.b ≠ m.b := fun e => hj (blk_inj r.dj h hm e)
      exact ⟨by rw [sz_set]; exact N.lt, (cs_other (far hne)).trans N.c0, (cs_other (far hne)).trans N.c1, (cs_other (far hne)).trans N.c2, (cs_other (far hne)).trans N.c3, fun o => fz_set.trans (N.fz o)⟩
  · intro m hm
    have : m.b ∈ (ns.set i ⟨n.k, v, n.b⟩).map (·.b) := List.mem_map.2 ⟨m, hm, rfl⟩
    rw [map_set_b ns i h] at this
    obtain ⟨m', hm', e⟩ := List.mem_map.1 this
    rw [← e]; exact r.nc m' hm'
theorem set_erase {α : Type} (l : List α) (i : Nat) (x : α) : (l.set i x).eraseIdx i = l.eraseIdx i := by
  rw [List.eraseIdx_set_eq]
end Go.Cch
