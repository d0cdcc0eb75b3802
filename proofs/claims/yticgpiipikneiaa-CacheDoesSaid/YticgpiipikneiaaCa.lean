/- Nodes, what a map of them is, in plain words. No condition. -/
import Derived.Test.YticgpiipikneiaaBase
import Derived.Maps.OwnSet
set_option linter.unusedSimpArgs false
set_option linter.unusedVariables false
namespace Go.Cch
open Go.RowKit Go.Mor Go.Maps Go.WideShapes

/-- A node: its key, its thing, its block. -/
structure Nd where
  k : Lit
  v : Int
  b : Nat
/-- The block of a key's node. -/
def fnd : List Nd → Lit → Option Nat
  | [], _ => none
  | n :: r, k => if n.k.sameKey k then some n.b else fnd r k
/-- The place of a key's node; how many there are, if there is none. -/
def pos : List Nd → Lit → Nat
  | [], _ => 0
  | n :: r, k => if n.k.sameKey k then 0 else pos r k + 1
/-- Each key is one, and none is there twice. -/
structure KeysOk (ns : List Nd) : Prop where
  key : ∀ n ∈ ns, WideAt.IsKeyLit n.k
  one : (ns.map (·.k)).Nodup
theorem pos_le (k : Lit) : ∀ ns, pos ns k ≤ ns.length
  | [] => Nat.le_refl _
  | n :: r => by unfold pos; split; · simp
                 · have := pos_le k r; simp; omega
theorem pos_get {k : Lit} : ∀ {ns : List Nd}, pos ns k < ns.length → ∃ n, ns[pos ns k]? = some n ∧ n.k = k ∧ fnd ns k = some n.b
  | [], h => by simp [pos] at h
  | n :: r, h => by
    unfold pos at h ⊢; unfold fnd
    by_cases c : n.k.sameKey k = true
    · rw [if_pos c, if_pos c]; exact ⟨n, rfl, WideAt.sameKey_eq c, rfl⟩
    · rw [if_neg c] at h ⊢; rw [if_neg c]
      obtain ⟨m, h1, h2, h3⟩ := pos_get (ns := r) (k := k) (by simpa using h)
      exact ⟨m, by simpa using h1, h2, h3⟩
theorem pos_none {k : Lit} : ∀ {ns : List Nd}, pos ns k = ns.length → fnd ns k = none
  | [], _ => rfl
  | n :: r, h => by
    unfold pos at h; unfold fnd
    by_cases c : n.k.sameKey k = true
    · rw [if_pos c] at h; simp at h
    · rw [if_neg c] at h; rw [if_neg c]; exact pos_none (by simpa using h)
theorem fnd_none_pos {k : Lit} {ns : List Nd} (h : fnd ns k = none) : pos ns k = ns.length := by
  have hl := pos_le k ns
  rcases Nat.lt_or_ge (pos ns k) ns.length with c | c
  · obtain ⟨n, _, _, e⟩ := pos_get c
    rw [e] at h; cases h
  · omega
theorem fnd_none_ne {k : Lit} (hk : WideAt.IsKeyLit k) : ∀ {ns : List Nd}, fnd ns k = none → ∀ n ∈ ns, n.k ≠ k
  | [], _, n, h => by cases h
  | m :: r, h, n, hn => by
    unfold fnd at h
    by_cases c : m.k.sameKey k = true
    · rw [if_pos c] at h; cases h
    · rw [if_neg c] at h
      rcases List.mem_cons.1 hn with e | e
      · subst e; intro e2; subst e2; exact c (WideAt.sameKey_self hk)
      · exact fnd_none_ne hk h n e
theorem fnd_of_ne {k : Lit} : ∀ {ns : List Nd}, (∀ n ∈ ns, n.k ≠ k) → fnd ns k = none
  | [], _ => rfl
  | m :: r, h => by
    unfold fnd
    rw [if_neg (by rw [sameKey_ne (h m (List.mem_cons_self ..))]; simp)]
    exact fnd_of_ne fun n hn => h n (List.mem_cons_of_mem _ hn)
theorem fnd_get {ns : List Nd} (ok : KeysOk ns) {i : Nat} {n : Nd} (h : ns[i]? = some n) : fnd ns n.k = some n.b ∧ pos ns n.k = i := by
  induction ns generalizing i with
  | nil => simp at h
  | cons m r ih =>
    have ok' : KeysOk r := ⟨fun x hx => ok.key x (List.mem_cons_of_mem _ hx), by have := ok.one; simp at this; exact this.2⟩
    unfold fnd pos
    cases i with
    | zero =>
      simp at h; subst h
      rw [if_pos (WideAt.sameKey_self (ok.key m (List.mem_cons_self ..)))]
      rw [if_pos (WideAt.sameKey_self (ok.key m (List.mem_cons_self ..)))]
      exact ⟨rfl, rfl⟩
    | succ i =>
      have hr : r[i]? = some n := by simpa using h
      have hne : m.k ≠ n.k := by
        have := ok.one
        simp only [List.map_cons, List.nodup_cons] at this
        intro e
        exact this.1 (by rw [e]; exact List.mem_map.2 ⟨n, List.mem_of_getElem? hr, rfl⟩)
      rw [if_neg (by rw [sameKey_ne hne]; simp), if_neg (by rw [sameKey_ne hne]; simp)]
      obtain ⟨e1, e2⟩ := ih ok' hr
      exact ⟨e1, by rw [e2]⟩
theorem KeysOk.erase {ns : List Nd} (ok : KeysOk ns) (i : Nat) : KeysOk (ns.eraseIdx i) :=
  ⟨fun n hn => ok.key n (List.mem_of_mem_eraseIdx hn), by
    have e : (ns.eraseIdx i).map (·.k) = (ns.map (·.k)).eraseIdx i := by rw [List.eraseIdx_eq_take_drop_succ, List.eraseIdx_eq_take_drop_succ, List.map_append, List.map_take, List.map_drop]
    rw [e]; exact ok.one.sublist (List.eraseIdx_sublist _ _)⟩
theorem KeysOk.cons {ns : List Nd} (ok : KeysOk ns) {n : Nd} (hk : WideAt.IsKeyLit n.k) (hne : ∀ m ∈ ns, m.k ≠ n.k) : KeysOk (n :: ns) :=
  ⟨fun m hm => by rcases List.mem_cons.1 hm with e | e; · subst e; exact hk
                  · exact ok.key m e, by
    simp only [List.map_cons, List.nodup_cons]
    exact ⟨fun h => by obtain ⟨m, hm, e⟩ := List.mem_map.1 h; exact hne m hm e, ok.one⟩⟩
theorem erase_ne {ns : List Nd} (ok : KeysOk ns) {i : Nat} {n : Nd} (h : ns[i]? = some n) : ∀ m ∈ ns.eraseIdx i, m.k ≠ n.k := by
  intro m hm e
  obtain ⟨j, hj⟩ := List.mem_iff_getElem?.1 hm
  rw [List.getElem?_eraseIdx] at hj
  have hpn := (fnd_get ok h).2
  split at hj
  · have := (fnd_get ok hj).2; rw [e] at this; omega
  · have := (fnd_get ok hj).2; rw [e] at this; omega
theorem fnd_erase {ns : List Nd} (ok : KeysOk ns) {i : Nat} {n : Nd} (h : ns[i]? = some n) (k : Lit) (hk : WideAt.IsKeyLit k) : fnd (ns.eraseIdx i) k = if n.k.sameKey k then none else fnd ns k := by
  by_cases c : n.k.sameKey k = true
  · rw [if_pos c]
    have e := WideAt.sameKey_eq c
    subst e
    exact fnd_of_ne (erase_ne ok h)
  · rw [if_neg c]
    have ok' := ok.erase i
    cases hf : fnd ns k with
    | none =>
      have := fnd_none_ne hk hf
      exact fnd_of_ne fun m hm => this m (List.mem_of_mem_eraseIdx hm)
    | some b =>
      have hp : pos ns k < ns.length := by
        have := pos_le k ns
        rcases Nat.lt_or_ge (pos ns k) ns.length with c2 | c2
        · exact c2
        · rw [pos_none (by omega)] at hf; cases hf
      obtain ⟨m, hm, hmk, hmf⟩ := pos_get hp
      rw [hf] at hmf
      injection hmf with hmf
      have hpi : pos ns k ≠ i := by
        intro e
        rw [e, h] at hm
        injection hm with hm
        subst hm
        rw [hmk] at c
        exact c (WideAt.sameKey_self hk)
      have hm' : (ns.eraseIdx i)[if pos ns k < i then pos ns k else pos ns k - 1]? = some m := by
        rw [List.getElem?_eraseIdx]
        by_cases c3 : pos ns k < i
        · rw [if_pos c3, if_pos c3]; exact hm
        · rw [if_neg c3, if_neg (by omega)]
          rw [show pos ns k - 1 + 1 = pos ns k by omega]; exact hm
      have := (fnd_get ok' hm').1
      rw [hmk] at this
      rw [this, hmf]

/-! ### a map from keys to nodes -/
def ptrV : Option Nat → Value
  | none => .pointer none
  | some b => .pointer (some ⟨b, 0, none⟩)
def ptrD : Option Nat → DataW Nat
  | none => .nil
  | some b => .held b
/-- How a node's pointer reads. -/
def ptrR : Value → Option (DataW Nat × List MemPlace)
  | .pointer none => some (.nil, [])
  | .pointer (some ⟨b, 0, none⟩) => some (.held b, [])
  | _ => none
theorem ptrR_mk (o : Option Nat) : ptrR (ptrV o) = some (ptrD o, []) := by cases o <;> rfl
theorem ptrR_inv {v : Value} {o : Option Nat} {ps : List MemPlace} (h : ptrR v = some (ptrD o, ps)) : v = ptrV o := by
  unfold ptrR at h
  split at h
  · cases o <;> simp [ptrD] at h ⊢; rfl
  · cases o <;> simp [ptrD] at h ⊢
    obtain ⟨rfl, _⟩ := h; rfl
  · cases h
variable {P : Program} {kT eT mT : TypeId}
def MapAt (P : Program) (kT : TypeId) (w : World) (mb : Nat) (ns : List Nd) : Prop :=
  ∃ D : DataW Nat, w.ownsMap P kT ptrR mb ns.length D ∧ Maps.size D = ns.length ∧ ∀ k, WideAt.IsKeyLit k → ∀ z, D.atKey k z = match fnd ns k with | none => z | some b => .held b
theorem MapAt.lt {w : World} {mb : Nat} {ns : List Nd} (h : MapAt P kT w mb ns) : mb < w.heap.size := by
  obtain ⟨D, h, _⟩ := h; exact h.lt
/-- The map asks for its own block alone. -/
theorem MapAt.of_block {w w' : World} {mb : Nat} {ns : List Nd} (h : MapAt P kT w mb ns) (hb : w'.heap[mb]? = w.heap[mb]?) : MapAt P kT w' mb ns := by
  obtain ⟨D, ⟨es, clock, h1, r⟩, h2⟩ := h
  exact ⟨D, ⟨es, clock, hb.trans h1, r⟩, h2⟩
theorem map_made (w : World) : MapAt P kT (w.alloc (.map #[] 0)) w.heap.size [] :=
  ⟨.map [], World.ownsMap_made w P kT ptrR, rfl, fun k _ z => rfl⟩
theorem map_look {w : World} {mb : Nat} {ns : List Nd} (h : MapAt P kT w mb ns) (K : Keyed P kT) (ht : P.underlying mT = some (.map kT eT)) (hz : (zeroValue eT).run P w = .ok (.pointer none) w)
    {key : Value} {kl : Lit} (hkey : keyOf P kT key = some kl) : (Instr.lookup mT (.map (some mb)) key false).run P w = .ok (ptrV (fnd ns kl)) w := by
  obtain ⟨D, ho, _, hD⟩ := h
  obtain ⟨v, ps, hrun, hv⟩ := ho.lookup K ht hz (ptrR_mk none) hkey
  rw [hD kl (K.key hkey)] at hv
  have e : v = ptrV (fnd ns kl) := by
    cases hf : fnd ns kl with
    | none => rw [hf] at hv; exact ptrR_inv (o := none) hv
    | some b => rw [hf] at hv; exact ptrR_inv (o := some b) hv
  rw [hrun, e]
theorem map_len {w : World} {mb : Nat} {ns : List Nd} (h : MapAt P kT w mb ns) (ht : P.underlying mT = some (.map kT eT)) (ty : TypeId) : (Builtin.len_ #[mT] ty #[.map (some mb)]).run P w = .ok (.int .i64 (ns.length : Int)) w := by
  obtain ⟨D, ho, hs, _⟩ := h
  rw [ho.len ht ty, hs]
theorem has_fnd {D : DataW Nat} {ns : List Nd} {k : Lit} (h : ∀ z, D.atKey k z = match fnd ns k with | none => z | some b => .held b) : has D k = (fnd ns k).isSome := by
  cases hf : fnd ns k with
  | none => rw [hf] at h; exact has_false_of_atKey h
  | some b => rw [hf] at h; exact has_true_of_atKey h
theorem tight {w : World} {R : Value → Option (DataW Nat × List MemPlace)} {b n : Nat} {D : DataW Nat} (h : w.ownsMap P kT R b n D) : w.ownsMap P kT R b (Maps.size D) D := by
  obtain ⟨es, clock, hb, F, _, rfl⟩ := h
  exact ⟨es, clock, hb, F, by simp [Maps.size, length_sorted], rfl⟩
/-- A new key is put. -/
theorem map_store {w : World} {mb : Nat} {ns : List Nd} (h : MapAt P kT w mb ns) (K : Keyed P kT) (ht : P.underlying mT = some (.map kT eT)) (hn : ns.length < maxLen) {key : Value} {n : Nd} (hkey : keyOf P kT key = some n.k) (hf : fnd ns n.k = none) :
    ∃ w', (Instr.mapUpdate mT (.map (some mb)) key (.pointer (some ⟨n.b, 0, none⟩))).run P w = .ok () w' ∧ MapAt P kT w' mb (n :: ns) ∧ w.mapTurned w' mb := by
  obtain ⟨D, ho, hs, hD⟩ := h
  obtain ⟨w', hrun, ho', ht'⟩ := ho.store K ht hn hkey (ptrR_mk (some n.b))
  have hk := K.key hkey
  refine ⟨w', hrun, ⟨D.put n.k (.held n.b), ho', ?_, ?_⟩, ht'⟩
  · rw [size_put (ho.tidy K), has_fnd (hD n.k hk), hf, hs]; simp
  · intro k hk' z
    unfold fnd
    by_cases c : n.k.sameKey k = true
    · have e := WideAt.sameKey_eq c
      subst e
      rw [if_pos c, atKey_put_same ho.isMap hk]
    · rw [if_neg c, atKey_put_other (fun e => c (by rw [e]; exact WideAt.sameKey_self hk)), hD k hk']
/-- A key is deleted. -/
theorem map_drop {w : World} {mb : Nat} {ns : List Nd} (h : MapAt P kT w mb ns) (ok : KeysOk ns) (K : Keyed P kT) (ht : P.underlying mT = some (.map kT eT)) {key : Value} {n : Nd} {i : Nat} (hkey : keyOf P kT key = some n.k) (hi : ns[i]? = some n) (ty : TypeId) :
    ∃ w', (Builtin.delete_ #[mT, kT] ty #[.map (some mb), key]).run P w = .ok (.tuple #[]) w' ∧ MapAt P kT w' mb (ns.eraseIdx i) ∧ w.mapTurned w' mb := by
  obtain ⟨D, ho, hs, hD⟩ := h
  obtain ⟨w', hrun, ho', ht'⟩ := ho.drop K ht hkey ty
  have hk := K.key hkey
  have hlt := (List.getElem?_eq_some_iff.1 hi).1
  have hsz : Maps.size (D.del n.k) = (ns.eraseIdx i).length := by
    have := size_del (k := n.k) (ho.tidy K)
    rw [has_fnd (hD n.k hk), (fnd_get ok hi).1, hs] at this
    rw [List.length_eraseIdx, if_pos hlt]
    simp at this; omega
  refine ⟨w', hrun, ⟨D.del n.k, by rw [← hsz]; exact tight ho', hsz, ?_⟩, ht'⟩
  intro k hk' z
  rw [fnd_erase ok hi k hk']
  by_cases c : n.k.sameKey k = true
  · have e := WideAt.sameKey_eq c
    rw [if_pos c, ← e]
    exact atKey_del_same z
  · rw [if_neg c, atKey_del_other (fun e => c (by rw [e]; exact WideAt.sameKey_self hk)), hD k hk']
end Go.Cch
