/- What becomes of a cache behind its calls' steps, in plain words. No program in sight. No condition. -/
import Derived.Test.YticgpiipikneiaaCc
set_option linter.unusedSimpArgs false
set_option linter.unusedVariables false
namespace Go.Cch
open Go.RowKit Go.Mor Go.Maps Go.WideShapes

section
variable {P : Program} {kT : TypeId} {Kd : Lit → Prop} {w w1 w2 w3 w' : World} {c mb room met miss i : Nat} {ns : List Nd} {n : Nd}
theorem CacheAt.set (C : CacheAt P kT Kd w c mb ns room met miss) (o : Nat) (v : Value) (h0 : o ≠ 0) (h1 : o ≠ 1) (h2 : o ≠ 2) (h3 : o ≠ 3) {met' miss' : Nat}
    (h4 : (w.setCell ⟨c, o, none⟩ v).cell? ⟨c, 4, none⟩ = some (.int .i64 met')) (h5 : (w.setCell ⟨c, o, none⟩ v).cell? ⟨c, 5, none⟩ = some (.int .i64 miss')) : CacheAt P kT Kd (w.setCell ⟨c, o, none⟩ v) c mb ns room met' miss' :=
  ⟨⟨by rw [sz_set]; exact C.row.lc, (cs_other (off h2)).trans C.row.f, (cs_other (off h3)).trans C.row.l, fun p => fz_set.trans (C.row.fz p),
    fun j m hm => by
      have N := C.row.nd j m hm
      have e := bl_set (w := w) (p := ⟨c, o, none⟩) (v := v) (k := m.b) (C.row.nc m (List.mem_of_getElem? hm))
      exact N.same e (by rw [sz_set]; exact Nat.le_refl _), C.row.dj, C.row.nc⟩,
   C.map.of_block (bl_set (Ne.symm C.cm)), C.ok, C.kd, (cs_other (off h0)).trans C.r, (cs_other (off h1)).trans C.a, h4, h5, C.cm, C.nm, C.le, C.hi, C.lo⟩
theorem CacheAt.set4 (C : CacheAt P kT Kd w c mb ns room met miss) (x : Nat) : CacheAt P kT Kd (w.setCell ⟨c, 4, none⟩ (.int .i64 x)) c mb ns room x miss :=
  C.set 4 _ (by decide) (by decide) (by decide) (by decide) (cs_same C.m) ((cs_other (off (by decide))).trans C.s)
theorem CacheAt.set5 (C : CacheAt P kT Kd w c mb ns room met miss) (x : Nat) : CacheAt P kT Kd (w.setCell ⟨c, 5, none⟩ (.int .i64 x)) c mb ns room met x :=
  C.set 5 _ (by decide) (by decide) (by decide) (by decide) ((cs_other (off (by decide))).trans C.m) (cs_same C.s)
theorem Stp.set (o : Nat) (v : Value) : Stp c mb ns ns w (w.setCell ⟨c, o, none⟩ v) := ⟨Fr.of_set own_c, fun n hn => .inl (List.mem_map.2 ⟨n, hn, rfl⟩)⟩
/-- A node is used. -/
theorem CacheAt.use (C : CacheAt P kT Kd w1 c mb ns room met miss) (h : ns[i]? = some n) (T2 : Turn c (ns.map (·.b)) w1 w2) (R3 : RowAt w3 c (n :: ns.eraseIdx i)) (T3 : Turn c (n.b :: (ns.eraseIdx i).map (·.b)) w2 w3) :
    CacheAt P kT Kd w3 c mb (n :: ns.eraseIdx i) room met miss ∧ Stp c mb ns (n :: ns.eraseIdx i) w1 w3 := by
  have hil := (List.getElem?_eq_some_iff.1 h).1
  have hsub : ∀ k ∈ n.b :: (ns.eraseIdx i).map (·.b), k ∈ ns.map (·.b) := fun k hk => by
    rcases List.mem_cons.1 hk with e | hk
    · subst e; exact List.mem_map.2 ⟨n, List.mem_of_getElem? h, rfl⟩
    · obtain ⟨m, hm, rfl⟩ := List.mem_map.1 hk
      exact List.mem_map.2 ⟨m, List.mem_of_mem_eraseIdx hm, rfl⟩
  have T := T2.trans (T3.mono hsub)
  have hmem : ∀ m ∈ n :: ns.eraseIdx i, m ∈ ns := fun m hm => by
    rcases List.mem_cons.1 hm with e | hm
    · subst e; exact List.mem_of_getElem? h
    · exact List.mem_of_mem_eraseIdx hm
  have hlen : (n :: ns.eraseIdx i).length = ns.length := by simp only [List.length_cons]; exact erase_len hil
  refine ⟨C.turn T (fun k hk e => C.nmb (e ▸ hk)) R3 ?_ (C.ok.use h n.v) (fun m hm => C.kd m (hmem m hm)) (fun m hm => C.nm m (hmem m hm)) (by rw [hlen]; exact C.le), ?_⟩
  · exact (C.map.of_block (T.map_block (Ne.symm C.cm) C.nmb)).perm hlen (fun k hk => fnd_use C.ok h n.v k hk)
  · exact ⟨Fr.of_turn T own_c (fun k hk => own_n hk), fun m hm => .inl (List.mem_map.2 ⟨m, hmem m hm, rfl⟩)⟩
theorem fnd_congr : ∀ {l l' : List Nd}, l.map (fun n => (n.k, n.b)) = l'.map (fun n => (n.k, n.b)) → ∀ k, fnd l k = fnd l' k
  | [], [], _, _ => rfl
  | [], _ :: _, h, _ => by simp at h
  | _ :: _, [], h, _ => by simp at h
  | a :: l, b :: l', h, k => by
    simp only [List.map_cons, List.cons.injEq, Prod.mk.injEq] at h
    unfold fnd
    rw [h.1.1, h.1.2, fnd_congr h.2 k]
theorem set_congr {α : Type} (f : Nd → α) {l : List Nd} {i : Nat} {n n' : Nd} (h : l[i]? = some n) (e : f n' = f n) : (l.set i n').map f = l.map f := by
  obtain ⟨hi, e2⟩ := List.getElem?_eq_some_iff.1 h
  rw [List.map_set]
  apply List.ext_getElem?
  intro j
  rw [List.getElem?_set]
  by_cases hj : i = j
  · subst hj; rw [if_pos rfl, if_pos (by simpa using hi)]; simp [h, e]
  · rw [if_neg hj]
/-- A node's thing is another one. -/
theorem CacheAt.setV (C : CacheAt P kT Kd w c mb ns room met miss) (h : ns[i]? = some n) (v : Int) :
    CacheAt P kT Kd (w.setCell ⟨n.b, 1, none⟩ (.int .i64 v)) c mb (ns.set i ⟨n.k, v, n.b⟩) room met miss ∧ Stp c mb ns (ns.set i ⟨n.k, v, n.b⟩) w (w.setCell ⟨n.b, 1, none⟩ (.int .i64 v)) := by
  have hn := List.mem_of_getElem? h
  have hnc := C.row.nc n hn
  have hk : (ns.set i ⟨n.k, v, n.b⟩).map (·.k) = ns.map (·.k) := set_congr (·.k) h rfl
  have hkm : ∀ m ∈ ns.set i ⟨n.k, v, n.b⟩, ∃ m' ∈ ns, m'.k = m.k := fun m hm => by
    have : m.k ∈ (ns.set i ⟨n.k, v, n.b⟩).map (·.k) := List.mem_map.2 ⟨m, hm, rfl⟩
    rw [hk] at this
    exact List.mem_map.1 this
  have hbm : ∀ m ∈ ns.set i ⟨n.k, v, n.b⟩, ∃ m' ∈ ns, m'.b = m.b := fun m hm => by
    have : m.b ∈ (ns.set i ⟨n.k, v, n.b⟩).map (·.b) := List.mem_map.2 ⟨m, hm, rfl⟩
    rw [map_set_b ns i h] at this
    exact List.mem_map.1 this
  refine ⟨⟨C.row.setV h v, ?_, ⟨fun m hm => ?_, by rw [hk]; exact C.ok.one⟩, fun m hm => ?_, (cs_other (far hnc)).trans C.r, (cs_other (far hnc)).trans C.a, (cs_other (far hnc)).trans C.m, (cs_other (far hnc)).trans C.s, C.cm, fun m hm => ?_, by rw [List.length_set]; exact C.le, C.hi, C.lo⟩, Fr.of_set (own_n (List.mem_map.2 ⟨n, hn, rfl⟩)), fun m hm => ?_⟩
  · refine (C.map.of_block (bl_set (Ne.symm (C.nm n hn)))).perm (by rw [List.length_set]) (fun k _ => fnd_congr (set_congr (fun n => (n.k, n.b)) (n' := ⟨n.k, v, n.b⟩) h rfl) k)
  · obtain ⟨m', h1, h2⟩ := hkm m hm; rw [← h2]; exact C.ok.key m' h1
  · obtain ⟨m', h1, h2⟩ := hkm m hm; rw [← h2]; exact C.kd m' h1
  · obtain ⟨m', h1, h2⟩ := hbm m hm; rw [← h2]; exact C.nm m' h1
  · obtain ⟨m', h1, h2⟩ := hbm m hm; exact .inl (List.mem_map.2 ⟨m', h1, h2⟩)
theorem turned_size {w w' : World} {b : Nat} (t : w.mapTurned w' b) : w'.heap.size = w.heap.size := by
  obtain ⟨es, clock, es', clock', hb, rfl⟩ := t
  simp [Go.ChangeMaps.setBlock]
theorem turned_block {w w' : World} {b k : Nat} (t : w.mapTurned w' b) (h : k < w.heap.size) (hk : k ≠ b) : w'.heap[k]? = w.heap[k]? :=
  t.grown.block k h (fun e => hk (by injection e))
/-- A node is gone. -/
theorem CacheAt.drop (C : CacheAt P kT Kd w c mb ns room met miss) (h : ns[i]? = some n) (T2 : Turn c (ns.map (·.b)) w w2) (R2 : RowAt w2 c (ns.eraseIdx i)) (M3 : MapAt P kT w3 mb (ns.eraseIdx i)) (t : w2.mapTurned w3 mb) :
    CacheAt P kT Kd w3 c mb (ns.eraseIdx i) room met miss ∧ Stp c mb ns (ns.eraseIdx i) w w3 := by
  have hmem : ∀ m ∈ ns.eraseIdx i, m ∈ ns := fun m hm => List.mem_of_mem_eraseIdx hm
  have hle : (ns.eraseIdx i).length ≤ ns.length := by rw [List.length_eraseIdx]; split <;> omega
  have hcb : w3.heap[c]? = w2.heap[c]? := turned_block t R2.lc C.cm
  have hc : ∀ o, w3.cell? ⟨c, o, none⟩ = w2.cell? ⟨c, o, none⟩ := fun o => World.cell?_of_block (w := w2) hcb
  have hs := turned_size t
  refine ⟨⟨R2.same hcb (by rw [hs]; exact Nat.le_refl _) (fun m hm => ?_), M3, C.ok.erase i, fun m hm => C.kd m (hmem m hm), (hc 0).trans ((T2.cell _ _ (by decide) (by decide)).trans C.r), (hc 1).trans ((T2.cell _ _ (by decide) (by decide)).trans C.a), (hc 4).trans ((T2.cell _ _ (by decide) (by decide)).trans C.m), (hc 5).trans ((T2.cell _ _ (by decide) (by decide)).trans C.s), C.cm, fun m hm => C.nm m (hmem m hm), Nat.le_trans hle C.le, C.hi, C.lo⟩, ?_, fun m hm => .inl (List.mem_map.2 ⟨m, hmem m hm, rfl⟩)⟩
  · obtain ⟨j, hj⟩ := List.mem_iff_getElem?.1 hm
    exact turned_block t (R2.nd j m hj).lt (C.nm m (hmem m hm))
  · exact (Fr.of_turn T2 own_c (fun k hk => own_n hk)).trans (Fr.of_map (l := own c mb ns) t own_m) (fun k hk => .inl hk)
/-- A new node. -/
theorem CacheAt.new (C : CacheAt P kT Kd w c mb ns room met miss) (hl : ns.length < room) (hb : n.b = w.heap.size) (hk : Kd n.k) (hkey : WideAt.IsKeyLit n.k) (hne : ∀ m ∈ ns, m.k ≠ n.k)
    (B1 : Below w.heap.size w w1) (h1 : w.heap.size < w1.heap.size) (t : w1.mapTurned w2 mb) (M2 : MapAt P kT w2 mb (n :: ns)) (R3 : RowAt w3 c (n :: ns)) (T3 : Turn c (n.b :: ns.map (·.b)) w2 w3) :
    CacheAt P kT Kd w3 c mb (n :: ns) room met miss ∧ Stp c mb ns (n :: ns) w w3 := by
  have hmb := C.map.lt
  have hbm : n.b ≠ mb := by omega
  have hmn : mb ∉ n.b :: ns.map (·.b) := fun e => by
    rcases List.mem_cons.1 e with e | e
    · exact hbm e.symm
    · exact C.nmb e
  have hcb : w2.heap[c]? = w.heap[c]? := (turned_block t (Nat.lt_of_lt_of_le C.row.lc B1.size) C.cm).trans (B1.block c C.row.lc)
  have hc : ∀ o, o ≠ 2 → o ≠ 3 → w3.cell? ⟨c, o, none⟩ = w.cell? ⟨c, o, none⟩ := fun o h2 h3 => (T3.cell _ _ h2 h3).trans (World.cell?_of_block (w := w) hcb)
  refine ⟨⟨R3, M2.of_block (T3.map_block (Ne.symm C.cm) hmn), C.ok.cons hkey hne, fun m hm => ?_, (hc 0 (by decide) (by decide)).trans C.r, (hc 1 (by decide) (by decide)).trans C.a, (hc 4 (by decide) (by decide)).trans C.m, (hc 5 (by decide) (by decide)).trans C.s, C.cm, fun m hm => ?_, by simp only [List.length_cons]; omega, C.hi, C.lo⟩, ?_, fun m hm => ?_⟩
  · rcases List.mem_cons.1 hm with e | hm
    · subst e; exact hk
    · exact C.kd m hm
  · rcases List.mem_cons.1 hm with e | hm
    · subst e; exact hbm
    · exact C.nm m hm
  · have f1 : Fr (own c mb ns) w w1 := Fr.of_below B1 _
    have f2 : Fr [mb] w1 w2 := Fr.of_map t (List.mem_cons_self ..)
    have f3 : Fr (c :: n.b :: ns.map (·.b)) w2 w3 := Fr.of_turn T3 (List.mem_cons_self ..) (fun k hk => List.mem_cons_of_mem _ hk)
    refine (f1.trans f2 (fun k hk => ?_)).trans f3 (fun k hk => ?_)
    · obtain rfl := List.mem_singleton.1 hk; exact .inl own_m
    · rcases List.mem_cons.1 hk with e | hk
      · subst e; exact .inl own_c
      · rcases List.mem_cons.1 hk with e | hk
        · exact .inr (by omega)
        · exact .inl (own_n hk)
  · rcases List.mem_cons.1 hm with e | hm
    · subst e; exact .inr (by omega)
    · exact .inl (List.mem_map.2 ⟨m, hm, rfl⟩)
/-- Ahead of the last step of a new node. -/
theorem CacheAt.row_new (C : CacheAt P kT Kd w c mb ns room met miss) (B1 : Below w.heap.size w w1) (t : w1.mapTurned w2 mb) : RowAt w2 c ns :=
  C.row.same ((turned_block t (Nat.lt_of_lt_of_le C.row.lc B1.size) C.cm).trans (B1.block c C.row.lc)) (by rw [turned_size t]; exact B1.size) (fun m hm => by
    obtain ⟨j, hj⟩ := List.mem_iff_getElem?.1 hm
    have hlt := (C.row.nd j m hj).lt
    exact (turned_block t (Nat.lt_of_lt_of_le hlt B1.size) (C.nm m hm)).trans (B1.block _ hlt))
theorem CacheAt.node_new (C : CacheAt P kT Kd w c mb ns room met miss) (v : Int) (k : Lit) (ty : TypeId) (t : w1.mapTurned w2 mb) (h : w1.heap = (w.alloc (.cells #[k.value, .int .i64 v, .pointer none, .pointer none] ty)).heap) : NodeAt w2 ⟨k, v, w.heap.size⟩ none none := by
  have hmb := C.map.lt
  have hlt : w.heap.size < w1.heap.size := by rw [h]; simp
  have hb : w2.heap[w.heap.size]? = (w.alloc (.cells #[k.value, .int .i64 v, .pointer none, .pointer none] ty)).heap[w.heap.size]? := (turned_block t hlt (by omega : w.heap.size ≠ mb)).trans (by rw [h])
  have hc : ∀ o, w2.cell? ⟨w.heap.size, o, none⟩ = (w.alloc (.cells #[k.value, .int .i64 v, .pointer none, .pointer none] ty)).cell? ⟨w.heap.size, o, none⟩ := fun o => World.cell?_of_block (w := w.alloc _) hb
  have hf : ∀ o, w2.frozen? ⟨w.heap.size, o, none⟩ = (w.alloc (.cells #[k.value, .int .i64 v, .pointer none, .pointer none] ty)).frozen? ⟨w.heap.size, o, none⟩ := fun o => World.frozen?_of_block (w := w.alloc _) hb
  exact ⟨by rw [turned_size t]; exact hlt, (hc 0).trans (by simp), (hc 1).trans (by simp), (hc 2).trans (by simp [ptrV]), (hc 3).trans (by simp [ptrV]), fun o => (hf o).trans (by simp)⟩
theorem heap_new (w : World) (o : Obj) {mb : Nat} (h : mb < w.heap.size) : (w.alloc o).heap[mb]? = w.heap[mb]? := Below.heap_alloc w o mb h
theorem kd_len (C : CacheAt P kT Kd w c mb ns room met miss) : ns.length < maxLen := by have := C.le; have := C.hi; unfold maxLen; omega
end

/-! ### what the calls answer -/
/-- The key that went, as a value. -/
def goneV (z : Value) (o : Option Lit) : Value := match o with | some g => g.value | none => z
section
variable (P : Program) (kT : TypeId) (Kd : Lit → Prop) (w : World) (c mb : Nat) (ns : List Nd) (room met miss : Nat) (k : Lit)
def GetPost (e : Ending) (w' : World) : Prop :=
  ∃ ns', e = .returned (.tuple #[.int .i64 (getV (kv ns) k), .bool (hasL (kv ns) k)]) ∧ kv ns' = getL (kv ns) k ∧ CacheAt P kT Kd w' c mb ns' room (if hasL (kv ns) k then met + 1 else met) (if hasL (kv ns) k then miss else miss + 1) ∧ Stp c mb ns ns' w w'
def DropPost (e : Ending) (w' : World) : Prop :=
  e = .returned (.bool (hasL (kv ns) k)) ∧ CacheAt P kT Kd w' c mb (ns.eraseIdx (pos ns k)) room met miss ∧ Stp c mb ns (ns.eraseIdx (pos ns k)) w w'
def PutPost (z : Value) (v : Int) (e : Ending) (w' : World) : Prop :=
  ∃ ns', e = .returned (.tuple #[goneV z (putG (kv ns) room k), .bool (putT (kv ns) room k)]) ∧ kv ns' = putL (kv ns) room k v ∧ CacheAt P kT Kd w' c mb ns' room met miss ∧ Stp c mb ns ns' w w'
end
section
variable {ns : List Nd} {k : Lit} {n : Nd}
theorem pos_kv_get (k : Lit) : (kv ns)[posL (kv ns) k]? = (ns[pos ns k]?).map fun n => (n.k, n.v) := by rw [posL_kv, kv_get]
theorem has_yes (h : ns[pos ns k]? = some n) : hasL (kv ns) k = true := by
  unfold hasL; rw [posL_kv, kv_len]; exact decide_eq_true (List.getElem?_eq_some_iff.1 h).1
theorem has_no (h : fnd ns k = none) : hasL (kv ns) k = false := by
  unfold hasL; rw [posL_kv, kv_len, fnd_none_pos h]; simp
theorem getV_yes (h : ns[pos ns k]? = some n) : getV (kv ns) k = n.v := by unfold getV; rw [pos_kv_get, h]; rfl
theorem kv_none (h : fnd ns k = none) : (kv ns)[posL (kv ns) k]? = none := by rw [pos_kv_get, fnd_none_pos h, List.getElem?_eq_none (Nat.le_refl _)]; rfl
theorem getV_no (h : fnd ns k = none) : getV (kv ns) k = 0 := by unfold getV; rw [kv_none h]
theorem getL_yes (h : ns[pos ns k]? = some n) : kv (n :: ns.eraseIdx (pos ns k)) = getL (kv ns) k := by
  unfold getL; rw [pos_kv_get, h, posL_kv]
  show (n.k, n.v) :: kv _ = _
  rw [kv_erase]; rfl
theorem getL_no (h : fnd ns k = none) : kv ns = getL (kv ns) k := by unfold getL; rw [kv_none h]
theorem dropL_kv : kv (ns.eraseIdx (pos ns k)) = dropL (kv ns) k := by unfold dropL; rw [posL_kv, kv_erase]
theorem erase_no (h : fnd ns k = none) : ns.eraseIdx (pos ns k) = ns := by rw [fnd_none_pos h, List.eraseIdx_of_length_le (Nat.le_refl _)]
theorem set_get {ns : List Nd} {i : Nat} {n : Nd} (h : ns[i]? = some n) (n' : Nd) : (ns.set i n')[i]? = some n' := by
  rw [List.getElem?_set_self (List.getElem?_eq_some_iff.1 h).1]
theorem fnd_erase_none {ns : List Nd} {k : Lit} (hk : WideAt.IsKeyLit k) (h : fnd ns k = none) (i : Nat) : fnd (ns.eraseIdx i) k = none :=
  fnd_of_ne fun m hm => fnd_none_ne hk h m (List.mem_of_mem_eraseIdx hm)
/-- There is a node of a key, or none. -/
theorem fnd_cases (ns : List Nd) (k : Lit) : (∃ n, ns[pos ns k]? = some n ∧ n.k = k ∧ fnd ns k = some n.b) ∨ fnd ns k = none := by
  have := pos_le k ns
  rcases Nat.lt_or_ge (pos ns k) ns.length with c | c
  · exact .inl (pos_get c)
  · exact .inr (pos_none (by omega))
variable {room : Nat} {v : Int}
theorem putL_yes (h : ns[pos ns k]? = some n) (hk : n.k = k) : kv (⟨n.k, v, n.b⟩ :: ns.eraseIdx (pos ns k)) = putL (kv ns) room k v ∧ putG (kv ns) room k = none ∧ putT (kv ns) room k = false := by
  subst hk
  unfold putL putG putT; rw [pos_kv_get, h, posL_kv]
  refine ⟨?_, rfl, rfl⟩
  show (n.k, v) :: kv _ = _
  rw [kv_erase]; rfl
theorem putL_no (h : fnd ns k = none) (hl : ns.length ≠ room) (b : Nat) : kv (⟨k, v, b⟩ :: ns) = putL (kv ns) room k v ∧ putG (kv ns) room k = none ∧ putT (kv ns) room k = false := by
  unfold putL putG putT; rw [kv_none h]
  simp only [kv_len, if_neg hl, decide_eq_false hl]
  exact ⟨rfl, trivial, trivial⟩
theorem putL_full (h : fnd ns k = none) (hl : ns.length = room) (hg : ns[ns.length - 1]? = some n) (b : Nat) : kv (⟨k, v, b⟩ :: ns.eraseIdx (ns.length - 1)) = putL (kv ns) room k v ∧ putG (kv ns) room k = some n.k ∧ putT (kv ns) room k = true := by
  unfold putL putG putT; rw [kv_none h]
  simp only [kv_len, if_pos hl, decide_eq_true hl, kv_get, hg]
  refine ⟨?_, rfl, trivial⟩
  show (k, v) :: kv _ = _
  rw [kv_erase]
end
end Go.Cch
