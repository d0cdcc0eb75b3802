/- A cache of int beside the reference's list. No condition. -/
import Derived.Test.YticgpiipikneiaaCp
set_option linter.unusedSimpArgs false
set_option linter.unusedVariables false
namespace Go.Proofs.Yticgpiipikneiaa
open Go.ChangeShapes Go.WideShapes Go.RowKit Go.Mor Go.Cch Go.Maps

/-- The reference's list as the cache's. -/
def kvI (l : List It) : List KV := l.map fun p => (.int .i64 p.1, p.2)
theorem same_int (a b : Int) : (Lit.int .i64 a).sameKey (.int .i64 b) = decide (a = b) := by simp [Lit.sameKey]
theorem pos_kvI (k : Int) : ∀ l, posL (kvI l) (.int .i64 k) = fi l k
  | [] => rfl
  | p :: r => by
    show (if (Lit.int .i64 p.1).sameKey (.int .i64 k) then 0 else posL (kvI r) (.int .i64 k) + 1) = _
    unfold fi
    rw [same_int, pos_kvI k r]
    by_cases h : p.1 = k <;> simp [h]
theorem len_kvI (l : List It) : (kvI l).length = l.length := by simp [kvI]
theorem get_kvI (l : List It) (i : Nat) : (kvI l)[i]? = (l[i]?).map fun p => (.int .i64 p.1, p.2) := by simp [kvI]
theorem erase_kvI (l : List It) (i : Nat) : (kvI l).eraseIdx i = kvI (l.eraseIdx i) := by
  unfold kvI
  rw [List.eraseIdx_eq_take_drop_succ, List.eraseIdx_eq_take_drop_succ, List.map_append, List.map_take, List.map_drop]
/-- The place of a key, if it has one. -/
def fo (l : List It) (k : Int) : Option Nat := if fi l k < l.length then some (fi l k) else none
theorem find_fo (l : List It) (k : Int) : find l k = atI (fo l k) := by unfold find fo; split <;> rfl
theorem fo_some {l : List It} {k : Int} {a : Nat} (h : fo l k = some a) : a = fi l k ∧ a < l.length := by
  unfold fo at h
  split at h
  · injection h with h; subst h; exact ⟨rfl, by assumption⟩
  · cases h
theorem fi_get {k : Int} : ∀ {l : List It}, fi l k < l.length → ∃ v, l[fi l k]? = some (k, v)
  | [], h => by simp at h
  | p :: r, h => by
    unfold fi at h ⊢
    by_cases c : p.1 = k
    · rw [if_pos c]; exact ⟨p.2, by rw [← c]; rfl⟩
    · rw [if_neg c] at h ⊢
      obtain ⟨v, hv⟩ := fi_get (l := r) (k := k) (by simpa using h)
      exact ⟨v, by simpa using hv⟩
theorem has_kvI (l : List It) (k : Int) : hasL (kvI l) (.int .i64 k) = (fo l k).isSome := by
  unfold hasL fo
  rw [pos_kvI, len_kvI]
  by_cases h : fi l k < l.length <;> simp [h]
theorem drop_kvI (l : List It) (k : Int) : dropL (kvI l) (.int .i64 k) = kvI (wo l (fo l k)) := by
  unfold dropL fo
  rw [pos_kvI, erase_kvI]
  by_cases h : fi l k < l.length
  · rw [if_pos h]; rfl
  · rw [if_neg h, List.eraseIdx_of_length_le (by omega)]; rfl
theorem get_some {l : List It} {k : Int} {a : Nat} (h : fo l k = some a) : ∃ v, l[a]? = some (k, v) ∧ getV (kvI l) (.int .i64 k) = v ∧ getL (kvI l) (.int .i64 k) = kvI ((k, v) :: l.eraseIdx a) := by
  obtain ⟨rfl, hlt⟩ := fo_some h
  obtain ⟨v, hv⟩ := fi_get hlt
  refine ⟨v, hv, ?_, ?_⟩
  · unfold getV; rw [pos_kvI, get_kvI, hv]; rfl
  · unfold getL; rw [pos_kvI, get_kvI, hv, erase_kvI]; rfl
theorem get_none {l : List It} {k : Int} (h : fo l k = none) : getL (kvI l) (.int .i64 k) = kvI l := by
  unfold fo at h
  split at h
  · cases h
  · unfold getL; rw [pos_kvI, get_kvI, List.getElem?_eq_none (by omega)]; rfl
/-- Behind a put: the list, the key that goes, whether one does. -/
theorem put_some {l : List It} {n : Nat} {k v : Int} (h : fi l k < l.length) : putL (kvI l) n (.int .i64 k) v = kvI ((k, v) :: l.eraseIdx (fi l k)) ∧ putG (kvI l) n (.int .i64 k) = none ∧ putT (kvI l) n (.int .i64 k) = false := by
  obtain ⟨u, hu⟩ := fi_get h
  unfold putL putG putT
  rw [pos_kvI, get_kvI, hu, erase_kvI]
  exact ⟨rfl, rfl, rfl⟩
theorem kvI_none {l : List It} {k : Int} (h : ¬ fi l k < l.length) : (kvI l)[posL (kvI l) (.int .i64 k)]? = none := by
  rw [pos_kvI, get_kvI, List.getElem?_eq_none (by omega)]; rfl
theorem put_room {l : List It} {n : Nat} {k v : Int} (h : ¬ fi l k < l.length) (hl : l.length < n) : putL (kvI l) n (.int .i64 k) v = kvI ((k, v) :: l) ∧ putG (kvI l) n (.int .i64 k) = none ∧ putT (kvI l) n (.int .i64 k) = false := by
  unfold putL putG putT
  rw [kvI_none h]
  simp only [len_kvI, if_neg (show ¬ l.length = n by omega), decide_eq_false (show ¬ l.length = n by omega)]
  exact ⟨rfl, trivial, trivial⟩
theorem erase_last {α : Type} (l : List α) : l.eraseIdx (l.length - 1) = l.take (l.length - 1) := by
  rw [List.eraseIdx_eq_take_drop_succ, List.drop_eq_nil_of_le (by omega), List.append_nil]
theorem put_full {l : List It} {n : Nat} {k v : Int} (h : ¬ fi l k < l.length) (hl : l.length = n) {p : It} (hp : l[n - 1]? = some p) : putL (kvI l) n (.int .i64 k) v = kvI ((k, v) :: l.take (n - 1)) ∧ putG (kvI l) n (.int .i64 k) = some (.int .i64 p.1) ∧ putT (kvI l) n (.int .i64 k) = true := by
  unfold putL putG putT
  rw [kvI_none h]
  subst hl
  simp only [len_kvI, if_true, decide_true, get_kvI, hp, erase_kvI, erase_last]
  exact ⟨rfl, rfl, trivial⟩

def ItmS (w : World) (A : Option Addr) (l : List It) (S : List Nat) : Prop := l = [] ∨ ∃ b off, A = some ⟨b, off, none⟩ ∧ b ∉ S ∧ b < w.heap.size ∧ ∀ j p, l[j]? = some p → w.cell? ⟨b, off + j * 2, none⟩ = some (.int .i64 p.1) ∧ w.cell? ⟨b, off + j * 2 + 1, none⟩ = some (.int .i64 p.2)
theorem ItmS.itm {w : World} {A : Option Addr} {l : List It} {S : List Nat} (h : ItmS w A l S) : Itm w A l := by
  rcases h with h | ⟨b, off, h1, h2, h3, h4⟩
  · exact .inl h
  · exact .inr ⟨b, off, h1, h3, h4⟩
theorem its_get : ∀ {l : List It} {j : Nat} {p : It}, l[j]? = some p → (its l)[j * 2]? = some (.int .i64 p.1) ∧ (its l)[j * 2 + 1]? = some (.int .i64 p.2)
  | [], j, p, h => by simp at h
  | q :: r, 0, p, h => by simp at h; subst h; exact ⟨rfl, rfl⟩
  | q :: r, j + 1, p, h => by
    have := its_get (l := r) (j := j) (p := p) (by simpa using h)
    rw [show (j + 1) * 2 = j * 2 + 2 by omega]
    exact ⟨by simpa [its] using this.1, by rw [show j * 2 + 2 + 1 = j * 2 + 1 + 2 by omega]; simpa [its] using this.2⟩
theorem itmS_owns {w : World} {B c n : Nat} {A : Option Addr} {l : List It} (h : w.ownsRow B 37 2 (.slice A n c) n (its l)) {S : List Nat} (hS : ∀ k ∈ S, k < B) : ItmS w A l S ∧ n ≤ c := by
  have hl := h.1
  rw [its_len] at hl
  rcases h.2 with ⟨h2, h3⟩ | ⟨g, cap, cur, hv, hb, hg, r1, r⟩
  · injection h2 with _ h4 h5
    exact ⟨.inl (List.eq_nil_of_length_eq_zero (by omega)), by omega⟩
  · injection hv with hv h3 h4
    subst hv
    subst h4
    have hc := h.cells (g := g) rfl
    refine ⟨.inr ⟨g, 0, rfl, fun e => by have := hS g e; omega, (Array.getElem?_eq_some_iff.1 hg).1, fun j p hj => ?_⟩, r1⟩
    obtain ⟨g1, g2⟩ := its_get hj
    have e1 := hc _ _ g1
    have e2 := hc _ _ g2
    rw [Addr.add_lit, Nat.zero_add] at e1 e2
    rw [Nat.zero_add]
    exact ⟨e1, e2⟩
theorem ItmS.step {w w' : World} {A : Option Addr} {l : List It} {c mb : Nat} {ns ns' : List Nd} (h : ItmS w A l (own c mb ns)) (S : Stp c mb ns ns' w w') : ItmS w' A l (own c mb ns') := by
  rcases h with h | ⟨b, off, h1, h2, h3, h4⟩
  · exact .inl h
  · have hb := S.fr.block b h3 h2
    exact .inr ⟨b, off, h1, S.apart h3 h2, Nat.lt_of_lt_of_le h3 S.fr.size, fun j p hj => ⟨(World.cell?_of_block (w := w) hb).trans (h4 j p hj).1, (World.cell?_of_block (w := w) hb).trans (h4 j p hj).2⟩⟩
theorem ItmS.keep {w w' : World} {A : Option Addr} {l : List It} {S : List Nat} (h : ItmS w A l S) (hb : Below w.heap.size w w') : ItmS w' A l S := by
  rcases h with h | ⟨b, off, h1, h2, h3, h4⟩
  · exact .inl h
  · exact .inr ⟨b, off, h1, h2, Nat.lt_of_lt_of_le h3 hb.size, fun j p hj => ⟨(hb.cell (by exact h3)).trans (h4 j p hj).1, (hb.cell (by exact h3)).trans (h4 j p hj).2⟩⟩
/-- An act in a variable of its own. -/
def ObAt (w : World) (S : List Nat) : Option (Nat × Int × Int × Int) → Prop
  | none => True
  | some (g, x) => g ∉ S ∧ g < w.heap.size ∧ w.cell? ⟨g, 0, none⟩ = some (.int .i64 x.1) ∧ w.cell? ⟨g, 1, none⟩ = some (.int .i64 x.2.1) ∧ w.cell? ⟨g, 2, none⟩ = some (.int .i64 x.2.2)
theorem ObAt.same {w w' : World} {S S' : List Nat} {ob : Option (Nat × Int × Int × Int)} (h : ObAt w S ob) (hs : w.heap.size ≤ w'.heap.size) (hb : ∀ g, g < w.heap.size → g ∉ S → w'.heap[g]? = w.heap[g]? ∧ g ∉ S') : ObAt w' S' ob := by
  match ob, h with
  | none, _ => trivial
  | some (g, x), ⟨h1, h2, h3, h4, h5⟩ =>
    obtain ⟨e, h6⟩ := hb g h2 h1
    exact ⟨h6, Nat.lt_of_lt_of_le h2 hs, (World.cell?_of_block (w := w) e).trans h3, (World.cell?_of_block (w := w) e).trans h4, (World.cell?_of_block (w := w) e).trans h5⟩
theorem ObAt.keep {w w' : World} {S : List Nat} {ob : Option (Nat × Int × Int × Int)} (h : ObAt w S ob) (hb : Below w.heap.size w w') : ObAt w' S ob := h.same hb.size fun g hg hS => ⟨hb.block g hg, hS⟩
theorem ObAt.step {w w' : World} {c mb : Nat} {ns ns' : List Nd} {ob : Option (Nat × Int × Int × Int)} (h : ObAt w (own c mb ns) ob) (S : Stp c mb ns ns' w w') : ObAt w' (own c mb ns') ob := h.same S.fr.size fun g hg hS => ⟨S.fr.block g hg hS, S.apart hg hS⟩
/-- The cache reads as lc, the reference's list, behind A, as l. -/
def DoAt (w : World) (c mb n : Nat) (ob : Option (Nat × Int × Int × Int)) (lc : List KV) (met miss : Nat) (A : Option Addr) (cp : Nat) (l : List It) (wr : World) : Prop :=
  ∃ ns, kv ns = lc ∧ CacheI wr c mb ns n met miss ∧ ItmS wr A l (own c mb ns) ∧ ObAt wr (own c mb ns) ob ∧ l.length ≤ cp ∧ Below w.heap.size w wr ∧ ∀ k ∈ own c mb ns, w.heap.size ≤ k
section
variable {w wr : World} {c mb n met miss cp : Nat} {lc : List KV} {A : Option Addr} {l : List It} {ob : Option (Nat × Int × Int × Int)}
theorem DoAt.below (h : DoAt w c mb n ob lc met miss A cp l wr) : Below w.heap.size w wr := by obtain ⟨_, _, _, _, _, _, h, _⟩ := h; exact h
theorem DoAt.itm (h : DoAt w c mb n ob lc met miss A cp l wr) : Itm wr A l := by obtain ⟨_, _, _, h, _⟩ := h; exact h.itm
theorem DoAt.cap (h : DoAt w c mb n ob lc met miss A cp l wr) : l.length ≤ cp := by obtain ⟨_, _, _, _, _, h, _⟩ := h; exact h
theorem DoAt.len (h : DoAt w c mb n ob lc met miss A cp l wr) : lc.length ≤ n := by obtain ⟨ns, rfl, C, _⟩ := h; rw [kv_len]; exact C.le
theorem DoAt.drewN (h : DoAt w c mb n ob lc met miss A cp l wr) (q : Nat) : DoAt w c mb n ob lc met miss A cp l (wr.drewN q) := by
  obtain ⟨ns, h1, C, I, J, hc, B, O⟩ := h
  exact ⟨ns, h1, C.drewN q, I.keep ⟨rfl, rfl, rfl, Nat.le_refl _, fun _ _ => rfl⟩, J.keep ⟨rfl, rfl, rfl, Nat.le_refl _, fun _ _ => rfl⟩, hc, below_drewN B q, O⟩
theorem do_stp {ns ns' : List Nd} {w' : World} (C : CacheI wr c mb ns n met miss) (I : ItmS wr A l (own c mb ns)) (J : ObAt wr (own c mb ns) ob) (hc : l.length ≤ cp) (B : Below w.heap.size w wr) (O : ∀ k ∈ own c mb ns, w.heap.size ≤ k) {met' miss' : Nat} (C' : CacheI w' c mb ns' n met' miss') (S : Stp c mb ns ns' wr w') : DoAt w c mb n ob (kv ns') met' miss' A cp l w' := by
  refine ⟨ns', rfl, C', I.step S, J.step S, hc, B.trans (S.fr.below B.size O), fun k hk => ?_⟩
  rcases List.mem_cons.1 hk with e | hk
  · exact e ▸ O c own_c
  · rcases List.mem_cons.1 hk with e | hk
    · exact e ▸ O mb own_m
    · obtain ⟨m, hm, rfl⟩ := List.mem_map.1 hk
      rcases S.nw m hm with h | h
      · exact O _ (own_n h)
      · exact Nat.le_trans B.size h
/-- The reference has made another list. -/
theorem do_ref {w' : World} (h : DoAt w c mb n ob lc met miss A cp l wr) (hb : Below wr.heap.size wr w') {A' : Option Addr} {m cp' : Nat} {l' : List It} (hl : l'.length = m) (hown : w'.ownsRow wr.heap.size 37 2 (.slice A' m cp') m (its l')) : DoAt w c mb n ob lc met miss A' cp' l' w' := by
  obtain ⟨ns, h1, C, I, J, hc, B, O⟩ := h
  obtain ⟨I', hc'⟩ := itmS_owns hown C.lt
  exact ⟨ns, h1, C.keep hb, I', J.keep hb, by rw [hl]; exact hc', B.trans (hb.mono B.size), O⟩
theorem do_nil (h : DoAt w c mb n ob lc met miss A cp l wr) : DoAt w c mb n ob lc met miss none 0 [] wr := by
  obtain ⟨ns, h1, C, I, J, hc, B, O⟩ := h
  exact ⟨ns, h1, C, .inl rfl, J, Nat.le_refl _, B, O⟩
theorem do_put (h : DoAt w c mb n ob lc met miss A cp l wr) (k : Int) (hk : (Lit.int .i64 k).wf = true) (v : Int) :
    Calls Try.prog 11 #[.pointer (some ⟨c, 0, none⟩), .int .i64 k, .int .i64 v] wr fun e w' => e = .returned (.tuple #[goneV (.int .i64 0) (putG lc n (.int .i64 k)), .bool (putT lc n (.int .i64 k))]) ∧ DoAt w c mb n ob (putL lc n (.int .i64 k) v) met miss A cp l w' := by
  obtain ⟨ns, rfl, C, I, J, hc, B, O⟩ := h
  refine (put_I C k hk v).mono ?_
  rintro e w' ⟨ns', rfl, h1, C1, S1⟩
  exact ⟨rfl, h1 ▸ do_stp C I J hc B O C1 S1⟩
theorem do_get (h : DoAt w c mb n ob lc met miss A cp l wr) (hm : met < 1000) (hs : miss < 1000) (k : Int) (hk : (Lit.int .i64 k).wf = true) :
    Calls Try.prog 13 #[.pointer (some ⟨c, 0, none⟩), .int .i64 k] wr fun e w' => e = .returned (.tuple #[.int .i64 (getV lc (.int .i64 k)), .bool (hasL lc (.int .i64 k))]) ∧ DoAt w c mb n ob (getL lc (.int .i64 k)) (if hasL lc (.int .i64 k) then met + 1 else met) (if hasL lc (.int .i64 k) then miss else miss + 1) A cp l w' := by
  obtain ⟨ns, rfl, C, I, J, hc, B, O⟩ := h
  refine (get_I C (by omega) (by omega) k hk).mono ?_
  rintro e w' ⟨ns', rfl, h1, C1, S1⟩
  exact ⟨rfl, h1 ▸ do_stp C I J hc B O C1 S1⟩
theorem do_drop (h : DoAt w c mb n ob lc met miss A cp l wr) (k : Int) (hk : (Lit.int .i64 k).wf = true) :
    Calls Try.prog 15 #[.pointer (some ⟨c, 0, none⟩), .int .i64 k] wr fun e w' => e = .returned (.bool (hasL lc (.int .i64 k))) ∧ DoAt w c mb n ob (dropL lc (.int .i64 k)) met miss A cp l w' := by
  obtain ⟨ns, rfl, C, I, J, hc, B, O⟩ := h
  refine (drop_I C k hk).mono ?_
  rintro e w' ⟨rfl, C1, S1⟩
  exact ⟨rfl, dropL_kv (ns := ns) ▸ do_stp C I J hc B O C1 S1⟩
theorem do_clear (h : DoAt w c mb n ob lc met miss A cp l wr) :
    Calls Try.prog 17 #[.pointer (some ⟨c, 0, none⟩)] wr fun e w' => e = .returned (.tuple #[]) ∧ DoAt w c mb n ob [] 0 0 A cp l w' := by
  obtain ⟨ns, rfl, C, I, J, hc, B, O⟩ := h
  refine (clear_I C).mono ?_
  rintro e w' ⟨rfl, C1, S1⟩
  exact ⟨rfl, do_stp C I J hc B O C1 S1⟩
theorem do_has (h : DoAt w c mb n ob lc met miss A cp l wr) (k : Int) (hk : (Lit.int .i64 k).wf = true) :
    Calls Try.prog 22 #[.pointer (some ⟨c, 0, none⟩), .int .i64 k] wr fun e w' => e = .returned (.bool (hasL lc (.int .i64 k))) ∧ w' = wr := by
  obtain ⟨ns, rfl, C, _⟩ := h
  exact has_I C k hk
theorem do_len (h : DoAt w c mb n ob lc met miss A cp l wr) :
    Calls Try.prog 20 #[.pointer (some ⟨c, 0, none⟩)] wr fun e w' => e = .returned (.int .i64 (lc.length : Nat)) ∧ w' = wr := by
  obtain ⟨ns, rfl, C, _⟩ := h
  rw [kv_len]
  exact len_I C
theorem do_met (h : DoAt w c mb n ob lc met miss A cp l wr) :
    Calls Try.prog 19 #[.pointer (some ⟨c, 0, none⟩)] wr fun e w' => e = .returned (.tuple #[.int .i64 (met : Nat), .int .i64 (miss : Nat)]) ∧ w' = wr.drew := by
  obtain ⟨ns, rfl, C, _⟩ := h
  exact met_I C
theorem do_sound (h : DoAt w c mb n ob lc met miss A cp l wr) :
    Calls Try.prog 21 #[.pointer (some ⟨c, 0, none⟩)] wr fun e w' => e = .returned (.bool true) ∧ ∃ q, w' = wr.drewN q := by
  obtain ⟨ns, rfl, C, _⟩ := h
  exact sound_I C
theorem do_keys (h : DoAt w c mb n ob lc met miss A cp l wr) :
    Calls Try.prog 18 #[.pointer (some ⟨c, 0, none⟩)] wr fun e w' => ∃ A' c', e = .returned (.slice A' lc.length c') ∧ DoAt w c mb n ob lc met miss A cp l w' ∧ Vals w' A' (lc.map (·.1.value)) [] := by
  obtain ⟨ns, rfl, C, I, J, hc, B, O⟩ := h
  refine (keys_I C).mono ?_
  rintro e w' ⟨A', c', rfl, hb, hown⟩
  refine ⟨A', c', by rw [kv_len], ⟨ns, rfl, C.keep hb, I.keep hb, J.keep hb, hc, B.trans (hb.mono B.size), O⟩, ?_⟩
  have e : (kv ns).map (·.1.value) = keysV ns ns.length := by unfold keysV kv; rw [List.take_length, List.map_map]; rfl
  rw [e]
  exact vals_owns hown (fun k hk => by simp at hk)
theorem put_cases (l : List It) (n : Nat) (k v : Int) (h0 : 0 < n) (hl : l.length ≤ n) :
    ∃ l' g t, putL (kvI l) n (.int .i64 k) v = kvI l' ∧ goneV (.int .i64 0) (putG (kvI l) n (.int .i64 k)) = .int .i64 g ∧ putT (kvI l) n (.int .i64 k) = t ∧ ∀ A cp w, Itm w A l → l.length ≤ cp → l.length ≤ 1000 → Calls Try.prog 12 #[.slice A l.length cp, .int .i64 (n : Int), .agg #[.int .i64 k, .int .i64 v]] w (PutRPost w l' g t) := by
  by_cases hf : fi l k < l.length
  · obtain ⟨h1, h2, h3⟩ := put_some (n := n) (v := v) hf
    exact ⟨_, 0, false, h1, by rw [h2]; rfl, h3, fun A cp w hA _ hm => putR_old A _ cp n l k v hf w rfl hm hA⟩
  · rcases Nat.lt_or_ge l.length n with c | c
    · obtain ⟨h1, h2, h3⟩ := put_room (v := v) hf c
      exact ⟨_, 0, false, h1, by rw [h2]; rfl, h3, fun A cp w hA _ hm => putR_more A _ cp n l k v hf c w rfl hm hA⟩
    · have hln : l.length = n := by omega
      obtain ⟨p, hp⟩ : ∃ p, l[n - 1]? = some p := ⟨_, List.getElem?_eq_getElem (by omega)⟩
      obtain ⟨h1, h2, h3⟩ := put_full (v := v) hf hln hp
      refine ⟨_, p.1, true, h1, by rw [h2]; rfl, h3, fun A cp w hA hc hm => ?_⟩
      have := putR_full A l.length cp n l k v hf (by omega) (by omega) w rfl hm hA (p := p) (by rw [hln]; exact hp) hc
      rwa [hln] at this ⊢
theorem do_refput (h : DoAt w c mb n ob lc met miss A cp l wr) (hl : l.length ≤ 1000) {m : Nat} {k v : Int} {l' : List It} {g : Int} {t : Bool} (hc : ∀ A cp w, Itm w A l → l.length ≤ cp → l.length ≤ 1000 → Calls Try.prog 12 #[.slice A l.length cp, .int .i64 (m : Int), .agg #[.int .i64 k, .int .i64 v]] w (PutRPost w l' g t)) :
    Calls Try.prog 12 #[.slice A l.length cp, .int .i64 (m : Int), .agg #[.int .i64 k, .int .i64 v]] wr fun e w' => ∃ A' cp', e = .returned (.tuple #[.slice A' l'.length cp', .int .i64 g, .bool t]) ∧ DoAt w c mb n ob lc met miss A' cp' l' w' := by
  refine (hc A cp wr h.itm h.cap hl).mono ?_
  rintro e w' ⟨A', c', rfl, hb, hown⟩
  exact ⟨A', c', rfl, do_ref h hb rfl hown⟩
theorem do_use (h : DoAt w c mb n ob lc met miss A cp l wr) (hl : l.length ≤ 1000) {a : Nat} {p : It} (hp : l[a]? = some p) :
    Calls Try.prog 14 #[.slice A l.length cp, .int .i64 (a : Int)] wr fun e w' => ∃ A' cp', e = .returned (.slice A' (p :: l.eraseIdx a).length cp') ∧ DoAt w c mb n ob lc met miss A' cp' (p :: l.eraseIdx a) w' := by
  refine (use_any A _ cp l a p hp wr rfl hl h.itm).mono ?_
  rintro e w' ⟨A', c', rfl, hb, hown⟩
  exact ⟨A', c', rfl, do_ref h hb rfl hown⟩
theorem do_without (h : DoAt w c mb n ob lc met miss A cp l wr) (hl : l.length ≤ 1000) (a : Option Nat) :
    Calls Try.prog 16 #[.slice A l.length cp, .int .i64 (atI a)] wr fun e w' => ∃ A' cp', e = .returned (.slice A' (wo l a).length cp') ∧ DoAt w c mb n ob lc met miss A' cp' (wo l a) w' := by
  refine (without_any A _ cp l a wr rfl hl h.itm).mono ?_
  rintro e w' ⟨A', c', rfl, hb, hown⟩
  exact ⟨A', c', rfl, do_ref h hb rfl hown⟩
theorem do_find (h : DoAt w c mb n ob lc met miss A cp l wr) (hl : l.length ≤ 1000) (k : Int) :
    Calls Try.prog 10 #[.slice A l.length cp, .int .i64 k] wr fun e w' => e = .returned (.int .i64 (atI (fo l k))) ∧ w' = wr := by
  rw [← find_fo]
  exact find_any A _ cp l k wr rfl hl h.itm
theorem do_ob (h : DoAt w c mb n none lc met miss A cp l wr) (x : Int × Int × Int) (ty : TypeId) : DoAt w c mb n (some (wr.heap.size, x)) lc met miss A cp l (wr.alloc (.cells #[.int .i64 x.1, .int .i64 x.2.1, .int .i64 x.2.2] ty)) := by
  obtain ⟨ns, h1, C, I, J, hc, B, O⟩ := h
  have hb : Below wr.heap.size wr (wr.alloc (.cells #[.int .i64 x.1, .int .i64 x.2.1, .int .i64 x.2.2] ty)) := (Below.refl _ _).alloc (Nat.le_refl _) _
  exact ⟨ns, h1, C.keep hb, I.keep hb, ⟨fun e => by have := C.lt _ e; omega, by simp, by simp, by simp, by simp⟩, hc, B.trans (hb.mono B.size), O⟩
theorem do_unob (h : DoAt w c mb n ob lc met miss A cp l wr) : DoAt w c mb n none lc met miss A cp l wr := by
  obtain ⟨ns, h1, C, I, J, hc, B, O⟩ := h
  exact ⟨ns, h1, C, I, trivial, hc, B, O⟩
theorem do_act {g : Nat} {x : Int × Int × Int} (h : DoAt w c mb n (some (g, x)) lc met miss A cp l wr) : within g wr = true ∧ wr.cell? ⟨g, 0, none⟩ = some (.int .i64 x.1) ∧ wr.cell? ⟨g, 1, none⟩ = some (.int .i64 x.2.1) ∧ wr.cell? ⟨g, 2, none⟩ = some (.int .i64 x.2.2) := by
  obtain ⟨ns, h1, C, I, ⟨_, j1, j2⟩, hc, B, O⟩ := h
  exact ⟨within_of j1, j2⟩
end
end Go.Proofs.Yticgpiipikneiaa
