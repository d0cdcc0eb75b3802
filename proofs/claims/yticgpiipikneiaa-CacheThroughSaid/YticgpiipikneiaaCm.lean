/- What is read through a cache, step by step. No condition. -/
import Derived.Test.YticgpiipikneiaaCl
set_option linter.unusedSimpArgs false
set_option linter.unusedVariables false
namespace Go.Proofs.Yticgpiipikneiaa
open Go.ChangeShapes Go.WideShapes Go.RowKit Go.Mor Go.Cch Go.Maps

def wild (k : Int) : Bool := k % 5 == 4
def thing (k : Int) : Int := if wild k then 9 else k * 3
def codeOf (k : Int) : Int := if wild k then 8 else 0
theorem read_any (k : Int) (h0 : 0 ≤ k) (h1 : k < 256) (a x : Nat) (w : World) (hx : x < 1000000) (hc : w.cell? ⟨a, 0, none⟩ = some (.int .i64 (x : Int))) (hz : w.frozen? ⟨a, 0, none⟩ = false) :
    Calls Try.prog 24 #[.int .u8 k, .pointer (some ⟨a, 0, none⟩)] w fun e w' => e = .returned (.tuple #[.int .i64 (thing k), .int .i64 (codeOf k)]) ∧ w' = w.setCell ⟨a, 0, none⟩ (.int .i64 ((x : Int) + 1)) := by
  have hw : IntKind.i64.wrap ((x : Int) + 1) = (x : Int) + 1 := IntWalk.i64_in _ (by omega)
  have hm : k.tmod 5 = k % 5 := Int.tmod_eq_emod_of_nonneg h0
  have hw1 : IntKind.u8.wrap (k.tmod 5) = k.tmod 5 := by rw [hm]; have := Int.emod_nonneg k (by decide : (5 : Int) ≠ 0); have := Int.emod_lt_of_pos k (by decide : (0 : Int) < 5); simp [IntKind.wrap, IntKind.bits, IntKind.signed]; omega
  have hw2 : IntKind.i64.wrap k = k := IntWalk.i64_in _ (by omega)
  have hw3 : IntKind.i64.wrap (k * 3) = k * 3 := IntWalk.i64_in _ (by omega)
  cases hq : wild k
  · have hv : thing k = k * 3 := by unfold thing; rw [hq]; rfl
    have hcd : codeOf k = 0 := by unfold codeOf; rw [hq]; rfl
    rw [hv, hcd]
    unfold wild at hq
    clear hm hv hcd
    go_enter Try.func24, Try.ntmps24
    go_wp2
    go_ret2
    exact ⟨rfl, rfl⟩
  · have hv : thing k = 9 := by unfold thing; rw [hq]; rfl
    have hcd : codeOf k = 8 := by unfold codeOf; rw [hq]; rfl
    rw [hv, hcd]
    unfold wild at hq
    clear hm hv hcd
    go_enter Try.func24, Try.ntmps24
    go_wp2
    go_ret2
    exact ⟨rfl, rfl⟩

/-- What is there is what would be read. -/
def fair (p : KV) : Prop := ∃ k : Int, p.1 = .int .u8 k ∧ wild k = false ∧ p.2 = k * 3
/-- How it is behind j readings. -/
def ThAt (w : World) (c mb a R j : Nat) (ns : List Nd) (wr : World) : Prop :=
  ∃ met miss x : Nat, CacheB wr c mb ns R met miss ∧ (∀ p ∈ kv ns, fair p) ∧ wr.cell? ⟨a, 0, none⟩ = some (.int .i64 (x : Int)) ∧ wr.frozen? ⟨a, 0, none⟩ = false ∧ a ∉ own c mb ns ∧ a < wr.heap.size ∧ x ≤ j ∧ met ≤ j ∧ miss ≤ j ∧ Below w.heap.size w wr ∧ (∀ k ∈ own c mb ns, w.heap.size ≤ k) ∧ w.heap.size ≤ a
theorem posL_get {k : Lit} : ∀ {l : List KV}, posL l k < l.length → ∃ v, l[posL l k]? = some (k, v)
  | [], h => by simp [posL] at h
  | p :: r, h => by
    unfold posL at h ⊢
    by_cases c : p.1.sameKey k = true
    · rw [if_pos c]; exact ⟨p.2, by rw [← WideAt.sameKey_eq c]; rfl⟩
    · rw [if_neg c] at h ⊢
      obtain ⟨v, hv⟩ := posL_get (l := r) (k := k) (by simpa using h)
      exact ⟨v, by simpa using hv⟩
theorem hasL_get {l : List KV} {k : Lit} (h : hasL l k = true) : ∃ v, l[posL l k]? = some (k, v) := posL_get (of_decide_eq_true h)
theorem has_cons (v : Int) (r : List KV) {k : Lit} (hk : WideAt.IsKeyLit k) : hasL ((k, v) :: r) k = true := by
  unfold hasL posL
  rw [if_pos (WideAt.sameKey_self hk)]
  simp
theorem getL_mem {l : List KV} {k : Lit} {p : KV} (h : p ∈ getL l k) : p ∈ l := by
  unfold getL at h
  split at h
  · rename_i x hx
    rcases List.mem_cons.1 h with e | e
    · subst e; exact List.mem_of_getElem? hx
    · exact List.mem_of_mem_eraseIdx e
  · exact h
theorem putL_mem {l : List KV} {R : Nat} {k : Lit} {v : Int} {p : KV} (h : p ∈ putL l R k v) : p = (k, v) ∨ p ∈ l := by
  unfold putL at h
  split at h
  · rcases List.mem_cons.1 h with e | e
    · exact .inl e
    · exact .inr (List.mem_of_mem_eraseIdx e)
  · split at h
    · rcases List.mem_cons.1 h with e | e
      · exact .inl e
      · exact .inr (List.mem_of_mem_eraseIdx e)
    · rcases List.mem_cons.1 h with e | e
      · exact .inl e
      · exact .inr e
theorem putL_has {l : List KV} {R : Nat} {k : Lit} {v : Int} (hk : WideAt.IsKeyLit k) : hasL (putL l R k v) k = true := by
  unfold putL
  split
  · exact has_cons _ _ hk
  · split <;> exact has_cons _ _ hk
theorem getL_has {l : List KV} {k : Lit} (hk : WideAt.IsKeyLit k) (h : hasL l k = true) : hasL (getL l k) k = true ∧ ∃ v, (k, v) ∈ l ∧ getV l k = v := by
  obtain ⟨v, hv⟩ := hasL_get h
  refine ⟨?_, v, List.mem_of_getElem? hv, ?_⟩
  · unfold getL; rw [hv]; exact has_cons _ _ hk
  · unfold getV; rw [hv]
/-- What the law's reading answers. -/
def readE (k : Int) : Ending := .returned (.tuple #[.int .i64 (if wild k then 0 else k * 3), .int .i64 (codeOf k)])
theorem block_set {w : World} {a : Nat} {v : Value} {k : Nat} (h : k ≠ a) : (w.setCell ⟨a, 0, none⟩ v).heap[k]? = w.heap[k]? := bl_set h
theorem th_step {w wr : World} {c mb a R j : Nat} {ns : List Nd} (h : ThAt w c mb a R j ns wr) (hj : j < 1000) (k : Int) (h0 : 0 ≤ k) (h1 : k < 256) (hk : (Lit.int .u8 k).wf = true) :
    Calls Try.prog 25 #[.pointer (some ⟨c, 0, none⟩), .int .u8 k, .func (.func 24) #[] #[.pointer (some ⟨a, 0, none⟩)]] wr fun e w' => e = readE k ∧ ∃ ns', ThAt w c mb a R (j + 1) ns' w' ∧ hasL (kv ns') (.int .u8 k) = !wild k := by
  obtain ⟨met, miss, x, C, F, hx, hz, ha, hal, l1, l2, l3, B, O, Ba⟩ := h
  have hS : ∀ {w1 : World} {ns1 : List Nd}, Stp c mb ns ns1 wr w1 → w1.cell? ⟨a, 0, none⟩ = some (.int .i64 (x : Int)) ∧ w1.frozen? ⟨a, 0, none⟩ = false ∧ a ∉ own c mb ns1 ∧ a < w1.heap.size ∧ Below w.heap.size w w1 ∧ (∀ k ∈ own c mb ns1, w.heap.size ≤ k) := fun {w1 ns1} S => by
    have hb := S.fr.block a hal ha
    refine ⟨(World.cell?_of_block (w := wr) hb).trans hx, (World.frozen?_of_block (w := wr) hb).trans hz, S.apart hal ha, Nat.lt_of_lt_of_le hal S.fr.size, B.trans (S.fr.below B.size O), fun k hk => ?_⟩
    rcases List.mem_cons.1 hk with e | hk
    · exact e ▸ O c own_c
    · rcases List.mem_cons.1 hk with e | hk
      · exact e ▸ O mb own_m
      · obtain ⟨n, hn, rfl⟩ := List.mem_map.1 hk
        rcases S.nw n hn with h | h
        · exact O _ (own_n h)
        · exact Nat.le_trans B.size h
  have hW : ∀ {w1 : World} {ns1 : List Nd} {m s : Nat}, CacheB w1 c mb ns1 R m s → a ∉ own c mb ns1 → CacheB (w1.setCell ⟨a, 0, none⟩ (.int .i64 ((x : Int) + 1))) c mb ns1 R m s := fun {w1 ns1 m s} C1 h => C1.same (by rw [sz_set]; exact Nat.le_refl _) (fun k hk => block_set (fun e => h (e ▸ hk)))
  have hset : ∀ {w1 : World} {ns1 : List Nd}, Stp c mb ns ns1 wr w1 → (w1.setCell ⟨a, 0, none⟩ (.int .i64 ((x : Int) + 1))).cell? ⟨a, 0, none⟩ = some (.int .i64 ((x + 1 : Nat) : Int)) ∧ (w1.setCell ⟨a, 0, none⟩ (.int .i64 ((x : Int) + 1))).frozen? ⟨a, 0, none⟩ = false ∧ a < (w1.setCell ⟨a, 0, none⟩ (.int .i64 ((x : Int) + 1))).heap.size ∧ Below w.heap.size w (w1.setCell ⟨a, 0, none⟩ (.int .i64 ((x : Int) + 1))) := fun {w1 ns1} S => by
    obtain ⟨s1, s2, s3, s4, s5, s6⟩ := hS S
    exact ⟨cs_same s1, fz_set.trans s2, by rw [sz_set]; exact s4, s5.setCell Ba _⟩
  refine (through_B24 C (by omega) (by omega) k hk a (thing k) (codeOf k) (fun w1 => w1.setCell ⟨a, 0, none⟩ (.int .i64 ((x : Int) + 1))) (fun w1 ns1 C1 S1 => ?_)).mono ?_
  · obtain ⟨s1, s2, s3, s4, s5, s6⟩ := hS S1
    exact ⟨read_any k h0 h1 a x w1 (by omega) s1 s2, hW C1 s3⟩
  · have kk : WideAt.IsKeyLit (.int .u8 k) := trivial
    rintro e w' (⟨hB, rfl, ns', hkv, C1, S1⟩ | ⟨hB, hc, rfl, w1, ns1, hkv, S1, C1, rfl⟩ | ⟨hB, hc, rfl, w1, ns1, ns', hkv1, S1, C1, hkv, S2⟩)
    · obtain ⟨g1, v, g2, g3⟩ := getL_has kk hB
      obtain ⟨k', e1, e2, e3⟩ := F _ g2
      injection e1 with _ e1
      subst e1
      obtain ⟨s1, s2, s3, s4, s5, s6⟩ := hS S1
      refine ⟨?_, ns', ⟨met + 1, miss, x, C1, fun p hp => F p (getL_mem (by rw [← hkv]; exact hp)), s1, s2, s3, s4, by omega, by omega, by omega, s5, s6, Ba⟩, by rw [hkv, g1, e2]; rfl⟩
      unfold readE codeOf
      rw [g3, e2]
      simp only [Bool.false_eq_true, if_false]
      rw [show v = k * 3 from e3]
    · have hw : wild k = true := by
        cases hq : wild k
        · exact absurd (by unfold codeOf; rw [hq]; rfl) hc
        · rfl
      obtain ⟨s1, s2, s3, s4, s5, s6⟩ := hS S1
      obtain ⟨t1, t2, t3, t4⟩ := hset S1
      refine ⟨by unfold readE; rw [hw]; rfl, ns1, ⟨met, miss + 1, x + 1, C1, fun p hp => F p (by rw [← hkv]; exact hp), t1, t2, s3, t3, by omega, by omega, by omega, t4, s6, Ba⟩, by rw [hkv, hB, hw]; rfl⟩
    · have hw : wild k = false := by
        cases hq : wild k
        · rfl
        · exact absurd hc (by unfold codeOf; rw [hq]; decide)
      obtain ⟨s1, s2, s3, s4, s5, s6⟩ := hS S1
      obtain ⟨t1, t2, t3, t4⟩ := hset S1
      have hb := S2.fr.block a t3 s3
      have hth : thing k = k * 3 := by unfold thing; rw [hw]; rfl
      refine ⟨by unfold readE codeOf; rw [hth, hw]; rfl, ns', ⟨met, miss + 1, x + 1, C1, fun p hp => ?_, (World.cell?_of_block (w := w1.setCell _ _) hb).trans t1, (World.frozen?_of_block (w := w1.setCell _ _) hb).trans t2, S2.apart t3 s3, Nat.lt_of_lt_of_le t3 S2.fr.size, by omega, by omega, by omega, t4.trans (S2.fr.below t4.size s6), fun q hq => ?_, Ba⟩, by rw [hkv, putL_has kk, hw]; rfl⟩
      · rw [hkv] at hp
        rcases putL_mem hp with e | e
        · subst e; exact ⟨k, rfl, hw, hth⟩
        · exact F p e
      · rcases List.mem_cons.1 hq with e | hq
        · exact e ▸ s6 c own_c
        · rcases List.mem_cons.1 hq with e | hq
          · exact e ▸ s6 mb own_m
          · obtain ⟨n, hn, rfl⟩ := List.mem_map.1 hq
            rcases S2.nw n hn with h | h
            · exact s6 _ (own_n h)
            · exact Nat.le_trans t4.size h
end Go.Proofs.Yticgpiipikneiaa
