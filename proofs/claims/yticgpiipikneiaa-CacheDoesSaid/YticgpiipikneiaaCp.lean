/- The reference's uses and puts: the walks. No condition. -/
import Derived.Test.YticgpiipikneiaaCo
import Derived.Deep.RegionHeld3
set_option linter.unusedSimpArgs false
set_option linter.unusedVariables false
namespace Go.Proofs.Yticgpiipikneiaa
open Go.ChangeShapes Go.WideShapes Go.RowKit Go.Mor Go.Cch Go.Maps

theorem owns_rd2 {w : World} {base : Nat} {e : TypeId} {A : Option Addr} {n c : Nat} {xs : List Value} (h : w.ownsRow base e 2 (.slice A n c) n xs) : Rd w A xs := by
  rcases h.2 with ⟨h2, rfl⟩ | ⟨g, cap, cur, hv, hb, hg, r⟩
  · exact .inl (List.eq_nil_of_length_eq_zero (by simpa using h.1))
  · injection hv with hv h3 h4
    subst hv
    exact .inr ⟨_, rfl, (Array.getElem?_eq_some_iff.1 hg).1, h.cells (g := g) rfl⟩
theorem own_one {w w2 : World} {B g : Nat} {u v : Value} {ty : TypeId} (hb : Below (w.alloc (.cells #[u, v] ty)).heap.size (w.alloc (.cells #[u, v] ty)) w2) (hB : B ≤ w.heap.size) (hg : g = w.heap.size) : w2.ownsRow B ty 2 (.slice (some ⟨g, 0, none⟩) 1 1) 1 [u, v] := by
  subst hg
  exact ⟨rfl, .inr ⟨w.heap.size, 1, #[u, v], rfl, hB, (hb.block _ (by simp)).trans (heap_alloc_new w _), Nat.le_refl _, by decide, rfl, rfl⟩⟩
set_option maxRecDepth 100000 in
theorem use_any (A : Option Addr) (n c : Nat) (l : List It) (a : Nat) (p : It) (hp : l[a]? = some p) (w : World) (hl : l.length = n) (hm : n ≤ 1000) (hA : Itm w A l) :
    Calls Try.prog 14 #[.slice A n c, .int .i64 (a : Int)] w (OutPost40 w (p :: l.eraseIdx a)) := by
  obtain ⟨b, off, rfl, hbw, hc, hc2⟩ := hA.at hp
  have hld := item_load hc hc2
  have hlt := (List.getElem?_eq_some_iff.1 hp).1
  rw [hl] at hlt
  have hi0 : (0 : Int) ≤ (a : Int) := by omega
  have hi2 : (a : Int) < (n : Int) := by omega
  obtain ⟨i0, hi, hz0, hz1, hz2⟩ := info_parts info37
  have HL := hid hl
  have HA := hid hA
  clear hl hA hp
  go_enter Try.func14, Try.ntmps14
  go_wp2_with fail
  have B1 : Hid (Below w.heap.size w (w.alloc (Obj.cells #[Value.int IntKind.i64 p.fst, Value.int IntKind.i64 p.snd] 37))) := hid ((Below.refl _ _).alloc (Nat.le_refl _) _)
  refine (without_any _ n c l (some a) _ HL.out hm (HA.out.keep B1.out)).mono ?_
  rintro e w2 ⟨A2, c2, rfl, hb2, hown2⟩
  have hlen : (wo l (some a)).length + 1 = n := by rw [wo_some, ← HL.out]; exact erase_len (by rw [HL.out]; exact hlt)
  obtain ⟨m, hmm⟩ : ∃ m, (wo l (some a)).length = m := ⟨_, rfl⟩
  rw [hmm] at hown2 hlen ⊢
  have R2 := hid (owns_rd2 hown2)
  have O2 := hid (own_one (w := w) (ty := 37) hb2 (Nat.le_refl _) rfl)
  have HI := hid (its_len (wo l (some a)))
  rw [hmm] at HI
  obtain ⟨d, bs, rfl⟩ := ext_of_below (B1.out.trans (hb2.mono B1.out.size))
  clear hb2 hown2 B1 hld
  go_wp2_with (at_builtin; refine wpList_append_ext rfl _ _ 28 rfl w ?hw 37 i0 (.agg #[.int .i64 0, .int .i64 0]) 2 16 under28 hi hz0 hz1 hz2 rfl (by decide) _ 1 [.int .i64 p.1, .int .i64 p.2] rfl ?own A2 m c2 (its (wo l (some a))) rfl ?hr ?hl ?ho ?h63 ?hb ?_)
  case hw => exact below_ext _ _ _
  case own => exact O2.out
  case hr => exact R2.out
  case hl => exact HI.out
  case ho => exact its_one _
  case h63 => unfold maxLen; omega
  case hb => omega
  intro A3 c3 d3 bs3 hown3
  have HO := hid hown3
  clear hown3 R2 O2 HI
  go_wp2
  go_ret
  have hlen2 : (p :: l.eraseIdx a).length = 1 + m := by rw [List.length_cons, ← hmm, wo_some]; omega
  refine ⟨A3, c3, by rw [hlen2]; rfl, below_ext _ _ _, ?_⟩
  rw [hlen2]
  exact HO.out
def putI (l : List It) (room : Nat) (k v : Int) : List It :=
  if fi l k < l.length then (k, v) :: l.eraseIdx (fi l k) else if l.length < room then (k, v) :: l else (k, v) :: l.take (l.length - 1)
def PutRPost (w : World) (l : List It) (g : Int) (t : Bool) (e : Ending) (w' : World) : Prop :=
  ∃ A c, e = .returned (.tuple #[.slice A l.length c, .int .i64 g, .bool t]) ∧ Below w.heap.size w w' ∧ w'.ownsRow w.heap.size 37 2 (.slice A l.length c) l.length (its l)
set_option maxRecDepth 100000 in
theorem putR_old (A : Option Addr) (n c room : Nat) (l : List It) (k v : Int) (hf : fi l k < l.length) (w : World) (hl : l.length = n) (hm : n ≤ 1000) (hA : Itm w A l) :
    Calls Try.prog 12 #[.slice A n c, .int .i64 (room : Int), .agg #[.int .i64 k, .int .i64 v]] w (PutRPost w ((k, v) :: l.eraseIdx (fi l k)) 0 false) := by
  obtain ⟨i0, hi, hz0, hz1, hz2⟩ := info_parts info37
  have HL := hid hl
  have HA := hid hA
  have HF : Hid (find l k = (fi l k : Int)) := hid (by unfold find; rw [if_pos hf])
  have HT := hid hf
  clear hl hA hf
  go_enter Try.func12, Try.ntmps12
  go_wp2_with fail
  refine (find_any _ n c l k _ HL.out hm (HA.out.keep ((Below.refl _ _).alloc (Nat.le_refl _) _))).mono ?_
  rintro e w1 ⟨rfl, rfl⟩
  rw [HF.out]
  go_wp2_with fail
  have B0 : Hid (Below w.heap.size w (w.alloc (Obj.cells #[Value.int IntKind.i64 k, Value.int IntKind.i64 v] 37))) := hid ((Below.refl _ _).alloc (Nat.le_refl _) _)
  have B1 : Hid (Below w.heap.size w ((w.alloc (Obj.cells #[Value.int IntKind.i64 k, Value.int IntKind.i64 v] 37)).alloc (Obj.cells #[Value.int IntKind.i64 k, Value.int IntKind.i64 v] 37))) := hid (B0.out.alloc B0.out.size _)
  refine (without_any _ n c l (some (fi l k)) _ HL.out hm (HA.out.keep B1.out)).mono ?_
  rintro e w2 ⟨A2, c2, rfl, hb2, hown2⟩
  have hlen : (wo l (some (fi l k))).length + 1 = n := by rw [wo_some, ← HL.out]; exact erase_len HT.out
  obtain ⟨m, hmm⟩ : ∃ m, (wo l (some (fi l k))).length = m := ⟨_, rfl⟩
  rw [hmm] at hown2 hlen ⊢
  have R2 := hid (owns_rd2 hown2)
  have O2 := hid (own_one (w := w.alloc _) (g := w.heap.size + 1) (ty := 37) hb2 B0.out.size (by simp))
  have HI := hid (its_len (wo l (some (fi l k))))
  rw [hmm] at HI
  obtain ⟨d, bs, rfl⟩ := ext_of_below (B1.out.trans (hb2.mono B1.out.size))
  clear hb2 hown2 B1 B0
  go_wp2_with (at_builtin; refine wpList_append_ext rfl _ _ 28 rfl w ?hw 37 i0 (.agg #[.int .i64 0, .int .i64 0]) 2 16 under28 hi hz0 hz1 hz2 rfl (by decide) _ 1 [.int .i64 k, .int .i64 v] rfl ?own A2 m c2 (its (wo l (some (fi l k)))) rfl ?hr ?hl ?ho ?h63 ?hb ?_)
  case hw => exact below_ext _ _ _
  case own => exact O2.out
  case hr => exact R2.out
  case hl => exact HI.out
  case ho => exact its_one _
  case h63 => unfold maxLen; omega
  case hb => omega
  intro A3 c3 d3 bs3 hown3
  have HO := hid hown3
  clear hown3 R2 O2 HI
  go_wp2
  go_ret3
  have hlen2 : ((k, v) :: l.eraseIdx (fi l k)).length = 1 + m := by rw [List.length_cons, ← hmm, wo_some]; omega
  refine ⟨A3, c3, by rw [hlen2]; rfl, below_ext _ _ _, ?_⟩
  rw [hlen2]
  exact HO.out
theorem Itm.rd {w : World} {A : Option Addr} {l : List It} (h : Itm w A l) : Rd w A (its l) := by
  rcases h with rfl | ⟨b, off, h1, h2, h3⟩
  · exact .inl rfl
  · refine .inr ⟨_, h1, h2, fun j u hj => ?_⟩
    rw [Addr.add_lit]
    clear h1 h2
    induction l generalizing off j with
    | nil => simp [its] at hj
    | cons p r ih =>
      match j, hj with
      | 0, hj => simp [its] at hj; subst hj; exact (h3 0 p rfl).1
      | 1, hj => simp [its] at hj; subst hj; exact (h3 0 p rfl).2
      | j + 2, hj =>
        have hj : (its r)[j]? = some u := by simpa [its] using hj
        have := ih (off + 2) (fun i q hq => by
          have := h3 (i + 1) q (by simpa using hq)
          rw [show off + (i + 1) * 2 = off + 2 + i * 2 by omega] at this
          exact this) j hj
        rw [show off + (j + 2) = off + 2 + j by omega]
        exact this
theorem take_get {l : List It} {m j : Nat} {q : It} (h : (l.take m)[j]? = some q) : l[j]? = some q := by
  rw [List.getElem?_take] at h
  split at h
  · exact h
  · cases h
theorem find_no {l : List It} {k : Int} (h : ¬ fi l k < l.length) : find l k = -1 := by unfold find; rw [if_neg h]
set_option maxRecDepth 100000 in
theorem putR_more (A : Option Addr) (n c room : Nat) (l : List It) (k v : Int) (hf : ¬ fi l k < l.length) (hr : n < room) (w : World) (hl : l.length = n) (hm : n ≤ 1000) (hA : Itm w A l) :
    Calls Try.prog 12 #[.slice A n c, .int .i64 (room : Int), .agg #[.int .i64 k, .int .i64 v]] w (PutRPost w ((k, v) :: l) 0 false) := by
  obtain ⟨i0, hi, hz0, hz1, hz2⟩ := info_parts info37
  have HL := hid hl
  have HA := hid hA
  have HF := hid (find_no hf)
  have hr1 : (n : Int) < (room : Int) := by omega
  have HI := hid (its_len l)
  rw [hl] at HI
  clear hl hA hf
  go_enter Try.func12, Try.ntmps12
  go_wp2_with fail
  have B0 : Hid (Below w.heap.size w (w.alloc (Obj.cells #[Value.int IntKind.i64 k, Value.int IntKind.i64 v] 37))) := hid ((Below.refl _ _).alloc (Nat.le_refl _) _)
  have B1 : Hid (Below w.heap.size w ((w.alloc (Obj.cells #[Value.int IntKind.i64 k, Value.int IntKind.i64 v] 37)).alloc (Obj.cells #[Value.int IntKind.i64 k, Value.int IntKind.i64 v] 37))) := hid (B0.out.alloc B0.out.size _)
  refine (find_any _ n c l k _ HL.out hm (HA.out.keep B0.out)).mono ?_
  rintro e w1 ⟨rfl, rfl⟩
  rw [HF.out]
  go_wp2_with (at_builtin; refine wpList_append_ext rfl _ _ 28 rfl w ?hw 37 i0 (.agg #[.int .i64 0, .int .i64 0]) 2 16 under28 hi hz0 hz1 hz2 rfl (by decide) _ 1 [.int .i64 k, .int .i64 v] rfl ?own A n c (its l) rfl ?hr ?hl ?ho ?h63 ?hb ?_)
  case hw => exact B1.out
  case own => exact own_one (w := w.alloc _) (g := w.heap.size + 1) (ty := 37) (Below.refl _ _) B0.out.size (by simp)
  case hr => exact (HA.out.keep B1.out).rd
  case hl => exact HI.out
  case ho => exact its_one _
  case h63 => unfold maxLen; omega
  case hb => omega
  intro A3 c3 d3 bs3 hown3
  have HO := hid hown3
  clear hown3 HI B0 B1
  go_wp2
  go_ret3
  have hlen2 : ((k, v) :: l).length = 1 + n := by rw [List.length_cons, HL.out]; omega
  refine ⟨A3, c3, by rw [hlen2]; rfl, below_ext _ _ _, ?_⟩
  rw [hlen2]
  exact HO.out
set_option maxRecDepth 100000 in
set_option maxHeartbeats 4000000 in
theorem putR_full (A : Option Addr) (n c room : Nat) (l : List It) (k v : Int) (hf : ¬ fi l k < l.length) (hr : ¬ n < room) (h0 : 0 < n) (w : World) (hl : l.length = n) (hm : n ≤ 1000) (hA : Itm w A l) {p : It} (hp : l[n - 1]? = some p) (hc : n ≤ c) :
    Calls Try.prog 12 #[.slice A n c, .int .i64 (room : Int), .agg #[.int .i64 k, .int .i64 v]] w (PutRPost w ((k, v) :: l.take (n - 1)) p.1 true) := by
  obtain ⟨i0, hi, hz0, hz1, hz2⟩ := info_parts info37
  obtain ⟨b, off, rfl, hbw, hc1, hc2⟩ := hA.at hp
  have HL := hid hl
  have HA := hid hA
  have HF := hid (find_no hf)
  have hr1 : ¬ (n : Int) < (room : Int) := by omega
  obtain ⟨m, rfl⟩ : ∃ m, n = m + 1 := ⟨n - 1, by omega⟩
  have HA2 : Hid (Itm w (some ⟨b, off, none⟩) (l.take m)) := hid (by
    rcases hA with h | ⟨b2, off2, h1, h2, h3⟩
    · subst h; simp at hl
    · exact .inr ⟨b2, off2, h1, h2, fun j q hq => h3 j q (take_get hq)⟩)
  have HI := hid (its_len (l.take m))
  rw [List.length_take, hl, Nat.min_eq_left (Nat.le_succ m)] at HI
  have hi0 : (0 : Int) ≤ (m : Int) := by omega
  have hi2 : (m : Int) < (m : Int) + 1 := by omega
  have hwm : IntKind.i64.wrap (m : Int) = (m : Int) := IntWalk.i64_in _ (by omega)
  have hcm : (m : Int) ≤ (c : Int) := by omega
  rw [Nat.add_sub_cancel] at hc1 hc2 ⊢
  clear hl hA hf hp
  go_enter Try.func12, Try.ntmps12
  go_wp2_with fail
  have B0 : Hid (Below w.heap.size w (w.alloc (Obj.cells #[Value.int IntKind.i64 k, Value.int IntKind.i64 v] 37))) := hid ((Below.refl _ _).alloc (Nat.le_refl _) _)
  have B1 : Hid (Below w.heap.size w ((w.alloc (Obj.cells #[Value.int IntKind.i64 k, Value.int IntKind.i64 v] 37)).alloc (Obj.cells #[Value.int IntKind.i64 k, Value.int IntKind.i64 v] 37))) := hid (B0.out.alloc B0.out.size _)
  refine (find_any _ (m + 1) c l k _ HL.out hm (HA.out.keep B0.out)).mono ?_
  rintro e w1 ⟨rfl, rfl⟩
  rw [HF.out]
  go_wp2_with fail
  have B1 : Hid (Below w.heap.size w ((w.alloc (Obj.cells #[Value.int IntKind.i64 k, Value.int IntKind.i64 v] 37)).alloc (Obj.cells #[Value.int IntKind.i64 k, Value.int IntKind.i64 v] 37)).drew) := hid B1.out.drew
  have O2 : Hid (((w.alloc (Obj.cells #[Value.int IntKind.i64 k, Value.int IntKind.i64 v] 37)).alloc (Obj.cells #[Value.int IntKind.i64 k, Value.int IntKind.i64 v] 37)).drew.ownsRow w.heap.size 37 2 (.slice (some ⟨w.heap.size + 1, 0, none⟩) 1 1) 1 [.int .i64 k, .int .i64 v]) := hid (own_one (w := w.alloc _) (g := w.heap.size + 1) (ty := 37) (Below.refl _ _).drew B0.out.size (by simp))
  have HR := hid (HA2.out.keep B1.out).rd
  have H63 : Hid (1 + m ≤ maxLen) := hid (by unfold maxLen; omega)
  have H64 : Hid ((1 + m) * 16 ≤ 140737488355328) := hid (by omega)
  have H65 : Hid (((k, v) :: l.take m).length = 1 + m) := hid (by rw [List.length_cons, List.length_take, HL.out, Nat.min_eq_left (Nat.le_succ m)]; omega)
  clear HL HA HF B0
  have hS0 : ((w.alloc (Obj.cells #[Value.int IntKind.i64 k, Value.int IntKind.i64 v] 37)).alloc (Obj.cells #[Value.int IntKind.i64 k, Value.int IntKind.i64 v] 37)).drew.cell? ⟨b, off + m * 2, none⟩ = some (.int .i64 p.1) := (B1.out.cell (by exact within_lt hbw)).trans hc1
  have hS1 := fun d bs => (cell?_ext w d bs (i := off + m * 2) hbw).trans hc1
  have hS1 := hid hS1
  go_region_held3 (fun w' => w'.cell? ⟨b, off + m * 2, none⟩ = some (.int .i64 p.1)) (first | exact hS0 | exact hS1.out _ _) (first | (refine step_append_ext rfl _ _ 28 rfl w B1.out 37 i0 (.agg #[.int .i64 0, .int .i64 0]) 2 16 under28 hi hz0 hz1 hz2 rfl (by decide) _ 1 [.int .i64 k, .int .i64 v] rfl O2.out _ m _ (its (l.take m)) rfl HR.out HI.out (its_one _) H63.out H64.out ?_; intro A3 c3 d3 bs3 hown3; have HO3 := hid hown3; clear hown3))
  all_goals
    go_wp2
    go_ret3
    refine ⟨A3, c3, by rw [H65.out]; rfl, below_ext _ _ _, ?_⟩
    rw [H65.out]
    exact HO3.out
end Go.Proofs.Yticgpiipikneiaa
