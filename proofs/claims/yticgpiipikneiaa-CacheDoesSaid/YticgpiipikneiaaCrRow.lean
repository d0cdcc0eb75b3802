/- For every uint8 and every slice of acts CacheDoes returns true, and its arguments read as they did. No condition. -/
import Derived.Test.YticgpiipikneiaaCr
import Derived.Test.YticgpiipikneiaaRows
import Derived.ProofKit
import Derived.OpenShut
import Derived.ShutString
import Derived.ChangeOld
import Derived.Below
import Derived.SliceStrings
import Derived.ChangeSlices
import Derived.WideShapes
import Derived.Deep.Slices
set_option linter.unusedSimpArgs false
set_option linter.unusedVariables false
namespace Go.Proofs.Yticgpiipikneiaa.cacheDoesDone
open Go.ChangeShapes Go.WideShapes Go.RowKit Go.Mor

theorem own : ownKnob Try.prog.godebug = none := by kernel_rfl
theorem laidOut : laidOutB Try.prog = true := by kernel_rfl
theorem byte_range {n : Int} (h : (Lit.int .u8 n).wf = true) : 0 ≤ n ∧ n < 256 := by
  have h : decide (IntKind.u8.min ≤ n) = true ∧ decide (n ≤ IntKind.u8.max) = true := by simpa [Lit.wf] using h
  have h1 := of_decide_eq_true h.1
  have h2 := of_decide_eq_true h.2
  have e1 : IntKind.u8.min = 0 := by decide
  have e2 : IntKind.u8.max = 255 := by decide
  rw [e1] at h1; rw [e2] at h2
  omega
/-- The three fields of an act. -/
theorem fields30 : ∃ f0 f1 f2 : Field, Try.prog.underlying 30 = some (.struct #[f0, f1, f2]) ∧ f0.offset = 0 ∧ f1.offset = 1 ∧ f2.offset = 2 ∧ f0.type = 3 ∧ f1.type = 3 ∧ f2.type = 3 :=
  ⟨_, _, _, Try.underlying30, rfl, rfl, rfl, rfl, rfl, rfl⟩
theorem cells30 : Try.prog.cellsOf 30 = 3 := by kernel_rfl
theorem cells3 : Try.prog.cellsOf 3 = 1 := by kernel_rfl
theorem under22 : Try.prog.underlying 22 = some (.slice 30) := by kernel_rfl
section
variable {H : Type} {enc : TypeId × Value → H} {w : World}
set_option maxRecDepth 100000 in
theorem open_ops {r : Reach} {b0 : Nat} {v : Value} {d : DataW H} {ps : List MemPlace} (hval : Value.okWide Try.prog w r b0 22 v) (h : DataW.Trod enc Try.prog w 0 (fun _ => true) true 22 v d ps) :
    ∃ A n c l, v = .slice A n c ∧ l.length = n ∧ n ≤ maxLen ∧ Ops w A l ∧ ∀ x ∈ l, wfO x := by
  obtain ⟨A, n, c, rfl⟩ := okWide_slice under22 hval
  obtain ⟨fuel, h⟩ := h
  rcases Deep.open_slice under22 h with ⟨h0, _⟩ | ⟨a, len, cap, m, k, D, Pl, h0, hb, hl, hm, hmm, _, hx⟩
  · simp [Value.cells] at h0
    obtain ⟨rfl, rfl, rfl⟩ := h0
    exact ⟨none, 0, 0, [], rfl, rfl, Nat.zero_le _, .inl rfl, fun x hx => by cases hx⟩
  · simp [Value.cells] at h0
    obtain ⟨rfl, rfl, rfl⟩ := h0
    have hmn : n ≤ m := by rw [hmm]; simp; omega
    obtain ⟨f0, f1, f2, hu, o0, o1, o2, t0, t1, t2⟩ := fields30
    have each : ∀ i, i < m → ∃ x : Oq, (w.cell? (a.add (i * 3)) = some (.int .i64 x.1) ∧ w.cell? (a.add (i * 3 + 1)) = some (.int .i64 x.2.1) ∧ w.cell? (a.add (i * 3 + 2)) = some (.int .i64 x.2.2)) ∧ wfO x := fun i hi => by
      obtain ⟨cs', g1, g2⟩ := hx i hi
      rw [cells30] at g1
      obtain ⟨_, hlen, hcell⟩ := World.cells?_some g1
      obtain ⟨xs, q, _, _, _, hxl, hf⟩ := DataW.trod_struct hu g2
      match xs, hxl, cs', hlen with
      | [y0, y1, y2], _, [v0, v1, v2], _ =>
        have e0 := hf 0 f0 rfl
        have e1 := hf 1 f1 rfl
        have e2 := hf 2 f2 rfl
        simp [o0, o1, o2, t0, t1, t2, cells3] at e0 e1 e2
        obtain ⟨x0, c0, _, w0⟩ := DataW.trod_int Try.underlying3 e0
        obtain ⟨x1, c1, _, w1⟩ := DataW.trod_int Try.underlying3 e1
        obtain ⟨x2, c2, _, w2⟩ := DataW.trod_int Try.underlying3 e2
        have k0 := hcell 0 (by omega)
        have k1 := hcell 1 (by omega)
        have k2 := hcell 2 (by omega)
        rw [Deep.add_add] at k0 k1 k2
        simp at c0 c1 c2
        subst c0; subst c1; subst c2
        exact ⟨(x0, x1, x2), ⟨by simpa using k0, by simpa using k1, by simpa using k2⟩, w0, w1, w2⟩
    obtain ⟨f, hf⟩ := Deep.choose_lt each
    refine ⟨some a, n, c, (List.range n).map f, rfl, by simp, by omega, ?_, fun x hx => ?_⟩
    · by_cases h0 : n = 0
      · subst h0; exact .inl (by simp)
      · have h1 := (hf 0 (by omega)).1.1
        have hbl : a.block < w.heap.size := by
          have := World.block_lt_of_cell? w _ h1
          unfold Addr.add at this
          split at this <;> exact this
        obtain ⟨b, off, spot⟩ := a
        have hsp : spot = none := by simpa [Addr.add] using World.cell?_spot h1
        subst hsp
        refine .inr ⟨b, off, rfl, hbl, fun j u hj => ?_⟩
        rw [List.getElem?_map] at hj
        have hjn : j < n := by
          rcases Nat.lt_or_ge j n with c | c
          · exact c
          · rw [List.getElem?_eq_none (by simpa using c)] at hj; cases hj
        rw [List.getElem?_range hjn] at hj
        injection hj with hj
        subst hj
        have := (hf j (by omega)).1
        rw [Addr.add_lit, Addr.add_lit, Addr.add_lit] at this
        exact this
    · obtain ⟨i, hi, rfl⟩ := List.mem_map.1 hx
      exact (hf i (by have := List.mem_range.1 hi; omega)).2
end
set_option maxRecDepth 100000 in
theorem lifted (os : Os) (started : os.Started) (H : Type) (enc : TypeId × Value → H) :
    ReturnsInHanded {} Try.checked os 3 .any (Rows.cacheDoesSpec.pre6 enc Try.prog Try.f3 Rows.cacheDoesRow.domain false) (Rows.cacheDoesSpec.post enc Try.prog Try.f3 false true false false) := by
  refine returnsInHanded_of_change (C := Try.checked) own started (by kernel_rfl) Try.func3
    (ChangeSpec.witness6 (enc := enc) (C := Try.checked) false ⟨#[], #[.int .u8 0, .slice none 0 0], []⟩ 8 (by kernel_rfl) (by kernel_rfl) (by kernel_rfl) (by kernel_rfl)) ?_
  intro W base args ds gs before hval0 hW hcnd _
  have hval : ∀ (j : Nat) t v, Try.f3.params[j]? = some t → args[j]? = some v → Value.okWide Try.prog W .any base t v := hval0
  have hW' := hW
  obtain ⟨p, q, hA0, hV, rfl, hfz, hnd⟩ := hW
  have hA : DataW.TrodAll enc Try.prog W 0 (fun _ => true) true Try.f3.params.toList args.toList ds p := hA0
  rw [Try.params3] at hA hval
  obtain ⟨v0, vs0, d0, ds0, p0, q0, hargs, rfl, rfl, h0, r0⟩ := trodAll_cons hA
  obtain ⟨v1, vs1, d1, ds1, p1, q1, rfl, rfl, rfl, h1, r1⟩ := trodAll_cons r0
  obtain ⟨rfl, rfl, rfl⟩ := trodAll_nil r1
  obtain rfl : args = #[v0, v1] := by cases args; simp_all
  obtain ⟨rfl, rfl⟩ := trodVars_none hV
  obtain ⟨r, rfl, rfl, rfl, w0⟩ := open_int Try.underlying5 (hval 0 5 v0 rfl rfl) h0
  obtain ⟨r0', r1'⟩ := byte_range w0
  obtain ⟨r, rfl⟩ : ∃ m : Nat, r = (m : Int) := ⟨r.toNat, by omega⟩
  have k1 := h1
  have lt1 : ∀ x ∈ p1, x.block < W.heap.size := by obtain ⟨m, hm⟩ := k1; exact DataW.trod_lt m _ _ _ hm
  obtain ⟨A, n, c, l, rfl, e1, m1, us1, fi1⟩ := open_ops (hval 1 22 v1 rfl rfl) h1
  clear hA0 hval0
  refine (cacheDoes_walk r (by omega) A n c l W e1 m1 us1 fi1).mono fun e W' ⟨he, bel⟩ => ?_
  subst he
  exact ⟨_, rfl, _, _, _, [], _, [], hW', trodAll_mk1 (shut_bool Try.underlying4 _), (trodAll_cons_mk (shut_int Try.underlying5 w0) (trodAll_cons_mk (Below.trod laidOut (by kernel_rfl) (of_decide_eq_true (by kernel_rfl)) k1 bel lt1) trodAll_mk0)), rfl, bel.frame _, fun h => by cases h⟩

theorem over : Rows.cacheDoesRow.holds Try.pinned (OpenSpec.ofChange Rows.cacheDoesSpec) :=
  OpenClaim.holds_of_wide 3 Try.f3 rfl rfl rfl rfl rfl rfl rfl ⟨rfl, rfl, rfl, rfl, rfl⟩ rfl rfl rfl rfl rfl (by kernel_rfl) Try.func3 (by kernel_rfl)
    (of_decide_eq_true (by kernel_rfl)) (by unfold Func.isWrapper; first | (rw [if_pos (by decide +kernel)]; kernel_rfl) | (rw [if_neg (by decide +kernel)]; exact ⟨rfl, rfl⟩))
    (fun os started H enc _ => lifted os started H enc)

theorem proved : Rows.CacheDoesSaid := over
#print axioms proved
end Go.Proofs.Yticgpiipikneiaa.cacheDoesDone
