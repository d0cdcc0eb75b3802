/- How a clip and a class that come in are read. -/
import Derived.Test.YticgpiipikneiaaKk
import Derived.ProofKit
import Derived.OpenShut
import Derived.ShutString
import Derived.ChangeOld
import Derived.Below
import Derived.SliceStrings
set_option linter.unusedSimpArgs false
set_option linter.unusedVariables false
namespace Go.Proofs.Yticgpiipikneiaa
open Go.ChangeShapes Go.WideShapes Go.RowKit Go.Mor

theorem drop_take_one {l : List Value} {i : Nat} {v : Value} (h : (l.drop i).take 1 = [v]) : l[i]? = some v := by
  have : ((l.drop i).take 1)[0]? = some v := by rw [h]; rfl
  simpa using this

section
variable {H : Type} {enc : TypeId × Value → H} {P : Program} {w : World} {base : Nat} {spare : Nat → Bool} {held : Bool} {fuel : Nat} {t : TypeId} {cs : List Value} {x : DataW H × List MemPlace}
theorem trod_int {k : IntKind} (ht : P.underlying t = some (.int k)) (h : DataW.trod enc P w base spare held fuel t cs = some x) : ∃ n, cs = [.int k n] ∧ (Lit.int k n).wf = true := by
  cases fuel with
  | zero => simp [DataW.trod] at h
  | succ m =>
    unfold DataW.trod at h
    rw [ht] at h
    split at h <;> simp_all
theorem trod_bool (ht : P.underlying t = some .bool) (h : DataW.trod enc P w base spare held fuel t cs = some x) : ∃ b, cs = [.bool b] := by
  cases fuel with
  | zero => simp [DataW.trod] at h
  | succ m =>
    unfold DataW.trod at h
    rw [ht] at h
    split at h <;> simp_all
theorem trod_string (ht : P.underlying t = some .string) (h : DataW.trod enc P w base spare held fuel t cs = some x) : ∃ s, cs = [.string s] ∧ s.size ≤ maxLen := by
  cases fuel with
  | zero => simp [DataW.trod] at h
  | succ m =>
    unfold DataW.trod at h
    rw [ht] at h
    split at h <;> simp_all
end

/-- All that is known of a clip that came in. -/
def ClipIn (w : World) (cs : Array Value) (cls created event : Int) (fired : Bool) (ha : Option Addr) (hl hc : Nat) (l : List ByteArray) (note : ByteArray) (ta : Option Addr) (tl tc : Nat) (z : List Int) (addr : List Int) : Prop :=
  IsClip cs cls created event fired ha hl hc note ta tl tc ∧ cs.extract 0 32 = ints .u8 addr ∧ (addr.length == 32) = true ∧ l.length = hl ∧ hl ≤ maxLen ∧ Rd w ha (strV l) ∧ (ha = none → hl = 0) ∧ z.length = tl ∧ tl ≤ maxLen ∧ intsAt w ta z

section
variable {H : Type} {enc : TypeId × Value → H} {w : World} {fuel : Nat} {x : DataW H × List MemPlace}
theorem open_holds {cs : List Value} (h : DataW.trod enc Try.prog w 0 (fun _ => true) true fuel 57 cs = some x) :
    ∃ a len cap l, cs = [.slice a len cap] ∧ l.length = len ∧ len ≤ maxLen ∧ Rd w a (strV l) ∧ (a = none → len = 0) := by
  rcases open_strings Try.underlying57 Try.underlying9 (by kernel_rfl) h with ⟨rfl, _⟩ | ⟨a, len, cap, ss, rfl, _, hl, hm, hz, _, hcell, _⟩
  · exact ⟨none, 0, 0, [], rfl, rfl, Nat.zero_le _, .inl rfl, fun _ => rfl⟩
  · have hz' : ss.length = cap := by simpa using hz
    refine ⟨some a, len, cap, ss.take len, rfl, by simp; omega, by omega, ?_, fun h => by cases h⟩
    by_cases h0 : len = 0
    · subst h0; exact .inl (by simp [strV])
    · have hb : a.block < w.heap.size := by
        have := hcell 0 (by omega)
        have := World.block_lt_of_cell? w _ this
        rwa [add_block] at this
      refine .inr ⟨a, rfl, hb, fun j u hj => ?_⟩
      have hlt : j < (ss.take len).length := by
        have := (List.getElem?_eq_some_iff.1 hj).1
        simpa [strV] using this
      have hlt2 : j < ss.length := by simp at hlt; omega
      rw [hcell j hlt2, ← hj, strV, List.getElem?_map, List.getElem?_take, if_pos (by simp at hlt; omega), List.getElem?_eq_getElem hlt2]
      simp [List.getD, hlt2]
theorem open_texts {cs : List Value} (h : DataW.trod enc Try.prog w 0 (fun _ => true) true fuel 41 cs = some x) :
    ∃ a len cap z, cs = [.slice a len cap] ∧ z.length = len ∧ len ≤ maxLen ∧ intsAt w a z := by
  rcases open_ints Try.underlying41 Try.underlying3 (by kernel_rfl) h with ⟨rfl, _⟩ | ⟨a, len, cap, zs, rfl, _, hl, hm, hz, _, hcell, _⟩
  · exact ⟨none, 0, 0, [], rfl, rfl, Nat.zero_le _, .inl rfl⟩
  · have hz' : zs.length = cap := by simpa using hz
    refine ⟨some a, len, cap, zs.take len, rfl, by simp; omega, by omega, ?_⟩
    by_cases h0 : len = 0
    · subst h0; exact .inl (by simp)
    · have h1 := hcell 0 (by omega)
      have hb : a.block < w.heap.size := by
        have := World.block_lt_of_cell? w _ h1
        rwa [add_block] at this
      obtain ⟨b, off, spot⟩ := a
      have hsp : spot = none := by simpa [Addr.add] using World.cell?_spot h1
      subst hsp
      refine .inr ⟨b, off, rfl, hb, fun j u hj => ?_⟩
      have hlt : j < (zs.take len).length := (List.getElem?_eq_some_iff.1 hj).1
      have hlt2 : j < zs.length := by simp at hlt; omega
      have := hcell j hlt2
      rw [Addr.add_lit] at this
      rw [this]
      rw [List.getElem?_take, if_pos (by simp at hlt; omega), List.getElem?_eq_getElem hlt2] at hj
      injection hj with hj
      simp [List.getD, hlt2, hj]
theorem open_addr {cs : List Value} (h : DataW.trod enc Try.prog w 0 (fun _ => true) true fuel 56 cs = some x) :
    ∃ addr : List Int, cs = addr.map (Value.int .u8) ∧ addr.length = 32 := by
  obtain ⟨xs, m, rfl, rfl, hlen, hxs, hel⟩ := DataW.trod_array Try.underlying56 h
  have hc : Try.prog.cellsOf 56 = 32 := by kernel_rfl
  have hc5 : Try.prog.cellsOf 5 = 1 := by kernel_rfl
  rw [hc] at hlen
  have key : ∀ i, i < 32 → ∃ n, cs[i]? = some (.int .u8 n) := by
    intro i hi
    have h1 := hel i hi
    rw [hc5, Nat.mul_one, List.getElem?_eq_getElem (by omega)] at h1
    obtain ⟨n, hn, _⟩ := trod_int Try.underlying5 h1
    exact ⟨n, drop_take_one hn⟩
  refine ⟨cs.map (fun v => match v with | .int _ n => n | _ => 0), ?_, by simpa using hlen⟩
  apply List.ext_getElem?
  intro i
  by_cases hi : i < 32
  · obtain ⟨n, hn⟩ := key i hi
    simp [hn]
  · rw [List.getElem?_eq_none (by omega), List.getElem?_eq_none (by simp; omega)]

set_option maxRecDepth 100000 in
theorem open_clip {r : Reach} {b0 : Nat} {v : Value} {d : DataW H} {ps : List MemPlace} (hval : Value.okWide Try.prog w r b0 59 v) (h : DataW.Trod enc Try.prog w 0 (fun _ => true) true 59 v d ps) :
    ∃ cs cls created event fired ha hl hc l note ta tl tc z addr, v = .agg cs ∧ ClipIn w cs cls created event fired ha hl hc l note ta tl tc z addr := by
  have hu : Try.prog.underlying 59 = _ := Try.underlying59
  simp only [Value.okWide, hu] at hval
  obtain ⟨cs, rfl, hsz, _⟩ := hval
  obtain ⟨fuel, h⟩ := h
  obtain ⟨xs, n, rfl, _, hlen, hxs, hel⟩ := DataW.trod_struct hu h
  have hc59 : Try.prog.cellsOf 59 = 39 := by kernel_rfl
  have hc56 : Try.prog.cellsOf 56 = 32 := by kernel_rfl
  have hc3 : Try.prog.cellsOf 3 = 1 := by kernel_rfl
  have hc4 : Try.prog.cellsOf 4 = 1 := by kernel_rfl
  have hc57 : Try.prog.cellsOf 57 = 1 := by kernel_rfl
  have hc9 : Try.prog.cellsOf 9 = 1 := by kernel_rfl
  have hc41 : Try.prog.cellsOf 41 = 1 := by kernel_rfl
  rw [hc59] at hsz
  have hx8 : xs.length = 8 := hxs
  have e0 := hel 0 _ rfl
  have e1 := hel 1 _ rfl
  have e2 := hel 2 _ rfl
  have e3 := hel 3 _ rfl
  have e4 := hel 4 _ rfl
  have e5 := hel 5 _ rfl
  have e6 := hel 6 _ rfl
  have e7 := hel 7 _ rfl
  rw [List.getElem?_eq_getElem (by omega)] at e0 e1 e2 e3 e4 e5 e6 e7
  obtain ⟨addr, a0, al⟩ := open_addr e0
  obtain ⟨cls, a1, _⟩ := trod_int Try.underlying3 e1
  obtain ⟨created, a2, _⟩ := trod_int Try.underlying3 e2
  obtain ⟨fired, a3⟩ := trod_bool Try.underlying4 e3
  obtain ⟨event, a4, _⟩ := trod_int Try.underlying3 e4
  obtain ⟨ha, hl, hc, l, a5, hll, hlm, hr, hA⟩ := open_holds e5
  obtain ⟨note, a6, _⟩ := trod_string Try.underlying9 e6
  obtain ⟨ta, tl, tc, z, a7, hz, hzm, hr3⟩ := open_texts e7
  simp only [Value.cells, hc3, hc4, hc57, hc9, hc41, hc56] at a0 a1 a2 a3 a4 a5 a6 a7
  have g1 : cs.toList[32]? = some (.int .i64 cls) := drop_take_one a1
  have g2 : cs.toList[33]? = some (.int .i64 created) := drop_take_one a2
  have g3 : cs.toList[34]? = some (.bool fired) := drop_take_one a3
  have g4 : cs.toList[35]? = some (.int .i64 event) := drop_take_one a4
  have g5 : cs.toList[36]? = some (.slice ha hl hc) := drop_take_one a5
  have g6 : cs.toList[37]? = some (.string note) := drop_take_one a6
  have g7 : cs.toList[38]? = some (.slice ta tl tc) := drop_take_one a7
  simp only [Array.getElem?_toList] at g1 g2 g3 g4 g5 g6 g7
  have hex : cs.extract 0 32 = ints .u8 addr := by
    apply Array.ext_getElem?
    intro i
    have h0 : ((cs.toList.drop 0).take 32)[i]? = (addr.map (Value.int .u8))[i]? := congrArg (·[i]?) a0
    rw [List.drop_zero, List.getElem?_take, Array.getElem?_toList] at h0
    have h1 : (ints .u8 addr)[i]? = (addr.map (Value.int .u8))[i]? := by simp [ints]
    rw [Array.getElem?_extract, h1, ← h0, Nat.zero_add]
    by_cases hi : i < 32
    · rw [if_pos hi, if_pos (by omega)]
    · rw [if_neg hi, if_neg (by omega)]
  refine ⟨cs, cls, created, event, fired, ha, hl, hc, l, note, ta, tl, tc, z, addr, rfl, ⟨by simp [isSz, hsz], ?_, g1, g2, g3, g4, g5, g6, g7⟩, hex, by simp [al], hll, hlm, hr, hA, hz, hzm, hr3⟩
  unfold ones
  rw [Array.all_eq_true]
  intro i hi
  by_cases h32 : i < 32
  · have : cs[i]? = some (.int .u8 (addr[i]'(by omega))) := by
      have h1 : (cs.extract 0 32)[i]? = cs[i]? := by rw [Array.getElem?_extract, if_pos (by omega), Nat.zero_add]
      rw [← h1, hex, ints]
      simp [List.getElem?_eq_getElem (show i < addr.length by omega)]
    rw [Array.getElem?_eq_getElem hi] at this
    injection this with this
    rw [this]; rfl
  · have : i = 32 ∨ i = 33 ∨ i = 34 ∨ i = 35 ∨ i = 36 ∨ i = 37 ∨ i = 38 := by omega
    rcases this with rfl | rfl | rfl | rfl | rfl | rfl | rfl
    · rw [Array.getElem?_eq_getElem hi] at g1; injection g1 with g1; rw [g1]; rfl
    · rw [Array.getElem?_eq_getElem hi] at g2; injection g2 with g2; rw [g2]; rfl
    · rw [Array.getElem?_eq_getElem hi] at g3; injection g3 with g3; rw [g3]; rfl
    · rw [Array.getElem?_eq_getElem hi] at g4; injection g4 with g4; rw [g4]; rfl
    · rw [Array.getElem?_eq_getElem hi] at g5; injection g5 with g5; rw [g5]; rfl
    · rw [Array.getElem?_eq_getElem hi] at g6; injection g6 with g6; rw [g6]; rfl
    · rw [Array.getElem?_eq_getElem hi] at g7; injection g7 with g7; rw [g7]; rfl

def ClassIn (ks : Array Value) (period : Int) (ev pr : Bool) : Prop := isSz ks 4 = true ∧ ones ks = true ∧ ks[1]? = some (.int .i64 period) ∧ ks[2]? = some (.bool ev) ∧ ks[3]? = some (.bool pr)
set_option maxRecDepth 100000 in
theorem open_class {r : Reach} {b0 : Nat} {v : Value} {d : DataW H} {ps : List MemPlace} (hval : Value.okWide Try.prog w r b0 61 v) (h : DataW.Trod enc Try.prog w 0 (fun _ => true) true 61 v d ps) :
    ∃ ks period ev pr, v = .agg ks ∧ ClassIn ks period ev pr := by
  have hu : Try.prog.underlying 61 = _ := Try.underlying61
  simp only [Value.okWide, hu] at hval
  obtain ⟨cs, rfl, hsz, _⟩ := hval
  obtain ⟨fuel, h⟩ := h
  obtain ⟨xs, n, rfl, _, hlen, hxs, hel⟩ := DataW.trod_struct hu h
  have hc61 : Try.prog.cellsOf 61 = 4 := by kernel_rfl
  have hc3 : Try.prog.cellsOf 3 = 1 := by kernel_rfl
  have hc4 : Try.prog.cellsOf 4 = 1 := by kernel_rfl
  have hc9 : Try.prog.cellsOf 9 = 1 := by kernel_rfl
  rw [hc61] at hsz
  have hx8 : xs.length = 4 := hxs
  have e0 := hel 0 _ rfl
  have e1 := hel 1 _ rfl
  have e2 := hel 2 _ rfl
  have e3 := hel 3 _ rfl
  rw [List.getElem?_eq_getElem (by omega)] at e0 e1 e2 e3
  obtain ⟨s, a0, _⟩ := trod_string Try.underlying9 e0
  obtain ⟨p, a1, _⟩ := trod_int Try.underlying3 e1
  obtain ⟨ev, a2⟩ := trod_bool Try.underlying4 e2
  obtain ⟨pr, a3⟩ := trod_bool Try.underlying4 e3
  simp only [Value.cells, hc3, hc4, hc9] at a0 a1 a2 a3
  have g0 : cs.toList[0]? = some (.string s) := drop_take_one a0
  have g1 : cs.toList[1]? = some (.int .i64 p) := drop_take_one a1
  have g2 : cs.toList[2]? = some (.bool ev) := drop_take_one a2
  have g3 : cs.toList[3]? = some (.bool pr) := drop_take_one a3
  simp only [Array.getElem?_toList] at g0 g1 g2 g3
  refine ⟨cs, p, ev, pr, rfl, by simp [isSz, hsz], ?_, g1, g2, g3⟩
  unfold ones
  rw [Array.all_eq_true]
  intro i hi
  have : i = 0 ∨ i = 1 ∨ i = 2 ∨ i = 3 := by omega
  rcases this with rfl | rfl | rfl | rfl
  · rw [Array.getElem?_eq_getElem hi] at g0; injection g0 with g0; rw [g0]; rfl
  · rw [Array.getElem?_eq_getElem hi] at g1; injection g1 with g1; rw [g1]; rfl
  · rw [Array.getElem?_eq_getElem hi] at g2; injection g2 with g2; rw [g2]; rfl
  · rw [Array.getElem?_eq_getElem hi] at g3; injection g3 with g3; rw [g3]; rfl
end
end Go.Proofs.Yticgpiipikneiaa
