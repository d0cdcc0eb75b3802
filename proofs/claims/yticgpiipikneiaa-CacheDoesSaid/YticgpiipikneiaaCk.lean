/- The law's own look at a cache of strings: a state told as a list. No condition. -/
import Derived.Test.YticgpiipikneiaaCh
import Derived.Test.YticgpiipikneiaaCi
import Derived.Test.YticgpiipikneiaaCj
set_option linter.unusedSimpArgs false
set_option linter.unusedVariables false
namespace Go.Proofs.Yticgpiipikneiaa
open Go.ChangeShapes Go.WideShapes Go.RowKit Go.Mor Go.Cch Go.Maps

/-- The cache reads as the list l; the values xs still stand behind A. -/
def StS (w0 : World) (c mb : Nat) (l : List KV) (met miss : Nat) (A : Option Addr) (xs : List Value) (w : World) : Prop :=
  ∃ ns, kv ns = l ∧ CacheS w c mb ns 2 met miss ∧ Stp c mb [] ns w0 w ∧ Vals w A xs (own c mb ns)
theorem StS.below {w w0 w' : World} {c mb : Nat} {l : List KV} {met miss : Nat} {A : Option Addr} {xs : List Value} (h : StS w0 c mb l met miss A xs w') (hb : Below w.heap.size w w0) (hc : w.heap.size ≤ c) (hm : w.heap.size ≤ mb) : Below w.heap.size w w' := by
  obtain ⟨ns, _, _, S, _⟩ := h
  refine hb.trans (S.fr.below hb.size (fun k hk => ?_))
  simp [own] at hk
  rcases hk with rfl | rfl <;> assumption
section
variable {w0 w : World} {c mb : Nat} {l : List KV} {met miss : Nat} {A : Option Addr} {xs : List Value}
theorem StS.step {w' : World} {ns ns' : List Nd} {l' : List KV} {met' miss' : Nat} (S : Stp c mb [] ns w0 w) (V : Vals w A xs (own c mb ns)) (h : kv ns' = l') (C : CacheS w' c mb ns' 2 met' miss') (T : Stp c mb ns ns' w w') : StS w0 c mb l' met' miss' A xs w' :=
  ⟨ns', h, C, S.trans T, V.step T⟩
theorem st_drew (h : StS w0 c mb l met miss A xs w) (n : Nat) : StS w0 c mb l met miss A xs (w.drewN n) := by
  obtain ⟨ns, h1, h2, h3, h4⟩ := h
  exact ⟨ns, h1, h2.drewN n, h3.drewN n, h4.step (Stp.refl.drewN n)⟩
theorem put_st (h : StS w0 c mb l met miss A xs w) (k : ByteArray) (hk : k.size ≤ maxLen) (v : Int) :
    Calls Try.prog 45 #[.pointer (some ⟨c, 0, none⟩), .string k, .int .i64 v] w fun e w' => e = .returned (.tuple #[goneV (.string ByteArray.empty) (putG l 2 (.string k.data.toList)), .bool (putT l 2 (.string k.data.toList))]) ∧ StS w0 c mb (putL l 2 (.string k.data.toList) v) met miss A xs w' := by
  obtain ⟨ns, rfl, C, S, V⟩ := h
  refine (put_S C k hk v).mono ?_
  rintro e w' ⟨ns', rfl, h1, C1, S1⟩
  exact ⟨rfl, StS.step S V h1 C1 S1⟩
theorem get_st (h : StS w0 c mb l met miss A xs w) (hm : met < 1000) (hs : miss < 1000) (k : ByteArray) (hk : k.size ≤ maxLen) :
    Calls Try.prog 46 #[.pointer (some ⟨c, 0, none⟩), .string k] w fun e w' => e = .returned (.tuple #[.int .i64 (getV l (.string k.data.toList)), .bool (hasL l (.string k.data.toList))]) ∧ StS w0 c mb (getL l (.string k.data.toList)) (if hasL l (.string k.data.toList) then met + 1 else met) (if hasL l (.string k.data.toList) then miss else miss + 1) A xs w' := by
  obtain ⟨ns, rfl, C, S, V⟩ := h
  refine (get_S C (by omega) (by omega) k hk).mono ?_
  rintro e w' ⟨ns', rfl, h1, C1, S1⟩
  exact ⟨rfl, StS.step S V h1 C1 S1⟩
theorem drop_st (h : StS w0 c mb l met miss A xs w) (k : ByteArray) (hk : k.size ≤ maxLen) :
    Calls Try.prog 52 #[.pointer (some ⟨c, 0, none⟩), .string k] w fun e w' => e = .returned (.bool (hasL l (.string k.data.toList))) ∧ StS w0 c mb (dropL l (.string k.data.toList)) met miss A xs w' := by
  obtain ⟨ns, rfl, C, S, V⟩ := h
  refine (drop_S C k hk).mono ?_
  rintro e w' ⟨rfl, C1, S1⟩
  exact ⟨rfl, StS.step S V dropL_kv C1 S1⟩
theorem has_st (h : StS w0 c mb l met miss A xs w) (k : ByteArray) (hk : k.size ≤ maxLen) :
    Calls Try.prog 56 #[.pointer (some ⟨c, 0, none⟩), .string k] w fun e w' => e = .returned (.bool (hasL l (.string k.data.toList))) ∧ w' = w := by
  obtain ⟨ns, rfl, C, S, V⟩ := h
  exact has_S C k hk
theorem len_st (h : StS w0 c mb l met miss A xs w) :
    Calls Try.prog 55 #[.pointer (some ⟨c, 0, none⟩)] w fun e w' => e = .returned (.int .i64 (l.length : Nat)) ∧ w' = w := by
  obtain ⟨ns, rfl, C, S, V⟩ := h
  rw [kv_len]
  exact len_S C
theorem met_st (h : StS w0 c mb l met miss A xs w) :
    Calls Try.prog 51 #[.pointer (some ⟨c, 0, none⟩)] w fun e w' => e = .returned (.tuple #[.int .i64 (met : Nat), .int .i64 (miss : Nat)]) ∧ StS w0 c mb l met miss A xs w' := by
  have h' := h
  obtain ⟨ns, rfl, C, S, V⟩ := h'
  refine (met_S C).mono ?_
  rintro e w' ⟨rfl, rfl⟩
  exact ⟨rfl, st_drew h 1⟩
theorem sound_st (h : StS w0 c mb l met miss A xs w) :
    Calls Try.prog 53 #[.pointer (some ⟨c, 0, none⟩)] w fun e w' => e = .returned (.bool true) ∧ ∃ n, w' = w.drewN n := by
  obtain ⟨ns, rfl, C, S, V⟩ := h
  exact sound_S C
theorem clear_st (h : StS w0 c mb l met miss A xs w) :
    Calls Try.prog 54 #[.pointer (some ⟨c, 0, none⟩)] w fun e w' => e = .returned (.tuple #[]) ∧ StS w0 c mb [] 0 0 A xs w' := by
  obtain ⟨ns, rfl, C, S, V⟩ := h
  refine (clear_S C).mono ?_
  rintro e w' ⟨rfl, C1, S1⟩
  exact ⟨rfl, StS.step S V rfl C1 S1⟩
theorem keys_st (h : StS w0 c mb l met miss none [] w) :
    Calls Try.prog 47 #[.pointer (some ⟨c, 0, none⟩)] w fun e w' => ∃ A' c', e = .returned (.slice A' l.length c') ∧ StS w0 c mb l met miss A' (l.map (·.1.value)) w' := by
  obtain ⟨ns, rfl, C, S, V⟩ := h
  refine (keys_S C).mono ?_
  rintro e w' ⟨A', c', rfl, hb, hown⟩
  refine ⟨A', c', by rw [kv_len], ns, rfl, C.keep hb, S.trans ⟨Fr.of_below hb _, fun n hn => .inl (List.mem_map.2 ⟨n, hn, rfl⟩)⟩, ?_⟩
  have e : (kv ns).map (·.1.value) = keysV ns ns.length := by unfold keysV kv; rw [List.take_length, List.map_map]; rfl
  rw [e]
  exact vals_owns hown C.lt
theorem through_st (h : StS w0 c mb l met miss A xs w) (hm : met < 1000) (hs : miss < 1000) (k : ByteArray) (hk : k.size ≤ maxLen) (hB : hasL l (.string k.data.toList) = false)
    (hf : ∀ w1, Calls Try.prog 49 #[.string k] w1 fun e w' => e = .returned (.tuple #[.int .i64 1, .int .i64 0]) ∧ w' = w1) :
    Calls Try.prog 48 #[.pointer (some ⟨c, 0, none⟩), .string k, .func (.func 49) #[] #[]] w fun e w' => e = .returned (.tuple #[.int .i64 1, .int .i64 0]) ∧ StS w0 c mb (putL l 2 (.string k.data.toList) 1) met (miss + 1) A xs w' := by
  obtain ⟨ns, rfl, C, S, V⟩ := h
  refine (through_S49 C (by omega) (by omega) k hk 1 0 id (fun w1 ns1 C1 S1 => ⟨hf w1, C1⟩)).mono ?_
  rintro e w' (⟨h1, _⟩ | ⟨_, h1, _⟩ | ⟨_, _, rfl, w1, ns1, ns', h1, S1, C1, h2, S2⟩)
  · rw [h1] at hB; cases hB
  · exact absurd rfl h1
  · exact ⟨rfl, ns', h2, C1, (S.trans S1).trans S2, (V.step S1).step S2⟩
theorem through_st_no (h : StS w0 c mb l met miss A xs w) (hm : met < 1000) (hs : miss < 1000) (k : ByteArray) (hk : k.size ≤ maxLen) (hB : hasL l (.string k.data.toList) = false)
    (hf : ∀ w1, Calls Try.prog 50 #[.string k] w1 fun e w' => e = .returned (.tuple #[.int .i64 0, .int .i64 8]) ∧ w' = w1) :
    Calls Try.prog 48 #[.pointer (some ⟨c, 0, none⟩), .string k, .func (.func 50) #[] #[]] w fun e w' => e = .returned (.tuple #[.int .i64 0, .int .i64 8]) ∧ StS w0 c mb l met (miss + 1) A xs w' := by
  obtain ⟨ns, rfl, C, S, V⟩ := h
  refine (through_S50 C (by omega) (by omega) k hk 0 8 id (fun w1 ns1 C1 S1 => ⟨hf w1, C1⟩)).mono ?_
  rintro e w' (⟨h1, _⟩ | ⟨_, h1, rfl, w1, ns1, h2, S1, C1, rfl⟩ | ⟨_, h1, _⟩)
  · rw [h1] at hB; cases hB
  · exact ⟨rfl, ns1, h2, C1, S.trans S1, V.step S1⟩
  · exact absurd h1 (by decide)
theorem through_st_nil (h : StS w0 c mb l met miss A xs w) (hm : met < 1000) (hs : miss < 1000) (k : ByteArray) (hk : k.size ≤ maxLen) (hB : hasL l (.string k.data.toList) = false) :
    Calls Try.prog 48 #[.pointer (some ⟨c, 0, none⟩), .string k, .nilFunc] w fun e w' => e = .returned (.tuple #[.int .i64 0, .int .i64 1]) ∧ StS w0 c mb l met (miss + 1) A xs w' := by
  obtain ⟨ns, rfl, C, S, V⟩ := h
  refine (through_nil_S C (by omega) (by omega) k hk hB).mono ?_
  rintro e w' ⟨rfl, ns', h1, C1, S1⟩
  exact ⟨rfl, ns', h1, C1, S.trans S1, V.step S1⟩
end
theorem read1_any (k : ByteArray) (hk : k.size = 1) (w : World) : Calls Try.prog 49 #[.string k] w fun e w' => e = .returned (.tuple #[.int .i64 1, .int .i64 0]) ∧ w' = w := by
  go_enter Try.func49, Try.ntmps49
  go_wp2
  go_ret2
  exact ⟨by simp [hk], rfl⟩
theorem read2_any (k : ByteArray) (w : World) : Calls Try.prog 50 #[.string k] w fun e w' => e = .returned (.tuple #[.int .i64 0, .int .i64 8]) ∧ w' = w := by
  go_enter Try.func50, Try.ntmps50
  go_wp2
  go_ret2
  exact ⟨rfl, rfl⟩
theorem new_bad (w : World) : Calls Try.prog 9 #[.int .i64 0] w fun e w' => e = .returned (.tuple #[.pointer none, .int .i64 2]) ∧ w' = w := by
  go_enter Try.func9, Try.ntmps9
  go_wp2
  go_ret2
  exact ⟨rfl, rfl⟩
theorem new_st (w : World) : Calls Try.prog 44 #[.int .i64 2] w fun e w' => ∃ c mb, e = .returned (.tuple #[.pointer (some ⟨c, 0, none⟩), .int .i64 0]) ∧ StS w' c mb [] 0 0 none [] w' ∧ Below w.heap.size w w' ∧ w.heap.size ≤ c ∧ w.heap.size ≤ mb := by
  refine (new_S 2 (by decide) (by decide) w).mono ?_
  rintro e w' ⟨c, mb, rfl, C, hb, h1, h2⟩
  exact ⟨c, mb, rfl, ⟨[], rfl, C, Stp.refl, .inl rfl⟩, hb, h1, h2⟩
end Go.Proofs.Yticgpiipikneiaa
