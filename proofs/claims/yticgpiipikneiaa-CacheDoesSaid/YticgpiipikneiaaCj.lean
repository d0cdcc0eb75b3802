/- Reading through a cache: the walks. No condition. -/
import Derived.Test.YticgpiipikneiaaCf
set_option linter.unusedSimpArgs false
set_option linter.unusedVariables false
namespace Go.Proofs.Yticgpiipikneiaa
open Go.ChangeShapes Go.WideShapes Go.RowKit Go.Mor Go.Cch Go.Maps

theorem getL_false {l : List KV} {k : Lit} (h : hasL l k = false) : getL l k = l := by
  unfold hasL at h; unfold getL; rw [List.getElem?_eq_none (by simpa using h)]
def ThroughPost (P : Program) (kT : TypeId) (Kd : Lit → Prop) (w : World) (c mb : Nat) (ns : List Nd) (room met miss : Nat) (k : Lit) (v code : Int) (W : World → World) (e : Ending) (w' : World) : Prop :=
  (hasL (kv ns) k = true ∧ e = .returned (.tuple #[.int .i64 (getV (kv ns) k), .int .i64 0]) ∧ ∃ ns', kv ns' = getL (kv ns) k ∧ CacheAt P kT Kd w' c mb ns' room (met + 1) miss ∧ Stp c mb ns ns' w w') ∨
  (hasL (kv ns) k = false ∧ code ≠ 0 ∧ e = .returned (.tuple #[.int .i64 0, .int .i64 code]) ∧ ∃ w1 ns1, kv ns1 = kv ns ∧ Stp c mb ns ns1 w w1 ∧ CacheAt P kT Kd w' c mb ns1 room met (miss + 1) ∧ w' = W w1) ∨
  (hasL (kv ns) k = false ∧ code = 0 ∧ e = .returned (.tuple #[.int .i64 v, .int .i64 0]) ∧ ∃ w1 ns1 ns', kv ns1 = kv ns ∧ Stp c mb ns ns1 w w1 ∧ CacheAt P kT Kd w' c mb ns' room met (miss + 1) ∧ kv ns' = putL (kv ns) room k v ∧ Stp c mb ns1 ns' (W w1) w')

theorem isNil_B24 (a : Nat) (w : World) : (binOp .eql 51 (.func (.func 24) #[] #[.pointer (some ⟨a, 0, none⟩)]) .nilFunc).run Try.prog w = .ok (.bool false) w := by
  kernel_rfl
set_option maxRecDepth 100000 in
theorem through_B24 {w : World} {c mb room met miss : Nat} {ns : List Nd} (C : CacheB w c mb ns room met miss) (hm : met < 1000000) (hs : miss < 1000000) (k : Int) (hk : (Lit.int .u8 k).wf = true) (a : Nat) (v code : Int) (W : World → World)
    (hf : ∀ w1 ns1, CacheB w1 c mb ns1 room met (miss + 1) → Stp c mb ns ns1 w w1 → Calls Try.prog 24 #[(.int .u8 k), .pointer (some ⟨a, 0, none⟩)] w1 (fun e w' => e = .returned (.tuple #[.int .i64 v, .int .i64 code]) ∧ w' = W w1) ∧ CacheB (W w1) c mb ns1 room met (miss + 1)) :
    Calls Try.prog 25 #[.pointer (some ⟨c, 0, none⟩), (.int .u8 k), .func (.func 24) #[] #[.pointer (some ⟨a, 0, none⟩)]] w (ThroughPost Try.prog 5 IsB w c mb ns room met miss (.int .u8 k) v code W) := by
  have HG := hid (get_B C hm hs k hk)
  have HF := hid hf
  clear hf C
  obtain ⟨B, hB⟩ : ∃ B, hasL (kv ns) (.int .u8 k) = B := ⟨_, rfl⟩
  cases B
  · have HB := hid hB
    have hk := hid hk
    clear hB
    go_enter Try.func25, Try.ntmps25
    go_wp2_with fail
    refine HG.out.mono ?_
    rintro e w1 ⟨ns1, rfl, hkv, C1, S1⟩
    have HKV := hid hkv
    clear hkv
    simp only [HB.out, if_false, Bool.false_eq_true] at C1
    obtain ⟨hcall, C2⟩ := HF.out w1 ns1 C1 S1
    have HC := hid hcall
    have C2 := hid C2
    have S1 := hid S1
    clear hcall C1
    simp only [HB.out]
    have hnil := isNil_B24 a w1
    go_wp2_with fail
    refine HC.out.mono ?_
    rintro e w2 ⟨rfl, rfl⟩
    rcases Decidable.em (code = 0) with h0 | h0
    · subst h0
      go_wp2_with fail
      refine (put_B C2.out k hk.out v).mono ?_
      rintro e w3 ⟨ns2, rfl, hkv2, C3, S3⟩
      have HKV2 := hid hkv2
      have C3 := hid C3
      have S3 := hid S3
      clear hkv2
      go_wp2
      go_ret2
      refine .inr (.inr ⟨HB.out, rfl, rfl, w1, ns1, ns2, ?_, S1.out, C3.out, ?_, S3.out⟩)
      · rw [HKV.out]; exact getL_false HB.out
      · rw [HKV2.out, HKV.out, getL_false HB.out]
    · have hne : (code == 0) = false := by simpa using h0
      have h0 := hid h0
      go_wp2
      go_ret2
      refine .inr (.inl ⟨HB.out, h0.out, rfl, w1, ns1, ?_, S1.out, C2.out, rfl⟩)
      rw [HKV.out]; exact getL_false HB.out
  · have HB := hid hB
    have hk := hid hk
    clear hB
    go_enter Try.func25, Try.ntmps25
    go_wp2_with fail
    refine HG.out.mono ?_
    rintro e w1 ⟨ns1, rfl, hkv, C1, S1⟩
    have HKV := hid hkv
    clear hkv
    simp only [HB.out, if_true] at C1
    have C1 := hid C1
    have S1 := hid S1
    simp only [HB.out]
    go_wp2
    go_ret2
    exact .inl ⟨HB.out, rfl, ns1, HKV.out, C1.out, S1.out⟩

theorem isNil_S49 (w : World) : (binOp .eql 82 (.func (.func 49) #[] #[]) .nilFunc).run Try.prog w = .ok (.bool false) w := by
  kernel_rfl
set_option maxRecDepth 100000 in
theorem through_S49 {w : World} {c mb room met miss : Nat} {ns : List Nd} (C : CacheS w c mb ns room met miss) (hm : met < 1000000) (hs : miss < 1000000) (k : ByteArray) (hk : k.size ≤ maxLen) (v code : Int) (W : World → World)
    (hf : ∀ w1 ns1, CacheS w1 c mb ns1 room met (miss + 1) → Stp c mb ns ns1 w w1 → Calls Try.prog 49 #[(.string k)] w1 (fun e w' => e = .returned (.tuple #[.int .i64 v, .int .i64 code]) ∧ w' = W w1) ∧ CacheS (W w1) c mb ns1 room met (miss + 1)) :
    Calls Try.prog 48 #[.pointer (some ⟨c, 0, none⟩), (.string k), .func (.func 49) #[] #[]] w (ThroughPost Try.prog 9 IsS w c mb ns room met miss (.string k.data.toList) v code W) := by
  have HG := hid (get_S C hm hs k hk)
  have HF := hid hf
  clear hf C
  obtain ⟨B, hB⟩ : ∃ B, hasL (kv ns) (.string k.data.toList) = B := ⟨_, rfl⟩
  cases B
  · have HB := hid hB
    have hk := hid hk
    clear hB
    go_enter Try.func48, Try.ntmps48
    go_wp2_with fail
    refine HG.out.mono ?_
    rintro e w1 ⟨ns1, rfl, hkv, C1, S1⟩
    have HKV := hid hkv
    clear hkv
    simp only [HB.out, if_false, Bool.false_eq_true] at C1
    obtain ⟨hcall, C2⟩ := HF.out w1 ns1 C1 S1
    have HC := hid hcall
    have C2 := hid C2
    have S1 := hid S1
    clear hcall C1
    simp only [HB.out]
    have hnil := isNil_S49 w1
    go_wp2_with fail
    refine HC.out.mono ?_
    rintro e w2 ⟨rfl, rfl⟩
    rcases Decidable.em (code = 0) with h0 | h0
    · subst h0
      go_wp2_with fail
      refine (put_S C2.out k hk.out v).mono ?_
      rintro e w3 ⟨ns2, rfl, hkv2, C3, S3⟩
      have HKV2 := hid hkv2
      have C3 := hid C3
      have S3 := hid S3
      clear hkv2
      go_wp2
      go_ret2
      refine .inr (.inr ⟨HB.out, rfl, rfl, w1, ns1, ns2, ?_, S1.out, C3.out, ?_, S3.out⟩)
      · rw [HKV.out]; exact getL_false HB.out
      · rw [HKV2.out, HKV.out, getL_false HB.out]
    · have hne : (code == 0) = false := by simpa using h0
      have h0 := hid h0
      go_wp2
      go_ret2
      refine .inr (.inl ⟨HB.out, h0.out, rfl, w1, ns1, ?_, S1.out, C2.out, rfl⟩)
      rw [HKV.out]; exact getL_false HB.out
  · have HB := hid hB
    have hk := hid hk
    clear hB
    go_enter Try.func48, Try.ntmps48
    go_wp2_with fail
    refine HG.out.mono ?_
    rintro e w1 ⟨ns1, rfl, hkv, C1, S1⟩
    have HKV := hid hkv
    clear hkv
    simp only [HB.out, if_true] at C1
    have C1 := hid C1
    have S1 := hid S1
    simp only [HB.out]
    go_wp2
    go_ret2
    exact .inl ⟨HB.out, rfl, ns1, HKV.out, C1.out, S1.out⟩

theorem isNil_S50 (w : World) : (binOp .eql 82 (.func (.func 50) #[] #[]) .nilFunc).run Try.prog w = .ok (.bool false) w := by
  kernel_rfl
set_option maxRecDepth 100000 in
theorem through_S50 {w : World} {c mb room met miss : Nat} {ns : List Nd} (C : CacheS w c mb ns room met miss) (hm : met < 1000000) (hs : miss < 1000000) (k : ByteArray) (hk : k.size ≤ maxLen) (v code : Int) (W : World → World)
    (hf : ∀ w1 ns1, CacheS w1 c mb ns1 room met (miss + 1) → Stp c mb ns ns1 w w1 → Calls Try.prog 50 #[(.string k)] w1 (fun e w' => e = .returned (.tuple #[.int .i64 v, .int .i64 code]) ∧ w' = W w1) ∧ CacheS (W w1) c mb ns1 room met (miss + 1)) :
    Calls Try.prog 48 #[.pointer (some ⟨c, 0, none⟩), (.string k), .func (.func 50) #[] #[]] w (ThroughPost Try.prog 9 IsS w c mb ns room met miss (.string k.data.toList) v code W) := by
  have HG := hid (get_S C hm hs k hk)
  have HF := hid hf
  clear hf C
  obtain ⟨B, hB⟩ : ∃ B, hasL (kv ns) (.string k.data.toList) = B := ⟨_, rfl⟩
  cases B
  · have HB := hid hB
    have hk := hid hk
    clear hB
    go_enter Try.func48, Try.ntmps48
    go_wp2_with fail
    refine HG.out.mono ?_
    rintro e w1 ⟨ns1, rfl, hkv, C1, S1⟩
    have HKV := hid hkv
    clear hkv
    simp only [HB.out, if_false, Bool.false_eq_true] at C1
    obtain ⟨hcall, C2⟩ := HF.out w1 ns1 C1 S1
    have HC := hid hcall
    have C2 := hid C2
    have S1 := hid S1
    clear hcall C1
    simp only [HB.out]
    have hnil := isNil_S50 w1
    go_wp2_with fail
    refine HC.out.mono ?_
    rintro e w2 ⟨rfl, rfl⟩
    rcases Decidable.em (code = 0) with h0 | h0
    · subst h0
      go_wp2_with fail
      refine (put_S C2.out k hk.out v).mono ?_
      rintro e w3 ⟨ns2, rfl, hkv2, C3, S3⟩
      have HKV2 := hid hkv2
      have C3 := hid C3
      have S3 := hid S3
      clear hkv2
      go_wp2
      go_ret2
      refine .inr (.inr ⟨HB.out, rfl, rfl, w1, ns1, ns2, ?_, S1.out, C3.out, ?_, S3.out⟩)
      · rw [HKV.out]; exact getL_false HB.out
      · rw [HKV2.out, HKV.out, getL_false HB.out]
    · have hne : (code == 0) = false := by simpa using h0
      have h0 := hid h0
      go_wp2
      go_ret2
      refine .inr (.inl ⟨HB.out, h0.out, rfl, w1, ns1, ?_, S1.out, C2.out, rfl⟩)
      rw [HKV.out]; exact getL_false HB.out
  · have HB := hid hB
    have hk := hid hk
    clear hB
    go_enter Try.func48, Try.ntmps48
    go_wp2_with fail
    refine HG.out.mono ?_
    rintro e w1 ⟨ns1, rfl, hkv, C1, S1⟩
    have HKV := hid hkv
    clear hkv
    simp only [HB.out, if_true] at C1
    have C1 := hid C1
    have S1 := hid S1
    simp only [HB.out]
    go_wp2
    go_ret2
    exact .inl ⟨HB.out, rfl, ns1, HKV.out, C1.out, S1.out⟩

theorem through_nil_S {w : World} {c mb room met miss : Nat} {ns : List Nd} (C : CacheS w c mb ns room met miss) (hm : met < 1000000) (hs : miss < 1000000) (k : ByteArray) (hk : k.size ≤ maxLen) (hB : hasL (kv ns) (.string k.data.toList) = false) :
    Calls Try.prog 48 #[.pointer (some ⟨c, 0, none⟩), (.string k), .nilFunc] w fun e w' => e = .returned (.tuple #[.int .i64 0, .int .i64 1]) ∧ ∃ ns', kv ns' = kv ns ∧ CacheS w' c mb ns' room met (miss + 1) ∧ Stp c mb ns ns' w w' := by
  have HG := hid (get_S C hm hs k hk)
  have HB := hid hB
  have hk := hid hk
  have hnil : ∀ w : World, (binOp .eql 82 .nilFunc .nilFunc).run Try.prog w = .ok (.bool true) w := fun _ => by kernel_rfl
  clear C hB
  go_enter Try.func48, Try.ntmps48
  go_wp2_with fail
  refine HG.out.mono ?_
  rintro e w1 ⟨ns1, rfl, hkv, C1, S1⟩
  have HKV := hid hkv
  clear hkv
  simp only [HB.out, if_false, Bool.false_eq_true] at C1
  have C1 := hid C1
  have S1 := hid S1
  simp only [HB.out]
  go_wp2
  go_ret2
  exact ⟨rfl, ns1, by rw [HKV.out]; exact getL_false HB.out, C1.out, S1.out⟩
end Go.Proofs.Yticgpiipikneiaa
