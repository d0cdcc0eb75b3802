/- Whether it is sound: the walks, for the three kinds of keys. No condition. -/
import Derived.Test.YticgpiipikneiaaCg
import Derived.Test.YticgpiipikneiaaBaseB
import Derived.Lib.Builder
import Derived.Test.YticgpiipikneiaaBaseE
set_option linter.unusedSimpArgs false
set_option linter.unusedVariables false
namespace Go.Proofs.Yticgpiipikneiaa
open Go.ChangeShapes Go.WideShapes Go.RowKit Go.Mor Go.Cch Go.Maps



theorem same_I (b : Nat) (w : World) : (binOp .neq 85 (.pointer (some ⟨b, 0, none⟩)) (.pointer (some ⟨b, 0, none⟩))).run Try.prog w = .ok (.bool false) w := by
  obtain ⟨j, hj⟩ : ∃ j, Try.prog.info? 89 = some j := Option.isSome_iff_exists.1 (by kernel_rfl)
  exact Lib.run_neq_ptr_same (P := Try.prog) w (te := 89) _ Try.underlying85 hj
theorem sound_I {w : World} {c mb room met miss : Nat} {ns : List Nd} (C : CacheI w c mb ns room met miss) :
    Calls Try.prog 21 #[.pointer (some ⟨c, 0, none⟩)] w (SoundPost w) := by
  have f := C.row.f
  rw [show fst ns = (ns[0]?).map (·.b) from rfl] at f
  have c1 := C.a
  have HC := hid C
  have hle : ns.length ≤ 4096 := Nat.le_trans C.le C.hi
  have hlen := fun q => map_len (C.map.of_block (w' := w.drewN q) rfl) Try.underlying84 3
  clear C
  obtain ⟨L, hL⟩ : ∃ L, ns.length = L := ⟨_, rfl⟩
  rw [hL] at hle
  simp only [hL] at hlen
  have hL := hid hL
  obtain ⟨n0, h0⟩ : ∃ v, ptrV ((ns[0]?).map (·.b)) = v := ⟨_, rfl⟩
  rw [h0] at f
  have h0 := hid h0
  go_enter Try.func21, Try.ntmps21
  go_wp2
  go_loopw [3, 4] (fun n x wr => ∃ i q : Nat, i ≤ L ∧ n = .int .i64 i ∧ x = ptrV ((ns[i]?).map (·.b)) ∧ wr = w.drewN q) (fun n _ _ => L - (intOf n).toNat)
  case atStart => exact ⟨0, 0, Nat.zero_le _, rfl, h0.out.symm, rfl⟩
  case round =>
    obtain ⟨i, q, hi1, rfl, rfl, rfl⟩ := hrel
    clear f
    by_cases hlt : i < L
    · obtain ⟨n, hn⟩ : ∃ n, ns[i]? = some n := ⟨_, List.getElem?_eq_getElem (by rw [hL.out]; exact hlt)⟩
      have N := HC.out.row.nd i n hn
      obtain ⟨k, hk, hnk⟩ := HC.out.kd n (List.mem_of_getElem? hn)
      have c0 := N.c0
      rw [hnk, value_I] at c0
      have hkey : keyOf Try.prog 3 (.int .i64 k) = some (.int .i64 k) := keyOf_int_mk Try.underlying3 hk
      have hrun : ∀ q, (Instr.lookup 84 (.map (some mb)) (.int .i64 k) false).run Try.prog (w.drewN q) = .ok (.pointer (some ⟨n.b, 0, none⟩)) (w.drewN q) := fun q => by
        have h := map_look (HC.out.map.of_block (w' := w.drewN q) rfl) keyed_I Try.underlying84 (zero_I _) hkey
        rw [← hnk, (fnd_get HC.out.ok hn).1] at h
        exact h
      have hsame := same_I n.b
      have hgt : ¬ (L : Int) < (i : Int) + 1 := by omega
      have hw : IntKind.i64.wrap ((i : Int) + 1) = (i : Int) + 1 := IntWalk.i64_in _ (by omega)
      rw [ptrV_get hn]
      rcases Nat.lt_or_ge (i + 1) L with h2 | h2
      · obtain ⟨m, hm⟩ : ∃ m, ns[i + 1]? = some m := ⟨_, List.getElem?_eq_getElem (by rw [hL.out]; exact h2)⟩
        have c3 := ptr_some N.c3 (b := m.b) (by unfold nx; rw [hm]; rfl)
        have m2 := ptr_some (HC.out.row.nd _ m hm).c2 (b := n.b) (by unfold pv; rw [if_neg (by omega), Nat.add_sub_cancel, hn]; rfl)
        have HM := hid (ptrV_get hm)
        clear hn N hk hnk hkey hm hlt h2 hi1
        go_wp2
        go_quiet (fail)
        go_wp2
        go_roundw
        case rel => exact ⟨i + 1, _, by omega, by go_num, HM.out.symm, rfl⟩
        case measure => simp [intOf]; omega
      · have c3 := ptr_none N.c3 (by unfold nx; rw [List.getElem?_eq_none (by rw [hL.out]; exact h2)]; rfl)
        have hl := ptr_some HC.out.row.l (b := n.b) (by unfold lst; rw [hL.out, show L - 1 = i by omega, hn]; rfl)
        have HM := hid (ptrV_end (by rw [hL.out]; exact h2))
        clear hn N hk hnk hkey h2 hi1
        go_wp2
        go_quiet (fail)
        go_wp2
        go_roundw
        case rel => exact ⟨i + 1, _, by omega, by go_num, HM.out.symm, rfl⟩
        case measure => simp [intOf]; omega
    · obtain rfl : i = L := by omega
      rw [ptrV_end (by rw [hL.out]; exact Nat.le_refl _)]
      rcases Nat.eq_zero_or_pos i with h2 | h2
      · have hl := ptr_none HC.out.row.l (by unfold lst; rw [List.getElem?_eq_none (by rw [hL.out]; omega)]; rfl)
        subst h2
        clear hi1 hlt
        go_wp2
        go_ret
        exact ⟨rfl, _, rfl⟩
      · have hz : (0 : Int) < (i : Int) := by omega
        clear hi1 hlt
        go_wp2
        go_ret
        exact ⟨rfl, _, rfl⟩

theorem same_B (b : Nat) (w : World) : (binOp .neq 92 (.pointer (some ⟨b, 0, none⟩)) (.pointer (some ⟨b, 0, none⟩))).run Try.prog w = .ok (.bool false) w := by
  obtain ⟨j, hj⟩ : ∃ j, Try.prog.info? 99 = some j := Option.isSome_iff_exists.1 (by kernel_rfl)
  exact Lib.run_neq_ptr_same (P := Try.prog) w (te := 99) _ Try.underlying92 hj
theorem sound_B {w : World} {c mb room met miss : Nat} {ns : List Nd} (C : CacheB w c mb ns room met miss) :
    Calls Try.prog 27 #[.pointer (some ⟨c, 0, none⟩)] w (SoundPost w) := by
  have f := C.row.f
  rw [show fst ns = (ns[0]?).map (·.b) from rfl] at f
  have c1 := C.a
  have HC := hid C
  have hle : ns.length ≤ 4096 := Nat.le_trans C.le C.hi
  have hlen := fun q => map_len (C.map.of_block (w' := w.drewN q) rfl) Try.underlying91 3
  clear C
  obtain ⟨L, hL⟩ : ∃ L, ns.length = L := ⟨_, rfl⟩
  rw [hL] at hle
  simp only [hL] at hlen
  have hL := hid hL
  obtain ⟨n0, h0⟩ : ∃ v, ptrV ((ns[0]?).map (·.b)) = v := ⟨_, rfl⟩
  rw [h0] at f
  have h0 := hid h0
  go_enter Try.func27, Try.ntmps27
  go_wp2
  go_loopw [3, 4] (fun n x wr => ∃ i q : Nat, i ≤ L ∧ n = .int .i64 i ∧ x = ptrV ((ns[i]?).map (·.b)) ∧ wr = w.drewN q) (fun n _ _ => L - (intOf n).toNat)
  case atStart => exact ⟨0, 0, Nat.zero_le _, rfl, h0.out.symm, rfl⟩
  case round =>
    obtain ⟨i, q, hi1, rfl, rfl, rfl⟩ := hrel
    clear f
    by_cases hlt : i < L
    · obtain ⟨n, hn⟩ : ∃ n, ns[i]? = some n := ⟨_, List.getElem?_eq_getElem (by rw [hL.out]; exact hlt)⟩
      have N := HC.out.row.nd i n hn
      obtain ⟨k, hk, hnk⟩ := HC.out.kd n (List.mem_of_getElem? hn)
      have c0 := N.c0
      rw [hnk, value_B] at c0
      have hkey : keyOf Try.prog 5 (.int .u8 k) = some (.int .u8 k) := keyOf_int_mk Try.underlying5 hk
      have hrun : ∀ q, (Instr.lookup 91 (.map (some mb)) (.int .u8 k) false).run Try.prog (w.drewN q) = .ok (.pointer (some ⟨n.b, 0, none⟩)) (w.drewN q) := fun q => by
        have h := map_look (HC.out.map.of_block (w' := w.drewN q) rfl) keyed_B Try.underlying91 (zero_B _) hkey
        rw [← hnk, (fnd_get HC.out.ok hn).1] at h
        exact h
      have hsame := same_B n.b
      have hgt : ¬ (L : Int) < (i : Int) + 1 := by omega
      have hw : IntKind.i64.wrap ((i : Int) + 1) = (i : Int) + 1 := IntWalk.i64_in _ (by omega)
      rw [ptrV_get hn]
      rcases Nat.lt_or_ge (i + 1) L with h2 | h2
      · obtain ⟨m, hm⟩ : ∃ m, ns[i + 1]? = some m := ⟨_, List.getElem?_eq_getElem (by rw [hL.out]; exact h2)⟩
        have c3 := ptr_some N.c3 (b := m.b) (by unfold nx; rw [hm]; rfl)
        have m2 := ptr_some (HC.out.row.nd _ m hm).c2 (b := n.b) (by unfold pv; rw [if_neg (by omega), Nat.add_sub_cancel, hn]; rfl)
        have HM := hid (ptrV_get hm)
        clear hn N hk hnk hkey hm hlt h2 hi1
        go_wp2
        go_quiet (fail)
        go_wp2
        go_roundw
        case rel => exact ⟨i + 1, _, by omega, by go_num, HM.out.symm, rfl⟩
        case measure => simp [intOf]; omega
      · have c3 := ptr_none N.c3 (by unfold nx; rw [List.getElem?_eq_none (by rw [hL.out]; exact h2)]; rfl)
        have hl := ptr_some HC.out.row.l (b := n.b) (by unfold lst; rw [hL.out, show L - 1 = i by omega, hn]; rfl)
        have HM := hid (ptrV_end (by rw [hL.out]; exact h2))
        clear hn N hk hnk hkey h2 hi1
        go_wp2
        go_quiet (fail)
        go_wp2
        go_roundw
        case rel => exact ⟨i + 1, _, by omega, by go_num, HM.out.symm, rfl⟩
        case measure => simp [intOf]; omega
    · obtain rfl : i = L := by omega
      rw [ptrV_end (by rw [hL.out]; exact Nat.le_refl _)]
      rcases Nat.eq_zero_or_pos i with h2 | h2
      · have hl := ptr_none HC.out.row.l (by unfold lst; rw [List.getElem?_eq_none (by rw [hL.out]; omega)]; rfl)
        subst h2
        clear hi1 hlt
        go_wp2
        go_ret
        exact ⟨rfl, _, rfl⟩
      · have hz : (0 : Int) < (i : Int) := by omega
        clear hi1 hlt
        go_wp2
        go_ret
        exact ⟨rfl, _, rfl⟩

theorem same_S (b : Nat) (w : World) : (binOp .neq 106 (.pointer (some ⟨b, 0, none⟩)) (.pointer (some ⟨b, 0, none⟩))).run Try.prog w = .ok (.bool false) w := by
  obtain ⟨j, hj⟩ : ∃ j, Try.prog.info? 110 = some j := Option.isSome_iff_exists.1 (by kernel_rfl)
  exact Lib.run_neq_ptr_same (P := Try.prog) w (te := 110) _ Try.underlying106 hj
theorem sound_S {w : World} {c mb room met miss : Nat} {ns : List Nd} (C : CacheS w c mb ns room met miss) :
    Calls Try.prog 53 #[.pointer (some ⟨c, 0, none⟩)] w (SoundPost w) := by
  have f := C.row.f
  rw [show fst ns = (ns[0]?).map (·.b) from rfl] at f
  have c1 := C.a
  have HC := hid C
  have hle : ns.length ≤ 4096 := Nat.le_trans C.le C.hi
  have hlen := fun q => map_len (C.map.of_block (w' := w.drewN q) rfl) Try.underlying105 3
  clear C
  obtain ⟨L, hL⟩ : ∃ L, ns.length = L := ⟨_, rfl⟩
  rw [hL] at hle
  simp only [hL] at hlen
  have hL := hid hL
  obtain ⟨n0, h0⟩ : ∃ v, ptrV ((ns[0]?).map (·.b)) = v := ⟨_, rfl⟩
  rw [h0] at f
  have h0 := hid h0
  go_enter Try.func53, Try.ntmps53
  go_wp2
  go_loopw [3, 4] (fun n x wr => ∃ i q : Nat, i ≤ L ∧ n = .int .i64 i ∧ x = ptrV ((ns[i]?).map (·.b)) ∧ wr = w.drewN q) (fun n _ _ => L - (intOf n).toNat)
  case atStart => exact ⟨0, 0, Nat.zero_le _, rfl, h0.out.symm, rfl⟩
  case round =>
    obtain ⟨i, q, hi1, rfl, rfl, rfl⟩ := hrel
    clear f
    by_cases hlt : i < L
    · obtain ⟨n, hn⟩ : ∃ n, ns[i]? = some n := ⟨_, List.getElem?_eq_getElem (by rw [hL.out]; exact hlt)⟩
      have N := HC.out.row.nd i n hn
      obtain ⟨k, hk, hnk⟩ := HC.out.kd n (List.mem_of_getElem? hn)
      have c0 := N.c0
      rw [hnk, value_S] at c0
      have hkey : keyOf Try.prog 9 (.string k) = some (.string k.data.toList) := WideMaps.keyOf_string_mk Try.underlying9 hk
      have hrun : ∀ q, (Instr.lookup 105 (.map (some mb)) (.string k) false).run Try.prog (w.drewN q) = .ok (.pointer (some ⟨n.b, 0, none⟩)) (w.drewN q) := fun q => by
        have h := map_look (HC.out.map.of_block (w' := w.drewN q) rfl) keyed_S Try.underlying105 (zero_S _) hkey
        rw [← hnk, (fnd_get HC.out.ok hn).1] at h
        exact h
      have hsame := same_S n.b
      have hgt : ¬ (L : Int) < (i : Int) + 1 := by omega
      have hw : IntKind.i64.wrap ((i : Int) + 1) = (i : Int) + 1 := IntWalk.i64_in _ (by omega)
      rw [ptrV_get hn]
      rcases Nat.lt_or_ge (i + 1) L with h2 | h2
      · obtain ⟨m, hm⟩ : ∃ m, ns[i + 1]? = some m := ⟨_, List.getElem?_eq_getElem (by rw [hL.out]; exact h2)⟩
        have c3 := ptr_some N.c3 (b := m.b) (by unfold nx; rw [hm]; rfl)
        have m2 := ptr_some (HC.out.row.nd _ m hm).c2 (b := n.b) (by unfold pv; rw [if_neg (by omega), Nat.add_sub_cancel, hn]; rfl)
        have HM := hid (ptrV_get hm)
        clear hn N hk hnk hkey hm hlt h2 hi1
        go_wp2
        go_quiet (fail)
        go_wp2
        go_roundw
        case rel => exact ⟨i + 1, _, by omega, by go_num, HM.out.symm, rfl⟩
        case measure => simp [intOf]; omega
      · have c3 := ptr_none N.c3 (by unfold nx; rw [List.getElem?_eq_none (by rw [hL.out]; exact h2)]; rfl)
        have hl := ptr_some HC.out.row.l (b := n.b) (by unfold lst; rw [hL.out, show L - 1 = i by omega, hn]; rfl)
        have HM := hid (ptrV_end (by rw [hL.out]; exact h2))
        clear hn N hk hnk hkey h2 hi1
        go_wp2
        go_quiet (fail)
        go_wp2
        go_roundw
        case rel => exact ⟨i + 1, _, by omega, by go_num, HM.out.symm, rfl⟩
        case measure => simp [intOf]; omega
    · obtain rfl : i = L := by omega
      rw [ptrV_end (by rw [hL.out]; exact Nat.le_refl _)]
      rcases Nat.eq_zero_or_pos i with h2 | h2
      · have hl := ptr_none HC.out.row.l (by unfold lst; rw [List.getElem?_eq_none (by rw [hL.out]; omega)]; rfl)
        subst h2
        clear hi1 hlt
        go_wp2
        go_ret
        exact ⟨rfl, _, rfl⟩
      · have hz : (0 : Int) < (i : Int) := by omega
        clear hi1 hlt
        go_wp2
        go_ret
        exact ⟨rfl, _, rfl⟩
end Go.Proofs.Yticgpiipikneiaa
