/- What the calls of a cache do but for those that loop: the walks, for the three kinds of keys. No condition. -/
import Derived.Test.YticgpiipikneiaaCd
import Derived.Test.YticgpiipikneiaaCe
import Derived.Maps.Own
set_option linter.unusedSimpArgs false
set_option linter.unusedVariables false
namespace Go.Proofs.Yticgpiipikneiaa
open Go.ChangeShapes Go.WideShapes Go.RowKit Go.Mor Go.Cch Go.Maps

/-- A new key is put: the law at the operation. -/
theorem wpList_store {P : Program} {kT eT mb : Nat} {ns : List Nd} {w : World} {ops : Array Oper} {rest : List Oper} {o : Oper} {a : Act} {Q : Exit → Act → World → Prop}
    (hg : o.guard = none) (m x v : Operand) (t : TypeId) (hop : o.op = Op.mapUpdate t m x v) (K : Keyed P kT) (ht : P.underlying t = some (.map kT eT)) (hm : a.eval m = .map (some mb)) (hmap : MapAt P kT w mb ns) (hn : ns.length < maxLen)
    (key : Value) (n : Nd) (hx : a.eval x = key) (hv : a.eval v = .pointer (some ⟨n.b, 0, none⟩)) (hkey : keyOf P kT key = some n.k) (hf : fnd ns n.k = none)
    (hK : ∀ w', MapAt P kT w' mb (n :: ns) → w.mapTurned w' mb → wpList P ops Q rest (a.put o.dst undef) w') : wpList P ops Q (o :: rest) a w := by
  refine wpList_plain hg fun K' hK' => ?_
  obtain ⟨w', hrun, r1, r2⟩ := map_store hmap K ht hn hkey hf
  unfold Oper.wp
  simp [execOp, hop, hm, hx, hv, hrun, Result.andThen]
  exact hK' _ _ (hK w' r1 r2)

def IsI (l : Lit) : Prop := ∃ k : Int, ((Lit.int .i64 k).wf = true) ∧ l = (.int .i64 k)
theorem value_I (k : Int) : Lit.value (.int .i64 k) = (.int .i64 k) := rfl
theorem isKey_I {l : Lit} (h : IsI l) : WideAt.IsKeyLit l := by obtain ⟨k, _, rfl⟩ := h; trivial
abbrev CacheI := CacheAt Try.prog 3 IsI
theorem keyed_I : Keyed Try.prog 3 := int_keyed Try.underlying3
theorem zero_I (w : World) : (zeroValue 85).run Try.prog w = .ok (.pointer none) w := by kernel_rfl
section
variable {w : World} {c mb room met miss : Nat} {ns : List Nd}
theorem get_I (C : CacheI w c mb ns room met miss) (hm : met < 1000000) (hs : miss < 1000000) (k : Int) (hk : (Lit.int .i64 k).wf = true) :
    Calls Try.prog 13 #[.pointer (some ⟨c, 0, none⟩), (.int .i64 k)] w (GetPost Try.prog 3 IsI w c mb ns room met miss (.int .i64 k)) := by
  have hkey : keyOf Try.prog 3 (.int .i64 k) = some (.int .i64 k) := keyOf_int_mk Try.underlying3 hk
  have hrun := map_look C.map keyed_I Try.underlying84 (zero_I w) hkey
  have c1 := C.a
  have c4 := C.m
  have c5 := C.s
  have fz := C.row.fz
  rcases fnd_cases ns (.int .i64 k) with ⟨n, hn, hnk, hf⟩ | hf
  · rw [hf] at hrun
    simp only [ptrV] at hrun
    have C' : Hid (CacheI (w.setCell ⟨c, 4, none⟩ (.int .i64 ((met : Int) + 1))) c mb ns room (met + 1) miss) := hid (C.set4 (met + 1))
    have S' : Hid (Stp c mb ns ns w (w.setCell ⟨c, 4, none⟩ (.int .i64 ((met : Int) + 1)))) := hid (Stp.set 4 _)
    have HN := hid hn
    have hw : IntKind.i64.wrap ((met : Int) + 1) = (met : Int) + 1 := IntWalk.i64_in _ (by omega)
    clear hkey hf hn hnk C
    go_enter Try.func13, Try.ntmps13
    go_wp2_with fail
    refine (out_I C'.out.row HN.out).mono ?_
    rintro e w2 ⟨rfl, R2, N2, T2⟩
    have R2 := hid R2
    have N2 := hid N2
    have T2 := hid T2
    go_wp2_with fail
    refine (front_I R2.out N2.out (erase_ne_b C'.out.row.dj HN.out) (C'.out.row.nc n (List.mem_of_getElem? HN.out))).mono ?_
    rintro e w3 ⟨rfl, R3, T3⟩
    have n1 := (R3.nd 0 n rfl).c1
    have H := hid (C'.out.use HN.out T2.out R3 T3)
    clear R3 T3
    go_wp2
    go_ret2
    refine ⟨_, ?_, getL_yes HN.out, ?_, S'.out.trans H.out.2⟩
    · rw [getV_yes HN.out, has_yes HN.out]; rfl
    · rw [if_pos (has_yes HN.out), if_pos (has_yes HN.out)]; exact H.out.1
  · rw [hf] at hrun
    simp only [ptrV] at hrun
    have C' : Hid (CacheI (w.setCell ⟨c, 5, none⟩ (.int .i64 ((miss : Int) + 1))) c mb ns room met (miss + 1)) := hid (C.set5 (miss + 1))
    have S' : Hid (Stp c mb ns ns w (w.setCell ⟨c, 5, none⟩ (.int .i64 ((miss : Int) + 1)))) := hid (Stp.set 5 _)
    have HF := hid hf
    have hw : IntKind.i64.wrap ((miss : Int) + 1) = (miss : Int) + 1 := IntWalk.i64_in _ (by omega)
    clear hkey hf C
    go_enter Try.func13, Try.ntmps13
    go_wp2
    go_ret2
    refine ⟨ns, ?_, getL_no HF.out, ?_, S'.out⟩
    · rw [getV_no HF.out, has_no HF.out]; rfl
    · simp only [has_no HF.out]; exact C'.out
theorem has_I (C : CacheI w c mb ns room met miss) (k : Int) (hk : (Lit.int .i64 k).wf = true) :
    Calls Try.prog 22 #[.pointer (some ⟨c, 0, none⟩), (.int .i64 k)] w fun e w' => e = .returned (.bool (hasL (kv ns) (.int .i64 k))) ∧ w' = w := by
  have hkey : keyOf Try.prog 3 (.int .i64 k) = some (.int .i64 k) := keyOf_int_mk Try.underlying3 hk
  have hrun := map_look C.map keyed_I Try.underlying84 (zero_I w) hkey
  have c1 := C.a
  rcases fnd_cases ns (.int .i64 k) with ⟨n, hn, hnk, hf⟩ | hf
  · rw [hf] at hrun
    simp only [ptrV] at hrun
    have HN := hid hn
    clear hkey hf hn hnk C
    go_enter Try.func22, Try.ntmps22
    go_wp2
    go_ret
    exact ⟨by rw [has_yes HN.out]; rfl, rfl⟩
  · rw [hf] at hrun
    simp only [ptrV] at hrun
    have HF := hid hf
    clear hkey hf C
    go_enter Try.func22, Try.ntmps22
    go_wp2
    go_ret
    exact ⟨by rw [has_no HF.out]; rfl, rfl⟩
theorem drop_I (C : CacheI w c mb ns room met miss) (k : Int) (hk : (Lit.int .i64 k).wf = true) :
    Calls Try.prog 15 #[.pointer (some ⟨c, 0, none⟩), (.int .i64 k)] w (DropPost Try.prog 3 IsI w c mb ns room met miss (.int .i64 k)) := by
  have hkey : keyOf Try.prog 3 (.int .i64 k) = some (.int .i64 k) := keyOf_int_mk Try.underlying3 hk
  have hrun := map_look C.map keyed_I Try.underlying84 (zero_I w) hkey
  have c1 := C.a
  rcases fnd_cases ns (.int .i64 k) with ⟨n, hn, hnk, hf⟩ | hf
  · rw [hf] at hrun
    simp only [ptrV] at hrun
    have HN := hid hn
    have HK : Hid (keyOf Try.prog 3 (.int .i64 k) = some n.k) := hid (hnk ▸ hkey)
    have HC := hid C
    clear hkey hf hn hnk C
    go_enter Try.func15, Try.ntmps15
    go_wp2_with fail
    refine (out_I HC.out.row HN.out).mono ?_
    rintro e w2 ⟨rfl, R2, N2, T2⟩
    obtain ⟨w3, hdel, M3, t3⟩ := map_drop (HC.out.map.of_block (T2.map_block (Ne.symm HC.out.cm) HC.out.nmb)) HC.out.ok keyed_I Try.underlying84 HK.out HN.out 0
    have c1' : w2.cell? ⟨c, 1, none⟩ = some (.map (some mb)) := (T2.cell _ _ (by decide) (by decide)).trans HC.out.a
    have H := hid (HC.out.drop HN.out T2 R2 M3 t3)
    clear R2 N2 T2 M3 t3 hrun
    go_wp2
    go_ret
    exact ⟨by rw [has_yes HN.out]; rfl, H.out⟩
  · rw [hf] at hrun
    simp only [ptrV] at hrun
    have HF := hid hf
    have HC := hid C
    clear hkey hf C
    go_enter Try.func15, Try.ntmps15
    go_wp2
    go_ret
    refine ⟨by rw [has_no HF.out]; rfl, ?_⟩
    rw [erase_no HF.out]
    exact ⟨HC.out, Stp.refl⟩
end

section
variable {w : World} {c mb room met miss : Nat} {ns : List Nd}
theorem put_old_I (C : CacheI w c mb ns room met miss) (k : Int) (hk : (Lit.int .i64 k).wf = true) (v : Int) {n : Nd} (hn : ns[pos ns (.int .i64 k)]? = some n) (hnk : n.k = (.int .i64 k)) (hf : fnd ns (.int .i64 k) = some n.b) :
    Calls Try.prog 11 #[.pointer (some ⟨c, 0, none⟩), (.int .i64 k), .int .i64 v] w (PutPost Try.prog 3 IsI w c mb ns room met miss (.int .i64 k) (.int .i64 0) v) := by
  have hkey : keyOf Try.prog 3 (.int .i64 k) = some (.int .i64 k) := keyOf_int_mk Try.underlying3 hk
  have hrun := map_look C.map keyed_I Try.underlying84 (zero_I w) hkey
  have c1 := C.a
  rw [hf] at hrun
  simp only [ptrV] at hrun
  have nc1 := (C.row.nd _ n hn).c1
  have nz := (C.row.nd _ n hn).fz
  have C' := hid (C.setV hn v)
  have HN := hid (set_get hn ⟨n.k, v, n.b⟩)
  have HP := hid (putL_yes (room := room) (v := v) hn hnk)
  have HR := hid ((C.setV hn v).1.row.nc _ (List.mem_of_getElem? (set_get hn ⟨n.k, v, n.b⟩)))
  clear hkey hf hn hnk C
  go_enter Try.func11, Try.ntmps11
  go_wp2_with fail
  refine (out_I C'.out.1.row HN.out).mono ?_
  rintro e w2 ⟨rfl, R2, N2, T2⟩
  have R2 := hid R2
  have N2 := hid N2
  have T2 := hid T2
  clear nc1 nz
  go_wp2_with fail
  refine (front_I R2.out N2.out (erase_ne_b C'.out.1.row.dj HN.out) HR.out).mono ?_
  rintro e w3 ⟨rfl, R3, T3⟩
  have H := hid (C'.out.1.use HN.out T2.out R3 T3)
  clear R3 T3
  go_wp2
  go_ret2
  rw [set_erase] at H
  refine ⟨_, ?_, HP.out.1, H.out.1, C'.out.2.trans H.out.2⟩
  rw [HP.out.2.1, HP.out.2.2]; rfl
theorem put_new_I (C : CacheI w c mb ns room met miss) (k : Int) (hk : (Lit.int .i64 k).wf = true) (v : Int) (hf : fnd ns (.int .i64 k) = none) (hl : ns.length ≠ room) :
    Calls Try.prog 11 #[.pointer (some ⟨c, 0, none⟩), (.int .i64 k), .int .i64 v] w (PutPost Try.prog 3 IsI w c mb ns room met miss (.int .i64 k) (.int .i64 0) v) := by
  have hkey : keyOf Try.prog 3 (.int .i64 k) = some (.int .i64 k) := keyOf_int_mk Try.underlying3 hk
  have hrun := map_look C.map keyed_I Try.underlying84 (zero_I w) hkey
  have hlen := map_len (C.map.of_block (w' := w.drew) rfl) Try.underlying84 3
  have c1 := C.a
  have c0 := C.r
  rw [hf] at hrun
  simp only [ptrV] at hrun
  have hne : ((ns.length : Int) == (room : Int)) = false := by simp; omega
  have HC := hid C
  have fz := C.row.fz
  have HL := hid hl
  have hcw := within_of C.row.lc
  have HM : Hid (MapAt Try.prog 3 (w.alloc (.cells #[(.int .i64 k), .int .i64 v, .pointer none, .pointer none] 89)).drew mb ns) := hid (C.map.of_block (heap_new w _ C.map.lt))
  have HK := hid hkey
  have HF := hid hf
  have HP := hid (putL_no (v := v) hf hl w.heap.size)
  have HLn := hid (kd_len C)
  clear hkey hf C hl
  go_enter Try.func11, Try.ntmps11
  go_wp2_with fail
  go_region
  all_goals
    go_wp2_with (at_mapUpdate; refine wpList_store rfl _ _ _ 84 rfl keyed_I Try.underlying84 rfl HM.out HLn.out _ ⟨(.int .i64 k), v, w.heap.size⟩ rfl rfl HK.out HF.out ?_; intro w2 M2 t2; clear HM; have HM := hid M2; have HT := hid t2; clear M2 t2)
    refine (front_I (HC.out.row_new ((Below.refl _ _).alloc (Nat.le_refl _) _).drew HT.out) (HC.out.node_new v (.int .i64 k) 89 HT.out rfl) (fun m hm e => by
      obtain ⟨j, hj⟩ := List.mem_iff_getElem?.1 hm
      have := (HC.out.row.nd j m hj).lt
      have e : m.b = w.heap.size := e
      omega) (fun e => by have := HC.out.row.lc; have e : w.heap.size = c := e; omega)).mono ?_
    rintro e w3 ⟨rfl, R3, T3⟩
    have H := hid (HC.out.new (by have := HC.out.le; have := HL.out; omega) rfl ⟨k, hk, rfl⟩ (show WideAt.IsKeyLit (.int .i64 k) from trivial) (fnd_none_ne (show WideAt.IsKeyLit (.int .i64 k) from trivial) HF.out) ((Below.refl _ _).alloc (Nat.le_refl _) _).drew (by simp) HT.out HM.out R3 T3)
    clear R3 T3
    go_wp2
    go_ret2
    refine ⟨_, ?_, HP.out.1, H.out.1, H.out.2⟩
    rw [HP.out.2.1, HP.out.2.2]; rfl
theorem put_full_I (C : CacheI w c mb ns room met miss) (k : Int) (hk : (Lit.int .i64 k).wf = true) (v : Int) (hf : fnd ns (.int .i64 k) = none) (hl : ns.length = room) :
    Calls Try.prog 11 #[.pointer (some ⟨c, 0, none⟩), (.int .i64 k), .int .i64 v] w (PutPost Try.prog 3 IsI w c mb ns room met miss (.int .i64 k) (.int .i64 0) v) := by
  have hkey : keyOf Try.prog 3 (.int .i64 k) = some (.int .i64 k) := keyOf_int_mk Try.underlying3 hk
  have hrun := map_look C.map keyed_I Try.underlying84 (zero_I w) hkey
  have hlen := map_len (C.map.of_block (w' := w.drew) rfl) Try.underlying84 3
  have c1 := C.a
  have c0 := C.r
  rw [hf] at hrun
  simp only [ptrV] at hrun
  have hne : ((ns.length : Int) == (room : Int)) = true := by simp; omega
  have h0 := C.lo
  obtain ⟨n, hn⟩ : ∃ n, ns[ns.length - 1]? = some n := ⟨_, List.getElem?_eq_getElem (by omega)⟩
  have cl := ptr_some C.row.l (b := n.b) (by unfold lst; rw [hn]; rfl)
  have hn0 := (C.row.nd _ n hn).c0
  obtain ⟨g, hg, hgk⟩ := C.kd n (List.mem_of_getElem? hn)
  rw [hgk, value_I] at hn0
  have hpos := (fnd_get C.ok hn).2
  have HC : Hid (CacheI w.drew c mb ns room met miss) := hid (C.drewN 1)
  have HD : Hid (Calls Try.prog 15 #[.pointer (some ⟨c, 0, none⟩), (.int .i64 g)] w.drew (DropPost Try.prog 3 IsI w.drew c mb ns room met miss (.int .i64 g))) := hid (drop_I HC.out g hg)
  have HK := hid hkey
  have HF : Hid (fnd (ns.eraseIdx (ns.length - 1)) (.int .i64 k) = none) := hid (fnd_erase_none (show WideAt.IsKeyLit (.int .i64 k) from trivial) hf _)
  have HP := fun b => putL_full (v := v) hf hl hn b
  have HP := hid HP
  have HLe : Hid ((ns.eraseIdx (ns.length - 1)).length < room) := hid (by rw [List.length_eraseIdx, if_pos (by omega)]; omega)
  rw [hgk] at hpos HP
  have hpos := hid hpos
  clear hkey hf C hl hn h0 hgk hg
  go_enter Try.func11, Try.ntmps11
  go_wp2_with fail
  go_region
  all_goals
    go_wp2_with fail
    refine HD.out.mono ?_
    rintro e w2 ⟨rfl, C2, S2⟩
    rw [hpos.out] at C2 S2
    have c1 := C2.a
    have hcw := within_of C2.row.lc
    have HM : Hid (MapAt Try.prog 3 (w2.alloc (.cells #[(.int .i64 k), .int .i64 v, .pointer none, .pointer none] 89)) mb (ns.eraseIdx (ns.length - 1))) := hid (C2.map.of_block (heap_new w2 _ C2.map.lt))
    have HLn := hid (kd_len C2)
    have C2 := hid C2
    have S2 := hid S2
    go_wp2_with (at_mapUpdate; refine wpList_store rfl _ _ _ 84 rfl keyed_I Try.underlying84 rfl HM.out HLn.out _ ⟨(.int .i64 k), v, w2.heap.size⟩ rfl rfl HK.out HF.out ?_; intro w4 M2 t2; clear HM; have HM := hid M2; have HT := hid t2; clear M2 t2)
    refine (front_I (C2.out.row_new ((Below.refl _ _).alloc (Nat.le_refl _) _) HT.out) (C2.out.node_new v (.int .i64 k) 89 HT.out rfl) (fun m hm e => by
      obtain ⟨j, hj⟩ := List.mem_iff_getElem?.1 hm
      have := (C2.out.row.nd j m hj).lt
      have e : m.b = w2.heap.size := e
      omega) (fun e => by have := C2.out.row.lc; have e : w2.heap.size = c := e; omega)).mono ?_
    rintro e w3 ⟨rfl, R3, T3⟩
    have H := hid (C2.out.new HLe.out rfl ⟨k, hk, rfl⟩ (show WideAt.IsKeyLit (.int .i64 k) from trivial) (fnd_none_ne (show WideAt.IsKeyLit (.int .i64 k) from trivial) HF.out) ((Below.refl _ _).alloc (Nat.le_refl _) _) (by simp) HT.out HM.out R3 T3)
    clear R3 T3
    go_wp2
    go_ret2
    refine ⟨_, ?_, (HP.out w2.heap.size).1, H.out.1, (Stp.refl.drewN 1).trans (S2.out.trans H.out.2)⟩
    rw [(HP.out 0).2.1, (HP.out 0).2.2]; rfl
theorem put_I (C : CacheI w c mb ns room met miss) (k : Int) (hk : (Lit.int .i64 k).wf = true) (v : Int) :
    Calls Try.prog 11 #[.pointer (some ⟨c, 0, none⟩), (.int .i64 k), .int .i64 v] w (PutPost Try.prog 3 IsI w c mb ns room met miss (.int .i64 k) (.int .i64 0) v) := by
  rcases fnd_cases ns (.int .i64 k) with ⟨n, hn, hnk, hf⟩ | hf
  · exact put_old_I C k hk v hn hnk hf
  · rcases Nat.lt_or_ge ns.length room with h | h
    · exact put_new_I C k hk v hf (by omega)
    · exact put_full_I C k hk v hf (by have := C.le; omega)
end

section
variable {w : World} {c mb room met miss : Nat} {ns : List Nd}
theorem len_I (C : CacheI w c mb ns room met miss) : Calls Try.prog 20 #[.pointer (some ⟨c, 0, none⟩)] w fun e w' => e = .returned (.int .i64 (ns.length : Nat)) ∧ w' = w := by
  have hlen := map_len C.map Try.underlying84 3
  have c1 := C.a
  clear C
  go_enter Try.func20, Try.ntmps20
  go_wp2
  go_ret
  exact ⟨rfl, rfl⟩
theorem met_I (C : CacheI w c mb ns room met miss) : Calls Try.prog 19 #[.pointer (some ⟨c, 0, none⟩)] w fun e w' => e = .returned (.tuple #[.int .i64 (met : Nat), .int .i64 (miss : Nat)]) ∧ w' = w.drew := by
  have c4 := C.m
  have c5 := C.s
  clear C
  go_enter Try.func19, Try.ntmps19
  go_wp2
  go_region
  all_goals
    go_wp2
    go_ret2
    exact ⟨rfl, rfl⟩
end

def IsB (l : Lit) : Prop := ∃ k : Int, ((Lit.int .u8 k).wf = true) ∧ l = (.int .u8 k)
theorem value_B (k : Int) : Lit.value (.int .u8 k) = (.int .u8 k) := rfl
theorem isKey_B {l : Lit} (h : IsB l) : WideAt.IsKeyLit l := by obtain ⟨k, _, rfl⟩ := h; trivial
abbrev CacheB := CacheAt Try.prog 5 IsB
theorem keyed_B : Keyed Try.prog 5 := int_keyed Try.underlying5
theorem zero_B (w : World) : (zeroValue 92).run Try.prog w = .ok (.pointer none) w := by kernel_rfl
section
variable {w : World} {c mb room met miss : Nat} {ns : List Nd}
theorem get_B (C : CacheB w c mb ns room met miss) (hm : met < 1000000) (hs : miss < 1000000) (k : Int) (hk : (Lit.int .u8 k).wf = true) :
    Calls Try.prog 59 #[.pointer (some ⟨c, 0, none⟩), (.int .u8 k)] w (GetPost Try.prog 5 IsB w c mb ns room met miss (.int .u8 k)) := by
  have hkey : keyOf Try.prog 5 (.int .u8 k) = some (.int .u8 k) := keyOf_int_mk Try.underlying5 hk
  have hrun := map_look C.map keyed_B Try.underlying91 (zero_B w) hkey
  have c1 := C.a
  have c4 := C.m
  have c5 := C.s
  have fz := C.row.fz
  rcases fnd_cases ns (.int .u8 k) with ⟨n, hn, hnk, hf⟩ | hf
  · rw [hf] at hrun
    simp only [ptrV] at hrun
    have C' : Hid (CacheB (w.setCell ⟨c, 4, none⟩ (.int .i64 ((met : Int) + 1))) c mb ns room (met + 1) miss) := hid (C.set4 (met + 1))
    have S' : Hid (Stp c mb ns ns w (w.setCell ⟨c, 4, none⟩ (.int .i64 ((met : Int) + 1)))) := hid (Stp.set 4 _)
    have HN := hid hn
    have hw : IntKind.i64.wrap ((met : Int) + 1) = (met : Int) + 1 := IntWalk.i64_in _ (by omega)
    clear hkey hf hn hnk C
    go_enter Try.func59, Try.ntmps59
    go_wp2_with fail
    refine (out_B C'.out.row HN.out).mono ?_
    rintro e w2 ⟨rfl, R2, N2, T2⟩
    have R2 := hid R2
    have N2 := hid N2
    have T2 := hid T2
    go_wp2_with fail
    refine (front_B R2.out N2.out (erase_ne_b C'.out.row.dj HN.out) (C'.out.row.nc n (List.mem_of_getElem? HN.out))).mono ?_
    rintro e w3 ⟨rfl, R3, T3⟩
    have n1 := (R3.nd 0 n rfl).c1
    have H := hid (C'.out.use HN.out T2.out R3 T3)
    clear R3 T3
    go_wp2
    go_ret2
    refine ⟨_, ?_, getL_yes HN.out, ?_, S'.out.trans H.out.2⟩
    · rw [getV_yes HN.out, has_yes HN.out]; rfl
    · rw [if_pos (has_yes HN.out), if_pos (has_yes HN.out)]; exact H.out.1
  · rw [hf] at hrun
    simp only [ptrV] at hrun
    have C' : Hid (CacheB (w.setCell ⟨c, 5, none⟩ (.int .i64 ((miss : Int) + 1))) c mb ns room met (miss + 1)) := hid (C.set5 (miss + 1))
    have S' : Hid (Stp c mb ns ns w (w.setCell ⟨c, 5, none⟩ (.int .i64 ((miss : Int) + 1)))) := hid (Stp.set 5 _)
    have HF := hid hf
    have hw : IntKind.i64.wrap ((miss : Int) + 1) = (miss : Int) + 1 := IntWalk.i64_in _ (by omega)
    clear hkey hf C
    go_enter Try.func59, Try.ntmps59
    go_wp2
    go_ret2
    refine ⟨ns, ?_, getL_no HF.out, ?_, S'.out⟩
    · rw [getV_no HF.out, has_no HF.out]; rfl
    · simp only [has_no HF.out]; exact C'.out
theorem has_B (C : CacheB w c mb ns room met miss) (k : Int) (hk : (Lit.int .u8 k).wf = true) :
    Calls Try.prog 26 #[.pointer (some ⟨c, 0, none⟩), (.int .u8 k)] w fun e w' => e = .returned (.bool (hasL (kv ns) (.int .u8 k))) ∧ w' = w := by
  have hkey : keyOf Try.prog 5 (.int .u8 k) = some (.int .u8 k) := keyOf_int_mk Try.underlying5 hk
  have hrun := map_look C.map keyed_B Try.underlying91 (zero_B w) hkey
  have c1 := C.a
  rcases fnd_cases ns (.int .u8 k) with ⟨n, hn, hnk, hf⟩ | hf
  · rw [hf] at hrun
    simp only [ptrV] at hrun
    have HN := hid hn
    clear hkey hf hn hnk C
    go_enter Try.func26, Try.ntmps26
    go_wp2
    go_ret
    exact ⟨by rw [has_yes HN.out]; rfl, rfl⟩
  · rw [hf] at hrun
    simp only [ptrV] at hrun
    have HF := hid hf
    clear hkey hf C
    go_enter Try.func26, Try.ntmps26
    go_wp2
    go_ret
    exact ⟨by rw [has_no HF.out]; rfl, rfl⟩
theorem drop_B (C : CacheB w c mb ns room met miss) (k : Int) (hk : (Lit.int .u8 k).wf = true) :
    Calls Try.prog 72 #[.pointer (some ⟨c, 0, none⟩), (.int .u8 k)] w (DropPost Try.prog 5 IsB w c mb ns room met miss (.int .u8 k)) := by
  have hkey : keyOf Try.prog 5 (.int .u8 k) = some (.int .u8 k) := keyOf_int_mk Try.underlying5 hk
  have hrun := map_look C.map keyed_B Try.underlying91 (zero_B w) hkey
  have c1 := C.a
  rcases fnd_cases ns (.int .u8 k) with ⟨n, hn, hnk, hf⟩ | hf
  · rw [hf] at hrun
    simp only [ptrV] at hrun
    have HN := hid hn
    have HK : Hid (keyOf Try.prog 5 (.int .u8 k) = some n.k) := hid (hnk ▸ hkey)
    have HC := hid C
    clear hkey hf hn hnk C
    go_enter Try.func72, Try.ntmps72
    go_wp2_with fail
    refine (out_B HC.out.row HN.out).mono ?_
    rintro e w2 ⟨rfl, R2, N2, T2⟩
    obtain ⟨w3, hdel, M3, t3⟩ := map_drop (HC.out.map.of_block (T2.map_block (Ne.symm HC.out.cm) HC.out.nmb)) HC.out.ok keyed_B Try.underlying91 HK.out HN.out 0
    have c1' : w2.cell? ⟨c, 1, none⟩ = some (.map (some mb)) := (T2.cell _ _ (by decide) (by decide)).trans HC.out.a
    have H := hid (HC.out.drop HN.out T2 R2 M3 t3)
    clear R2 N2 T2 M3 t3 hrun
    go_wp2
    go_ret
    exact ⟨by rw [has_yes HN.out]; rfl, H.out⟩
  · rw [hf] at hrun
    simp only [ptrV] at hrun
    have HF := hid hf
    have HC := hid C
    clear hkey hf C
    go_enter Try.func72, Try.ntmps72
    go_wp2
    go_ret
    refine ⟨by rw [has_no HF.out]; rfl, ?_⟩
    rw [erase_no HF.out]
    exact ⟨HC.out, Stp.refl⟩
end

section
variable {w : World} {c mb room met miss : Nat} {ns : List Nd}
theorem put_old_B (C : CacheB w c mb ns room met miss) (k : Int) (hk : (Lit.int .u8 k).wf = true) (v : Int) {n : Nd} (hn : ns[pos ns (.int .u8 k)]? = some n) (hnk : n.k = (.int .u8 k)) (hf : fnd ns (.int .u8 k) = some n.b) :
    Calls Try.prog 60 #[.pointer (some ⟨c, 0, none⟩), (.int .u8 k), .int .i64 v] w (PutPost Try.prog 5 IsB w c mb ns room met miss (.int .u8 k) (.int .u8 0) v) := by
  have hkey : keyOf Try.prog 5 (.int .u8 k) = some (.int .u8 k) := keyOf_int_mk Try.underlying5 hk
  have hrun := map_look C.map keyed_B Try.underlying91 (zero_B w) hkey
  have c1 := C.a
  rw [hf] at hrun
  simp only [ptrV] at hrun
  have nc1 := (C.row.nd _ n hn).c1
  have nz := (C.row.nd _ n hn).fz
  have C' := hid (C.setV hn v)
  have HN := hid (set_get hn ⟨n.k, v, n.b⟩)
  have HP := hid (putL_yes (room := room) (v := v) hn hnk)
  have HR := hid ((C.setV hn v).1.row.nc _ (List.mem_of_getElem? (set_get hn ⟨n.k, v, n.b⟩)))
  clear hkey hf hn hnk C
  go_enter Try.func60, Try.ntmps60
  go_wp2_with fail
  refine (out_B C'.out.1.row HN.out).mono ?_
  rintro e w2 ⟨rfl, R2, N2, T2⟩
  have R2 := hid R2
  have N2 := hid N2
  have T2 := hid T2
  clear nc1 nz
  go_wp2_with fail
  refine (front_B R2.out N2.out (erase_ne_b C'.out.1.row.dj HN.out) HR.out).mono ?_
  rintro e w3 ⟨rfl, R3, T3⟩
  have H := hid (C'.out.1.use HN.out T2.out R3 T3)
  clear R3 T3
  go_wp2
  go_ret2
  rw [set_erase] at H
  refine ⟨_, ?_, HP.out.1, H.out.1, C'.out.2.trans H.out.2⟩
  rw [HP.out.2.1, HP.out.2.2]; rfl
theorem put_new_B (C : CacheB w c mb ns room met miss) (k : Int) (hk : (Lit.int .u8 k).wf = true) (v : Int) (hf : fnd ns (.int .u8 k) = none) (hl : ns.length ≠ room) :
    Calls Try.prog 60 #[.pointer (some ⟨c, 0, none⟩), (.int .u8 k), .int .i64 v] w (PutPost Try.prog 5 IsB w c mb ns room met miss (.int .u8 k) (.int .u8 0) v) := by
  have hkey : keyOf Try.prog 5 (.int .u8 k) = some (.int .u8 k) := keyOf_int_mk Try.underlying5 hk
  have hrun := map_look C.map keyed_B Try.underlying91 (zero_B w) hkey
  have hlen := map_len (C.map.of_block (w' := w.drew) rfl) Try.underlying91 3
  have c1 := C.a
  have c0 := C.r
  rw [hf] at hrun
  simp only [ptrV] at hrun
  have hne : ((ns.length : Int) == (room : Int)) = false := by simp; omega
  have HC := hid C
  have fz := C.row.fz
  have HL := hid hl
  have hcw := within_of C.row.lc
  have HM : Hid (MapAt Try.prog 5 (w.alloc (.cells #[(.int .u8 k), .int .i64 v, .pointer none, .pointer none] 99)).drew mb ns) := hid (C.map.of_block (heap_new w _ C.map.lt))
  have HK := hid hkey
  have HF := hid hf
  have HP := hid (putL_no (v := v) hf hl w.heap.size)
  have HLn := hid (kd_len C)
  clear hkey hf C hl
  go_enter Try.func60, Try.ntmps60
  go_wp2_with fail
  go_region
  all_goals
    go_wp2_with (at_mapUpdate; refine wpList_store rfl _ _ _ 91 rfl keyed_B Try.underlying91 rfl HM.out HLn.out _ ⟨(.int .u8 k), v, w.heap.size⟩ rfl rfl HK.out HF.out ?_; intro w2 M2 t2; clear HM; have HM := hid M2; have HT := hid t2; clear M2 t2)
    refine (front_B (HC.out.row_new ((Below.refl _ _).alloc (Nat.le_refl _) _).drew HT.out) (HC.out.node_new v (.int .u8 k) 99 HT.out rfl) (fun m hm e => by
      obtain ⟨j, hj⟩ := List.mem_iff_getElem?.1 hm
      have := (HC.out.row.nd j m hj).lt
      have e : m.b = w.heap.size := e
      omega) (fun e => by have := HC.out.row.lc; have e : w.heap.size = c := e; omega)).mono ?_
    rintro e w3 ⟨rfl, R3, T3⟩
    have H := hid (HC.out.new (by have := HC.out.le; have := HL.out; omega) rfl ⟨k, hk, rfl⟩ (show WideAt.IsKeyLit (.int .u8 k) from trivial) (fnd_none_ne (show WideAt.IsKeyLit (.int .u8 k) from trivial) HF.out) ((Below.refl _ _).alloc (Nat.le_refl _) _).drew (by simp) HT.out HM.out R3 T3)
    clear R3 T3
    go_wp2
    go_ret2
    refine ⟨_, ?_, HP.out.1, H.out.1, H.out.2⟩
    rw [HP.out.2.1, HP.out.2.2]; rfl
theorem put_full_B (C : CacheB w c mb ns room met miss) (k : Int) (hk : (Lit.int .u8 k).wf = true) (v : Int) (hf : fnd ns (.int .u8 k) = none) (hl : ns.length = room) :
    Calls Try.prog 60 #[.pointer (some ⟨c, 0, none⟩), (.int .u8 k), .int .i64 v] w (PutPost Try.prog 5 IsB w c mb ns room met miss (.int .u8 k) (.int .u8 0) v) := by
  have hkey : keyOf Try.prog 5 (.int .u8 k) = some (.int .u8 k) := keyOf_int_mk Try.underlying5 hk
  have hrun := map_look C.map keyed_B Try.underlying91 (zero_B w) hkey
  have hlen := map_len (C.map.of_block (w' := w.drew) rfl) Try.underlying91 3
  have c1 := C.a
  have c0 := C.r
  rw [hf] at hrun
  simp only [ptrV] at hrun
  have hne : ((ns.length : Int) == (room : Int)) = true := by simp; omega
  have h0 := C.lo
  obtain ⟨n, hn⟩ : ∃ n, ns[ns.length - 1]? = some n := ⟨_, List.getElem?_eq_getElem (by omega)⟩
  have cl := ptr_some C.row.l (b := n.b) (by unfold lst; rw [hn]; rfl)
  have hn0 := (C.row.nd _ n hn).c0
  obtain ⟨g, hg, hgk⟩ := C.kd n (List.mem_of_getElem? hn)
  rw [hgk, value_B] at hn0
  have hpos := (fnd_get C.ok hn).2
  have HC : Hid (CacheB w.drew c mb ns room met miss) := hid (C.drewN 1)
  have HD : Hid (Calls Try.prog 72 #[.pointer (some ⟨c, 0, none⟩), (.int .u8 g)] w.drew (DropPost Try.prog 5 IsB w.drew c mb ns room met miss (.int .u8 g))) := hid (drop_B HC.out g hg)
  have HK := hid hkey
  have HF : Hid (fnd (ns.eraseIdx (ns.length - 1)) (.int .u8 k) = none) := hid (fnd_erase_none (show WideAt.IsKeyLit (.int .u8 k) from trivial) hf _)
  have HP := fun b => putL_full (v := v) hf hl hn b
  have HP := hid HP
  have HLe : Hid ((ns.eraseIdx (ns.length - 1)).length < room) := hid (by rw [List.length_eraseIdx, if_pos (by omega)]; omega)
  rw [hgk] at hpos HP
  have hpos := hid hpos
  clear hkey hf C hl hn h0 hgk hg
  go_enter Try.func60, Try.ntmps60
  go_wp2_with fail
  go_region
  all_goals
    go_wp2_with fail
    refine HD.out.mono ?_
    rintro e w2 ⟨rfl, C2, S2⟩
    rw [hpos.out] at C2 S2
    have c1 := C2.a
    have hcw := within_of C2.row.lc
    have HM : Hid (MapAt Try.prog 5 (w2.alloc (.cells #[(.int .u8 k), .int .i64 v, .pointer none, .pointer none] 99)) mb (ns.eraseIdx (ns.length - 1))) := hid (C2.map.of_block (heap_new w2 _ C2.map.lt))
    have HLn := hid (kd_len C2)
    have C2 := hid C2
    have S2 := hid S2
    go_wp2_with (at_mapUpdate; refine wpList_store rfl _ _ _ 91 rfl keyed_B Try.underlying91 rfl HM.out HLn.out _ ⟨(.int .u8 k), v, w2.heap.size⟩ rfl rfl HK.out HF.out ?_; intro w4 M2 t2; clear HM; have HM := hid M2; have HT := hid t2; clear M2 t2)
    refine (front_B (C2.out.row_new ((Below.refl _ _).alloc (Nat.le_refl _) _) HT.out) (C2.out.node_new v (.int .u8 k) 99 HT.out rfl) (fun m hm e => by
      obtain ⟨j, hj⟩ := List.mem_iff_getElem?.1 hm
      have := (C2.out.row.nd j m hj).lt
      have e : m.b = w2.heap.size := e
      omega) (fun e => by have := C2.out.row.lc; have e : w2.heap.size = c := e; omega)).mono ?_
    rintro e w3 ⟨rfl, R3, T3⟩
    have H := hid (C2.out.new HLe.out rfl ⟨k, hk, rfl⟩ (show WideAt.IsKeyLit (.int .u8 k) from trivial) (fnd_none_ne (show WideAt.IsKeyLit (.int .u8 k) from trivial) HF.out) ((Below.refl _ _).alloc (Nat.le_refl _) _) (by simp) HT.out HM.out R3 T3)
    clear R3 T3
    go_wp2
    go_ret2
    refine ⟨_, ?_, (HP.out w2.heap.size).1, H.out.1, (Stp.refl.drewN 1).trans (S2.out.trans H.out.2)⟩
    rw [(HP.out 0).2.1, (HP.out 0).2.2]; rfl
theorem put_B (C : CacheB w c mb ns room met miss) (k : Int) (hk : (Lit.int .u8 k).wf = true) (v : Int) :
    Calls Try.prog 60 #[.pointer (some ⟨c, 0, none⟩), (.int .u8 k), .int .i64 v] w (PutPost Try.prog 5 IsB w c mb ns room met miss (.int .u8 k) (.int .u8 0) v) := by
  rcases fnd_cases ns (.int .u8 k) with ⟨n, hn, hnk, hf⟩ | hf
  · exact put_old_B C k hk v hn hnk hf
  · rcases Nat.lt_or_ge ns.length room with h | h
    · exact put_new_B C k hk v hf (by omega)
    · exact put_full_B C k hk v hf (by have := C.le; omega)
end

def IsS (l : Lit) : Prop := ∃ k : ByteArray, (k.size ≤ maxLen) ∧ l = (.string k.data.toList)
theorem value_S (k : ByteArray) : Lit.value (.string k.data.toList) = (.string k) := rfl
theorem isKey_S {l : Lit} (h : IsS l) : WideAt.IsKeyLit l := by obtain ⟨k, _, rfl⟩ := h; trivial
abbrev CacheS := CacheAt Try.prog 9 IsS
theorem keyed_S : Keyed Try.prog 9 := string_keyed Try.underlying9
theorem zero_S (w : World) : (zeroValue 106).run Try.prog w = .ok (.pointer none) w := by kernel_rfl
section
variable {w : World} {c mb room met miss : Nat} {ns : List Nd}
theorem get_S (C : CacheS w c mb ns room met miss) (hm : met < 1000000) (hs : miss < 1000000) (k : ByteArray) (hk : k.size ≤ maxLen) :
    Calls Try.prog 46 #[.pointer (some ⟨c, 0, none⟩), (.string k)] w (GetPost Try.prog 9 IsS w c mb ns room met miss (.string k.data.toList)) := by
  have hkey : keyOf Try.prog 9 (.string k) = some (.string k.data.toList) := WideMaps.keyOf_string_mk Try.underlying9 hk
  have hrun := map_look C.map keyed_S Try.underlying105 (zero_S w) hkey
  have c1 := C.a
  have c4 := C.m
  have c5 := C.s
  have fz := C.row.fz
  rcases fnd_cases ns (.string k.data.toList) with ⟨n, hn, hnk, hf⟩ | hf
  · rw [hf] at hrun
    simp only [ptrV] at hrun
    have C' : Hid (CacheS (w.setCell ⟨c, 4, none⟩ (.int .i64 ((met : Int) + 1))) c mb ns room (met + 1) miss) := hid (C.set4 (met + 1))
    have S' : Hid (Stp c mb ns ns w (w.setCell ⟨c, 4, none⟩ (.int .i64 ((met : Int) + 1)))) := hid (Stp.set 4 _)
    have HN := hid hn
    have hw : IntKind.i64.wrap ((met : Int) + 1) = (met : Int) + 1 := IntWalk.i64_in _ (by omega)
    clear hkey hf hn hnk C
    go_enter Try.func46, Try.ntmps46
    go_wp2_with fail
    refine (out_S C'.out.row HN.out).mono ?_
    rintro e w2 ⟨rfl, R2, N2, T2⟩
    have R2 := hid R2
    have N2 := hid N2
    have T2 := hid T2
    go_wp2_with fail
    refine (front_S R2.out N2.out (erase_ne_b C'.out.row.dj HN.out) (C'.out.row.nc n (List.mem_of_getElem? HN.out))).mono ?_
    rintro e w3 ⟨rfl, R3, T3⟩
    have n1 := (R3.nd 0 n rfl).c1
    have H := hid (C'.out.use HN.out T2.out R3 T3)
    clear R3 T3
    go_wp2
    go_ret2
    refine ⟨_, ?_, getL_yes HN.out, ?_, S'.out.trans H.out.2⟩
    · rw [getV_yes HN.out, has_yes HN.out]; rfl
    · rw [if_pos (has_yes HN.out), if_pos (has_yes HN.out)]; exact H.out.1
  · rw [hf] at hrun
    simp only [ptrV] at hrun
    have C' : Hid (CacheS (w.setCell ⟨c, 5, none⟩ (.int .i64 ((miss : Int) + 1))) c mb ns room met (miss + 1)) := hid (C.set5 (miss + 1))
    have S' : Hid (Stp c mb ns ns w (w.setCell ⟨c, 5, none⟩ (.int .i64 ((miss : Int) + 1)))) := hid (Stp.set 5 _)
    have HF := hid hf
    have hw : IntKind.i64.wrap ((miss : Int) + 1) = (miss : Int) + 1 := IntWalk.i64_in _ (by omega)
    clear hkey hf C
    go_enter Try.func46, Try.ntmps46
    go_wp2
    go_ret2
    refine ⟨ns, ?_, getL_no HF.out, ?_, S'.out⟩
    · rw [getV_no HF.out, has_no HF.out]; rfl
    · simp only [has_no HF.out]; exact C'.out
theorem has_S (C : CacheS w c mb ns room met miss) (k : ByteArray) (hk : k.size ≤ maxLen) :
    Calls Try.prog 56 #[.pointer (some ⟨c, 0, none⟩), (.string k)] w fun e w' => e = .returned (.bool (hasL (kv ns) (.string k.data.toList))) ∧ w' = w := by
  have hkey : keyOf Try.prog 9 (.string k) = some (.string k.data.toList) := WideMaps.keyOf_string_mk Try.underlying9 hk
  have hrun := map_look C.map keyed_S Try.underlying105 (zero_S w) hkey
  have c1 := C.a
  rcases fnd_cases ns (.string k.data.toList) with ⟨n, hn, hnk, hf⟩ | hf
  · rw [hf] at hrun
    simp only [ptrV] at hrun
    have HN := hid hn
    clear hkey hf hn hnk C
    go_enter Try.func56, Try.ntmps56
    go_wp2
    go_ret
    exact ⟨by rw [has_yes HN.out]; rfl, rfl⟩
  · rw [hf] at hrun
    simp only [ptrV] at hrun
    have HF := hid hf
    clear hkey hf C
    go_enter Try.func56, Try.ntmps56
    go_wp2
    go_ret
    exact ⟨by rw [has_no HF.out]; rfl, rfl⟩
theorem drop_S (C : CacheS w c mb ns room met miss) (k : ByteArray) (hk : k.size ≤ maxLen) :
    Calls Try.prog 52 #[.pointer (some ⟨c, 0, none⟩), (.string k)] w (DropPost Try.prog 9 IsS w c mb ns room met miss (.string k.data.toList)) := by
  have hkey : keyOf Try.prog 9 (.string k) = some (.string k.data.toList) := WideMaps.keyOf_string_mk Try.underlying9 hk
  have hrun := map_look C.map keyed_S Try.underlying105 (zero_S w) hkey
  have c1 := C.a
  rcases fnd_cases ns (.string k.data.toList) with ⟨n, hn, hnk, hf⟩ | hf
  · rw [hf] at hrun
    simp only [ptrV] at hrun
    have HN := hid hn
    have HK : Hid (keyOf Try.prog 9 (.string k) = some n.k) := hid (hnk ▸ hkey)
    have HC := hid C
    clear hkey hf hn hnk C
    go_enter Try.func52, Try.ntmps52
    go_wp2_with fail
    refine (out_S HC.out.row HN.out).mono ?_
    rintro e w2 ⟨rfl, R2, N2, T2⟩
    obtain ⟨w3, hdel, M3, t3⟩ := map_drop (HC.out.map.of_block (T2.map_block (Ne.symm HC.out.cm) HC.out.nmb)) HC.out.ok keyed_S Try.underlying105 HK.out HN.out 0
    have c1' : w2.cell? ⟨c, 1, none⟩ = some (.map (some mb)) := (T2.cell _ _ (by decide) (by decide)).trans HC.out.a
    have H := hid (HC.out.drop HN.out T2 R2 M3 t3)
    clear R2 N2 T2 M3 t3 hrun
    go_wp2
    go_ret
    exact ⟨by rw [has_yes HN.out]; rfl, H.out⟩
  · rw [hf] at hrun
    simp only [ptrV] at hrun
    have HF := hid hf
    have HC := hid C
    clear hkey hf C
    go_enter Try.func52, Try.ntmps52
    go_wp2
    go_ret
    refine ⟨by rw [has_no HF.out]; rfl, ?_⟩
    rw [erase_no HF.out]
    exact ⟨HC.out, Stp.refl⟩
end

section
variable {w : World} {c mb room met miss : Nat} {ns : List Nd}
theorem put_old_S (C : CacheS w c mb ns room met miss) (k : ByteArray) (hk : k.size ≤ maxLen) (v : Int) {n : Nd} (hn : ns[pos ns (.string k.data.toList)]? = some n) (hnk : n.k = (.string k.data.toList)) (hf : fnd ns (.string k.data.toList) = some n.b) :
    Calls Try.prog 45 #[.pointer (some ⟨c, 0, none⟩), (.string k), .int .i64 v] w (PutPost Try.prog 9 IsS w c mb ns room met miss (.string k.data.toList) (.string ByteArray.empty) v) := by
  have hkey : keyOf Try.prog 9 (.string k) = some (.string k.data.toList) := WideMaps.keyOf_string_mk Try.underlying9 hk
  have hrun := map_look C.map keyed_S Try.underlying105 (zero_S w) hkey
  have c1 := C.a
  rw [hf] at hrun
  simp only [ptrV] at hrun
  have nc1 := (C.row.nd _ n hn).c1
  have nz := (C.row.nd _ n hn).fz
  have C' := hid (C.setV hn v)
  have HN := hid (set_get hn ⟨n.k, v, n.b⟩)
  have HP := hid (putL_yes (room := room) (v := v) hn hnk)
  have HR := hid ((C.setV hn v).1.row.nc _ (List.mem_of_getElem? (set_get hn ⟨n.k, v, n.b⟩)))
  clear hkey hf hn hnk C
  go_enter Try.func45, Try.ntmps45
  go_wp2_with fail
  refine (out_S C'.out.1.row HN.out).mono ?_
  rintro e w2 ⟨rfl, R2, N2, T2⟩
  have R2 := hid R2
  have N2 := hid N2
  have T2 := hid T2
  clear nc1 nz
  go_wp2_with fail
  refine (front_S R2.out N2.out (erase_ne_b C'.out.1.row.dj HN.out) HR.out).mono ?_
  rintro e w3 ⟨rfl, R3, T3⟩
  have H := hid (C'.out.1.use HN.out T2.out R3 T3)
  clear R3 T3
  go_wp2
  go_ret2
  rw [set_erase] at H
  refine ⟨_, ?_, HP.out.1, H.out.1, C'.out.2.trans H.out.2⟩
  rw [HP.out.2.1, HP.out.2.2]; rfl
theorem put_new_S (C : CacheS w c mb ns room met miss) (k : ByteArray) (hk : k.size ≤ maxLen) (v : Int) (hf : fnd ns (.string k.data.toList) = none) (hl : ns.length ≠ room) :
    Calls Try.prog 45 #[.pointer (some ⟨c, 0, none⟩), (.string k), .int .i64 v] w (PutPost Try.prog 9 IsS w c mb ns room met miss (.string k.data.toList) (.string ByteArray.empty) v) := by
  have hkey : keyOf Try.prog 9 (.string k) = some (.string k.data.toList) := WideMaps.keyOf_string_mk Try.underlying9 hk
  have hrun := map_look C.map keyed_S Try.underlying105 (zero_S w) hkey
  have hlen := map_len (C.map.of_block (w' := w.drew) rfl) Try.underlying105 3
  have c1 := C.a
  have c0 := C.r
  rw [hf] at hrun
  simp only [ptrV] at hrun
  have hne : ((ns.length : Int) == (room : Int)) = false := by simp; omega
  have HC := hid C
  have fz := C.row.fz
  have HL := hid hl
  have hcw := within_of C.row.lc
  have HM : Hid (MapAt Try.prog 9 (w.alloc (.cells #[(.string k), .int .i64 v, .pointer none, .pointer none] 110)).drew mb ns) := hid (C.map.of_block (heap_new w _ C.map.lt))
  have HK := hid hkey
  have HF := hid hf
  have HP := hid (putL_no (v := v) hf hl w.heap.size)
  have HLn := hid (kd_len C)
  clear hkey hf C hl
  go_enter Try.func45, Try.ntmps45
  go_wp2_with fail
  go_region
  all_goals
    go_wp2_with (at_mapUpdate; refine wpList_store rfl _ _ _ 105 rfl keyed_S Try.underlying105 rfl HM.out HLn.out _ ⟨(.string k.data.toList), v, w.heap.size⟩ rfl rfl HK.out HF.out ?_; intro w2 M2 t2; clear HM; have HM := hid M2; have HT := hid t2; clear M2 t2)
    refine (front_S (HC.out.row_new ((Below.refl _ _).alloc (Nat.le_refl _) _).drew HT.out) (HC.out.node_new v (.string k.data.toList) 110 HT.out rfl) (fun m hm e => by
      obtain ⟨j, hj⟩ := List.mem_iff_getElem?.1 hm
      have := (HC.out.row.nd j m hj).lt
      have e : m.b = w.heap.size := e
      omega) (fun e => by have := HC.out.row.lc; have e : w.heap.size = c := e; omega)).mono ?_
    rintro e w3 ⟨rfl, R3, T3⟩
    have H := hid (HC.out.new (by have := HC.out.le; have := HL.out; omega) rfl ⟨k, hk, rfl⟩ (show WideAt.IsKeyLit (.string k.data.toList) from trivial) (fnd_none_ne (show WideAt.IsKeyLit (.string k.data.toList) from trivial) HF.out) ((Below.refl _ _).alloc (Nat.le_refl _) _).drew (by simp) HT.out HM.out R3 T3)
    clear R3 T3
    go_wp2
    go_ret2
    refine ⟨_, ?_, HP.out.1, H.out.1, H.out.2⟩
    rw [HP.out.2.1, HP.out.2.2]; rfl
theorem put_full_S (C : CacheS w c mb ns room met miss) (k : ByteArray) (hk : k.size ≤ maxLen) (v : Int) (hf : fnd ns (.string k.data.toList) = none) (hl : ns.length = room) :
    Calls Try.prog 45 #[.pointer (some ⟨c, 0, none⟩), (.string k), .int .i64 v] w (PutPost Try.prog 9 IsS w c mb ns room met miss (.string k.data.toList) (.string ByteArray.empty) v) := by
  have hkey : keyOf Try.prog 9 (.string k) = some (.string k.data.toList) := WideMaps.keyOf_string_mk Try.underlying9 hk
  have hrun := map_look C.map keyed_S Try.underlying105 (zero_S w) hkey
  have hlen := map_len (C.map.of_block (w' := w.drew) rfl) Try.underlying105 3
  have c1 := C.a
  have c0 := C.r
  rw [hf] at hrun
  simp only [ptrV] at hrun
  have hne : ((ns.length : Int) == (room : Int)) = true := by simp; omega
  have h0 := C.lo
  obtain ⟨n, hn⟩ : ∃ n, ns[ns.length - 1]? = some n := ⟨_, List.getElem?_eq_getElem (by omega)⟩
  have cl := ptr_some C.row.l (b := n.b) (by unfold lst; rw [hn]; rfl)
  have hn0 := (C.row.nd _ n hn).c0
  obtain ⟨g, hg, hgk⟩ := C.kd n (List.mem_of_getElem? hn)
  rw [hgk, value_S] at hn0
  have hpos := (fnd_get C.ok hn).2
  have HC : Hid (CacheS w.drew c mb ns room met miss) := hid (C.drewN 1)
  have HD : Hid (Calls Try.prog 52 #[.pointer (some ⟨c, 0, none⟩), (.string g)] w.drew (DropPost Try.prog 9 IsS w.drew c mb ns room met miss (.string g.data.toList))) := hid (drop_S HC.out g hg)
  have HK := hid hkey
  have HF : Hid (fnd (ns.eraseIdx (ns.length - 1)) (.string k.data.toList) = none) := hid (fnd_erase_none (show WideAt.IsKeyLit (.string k.data.toList) from trivial) hf _)
  have HP := fun b => putL_full (v := v) hf hl hn b
  have HP := hid HP
  have HLe : Hid ((ns.eraseIdx (ns.length - 1)).length < room) := hid (by rw [List.length_eraseIdx, if_pos (by omega)]; omega)
  rw [hgk] at hpos HP
  have hpos := hid hpos
  clear hkey hf C hl hn h0 hgk hg
  go_enter Try.func45, Try.ntmps45
  go_wp2_with fail
  go_region
  all_goals
    go_wp2_with fail
    refine HD.out.mono ?_
    rintro e w2 ⟨rfl, C2, S2⟩
    rw [hpos.out] at C2 S2
    have c1 := C2.a
    have hcw := within_of C2.row.lc
    have HM : Hid (MapAt Try.prog 9 (w2.alloc (.cells #[(.string k), .int .i64 v, .pointer none, .pointer none] 110)) mb (ns.eraseIdx (ns.length - 1))) := hid (C2.map.of_block (heap_new w2 _ C2.map.lt))
    have HLn := hid (kd_len C2)
    have C2 := hid C2
    have S2 := hid S2
    go_wp2_with (at_mapUpdate; refine wpList_store rfl _ _ _ 105 rfl keyed_S Try.underlying105 rfl HM.out HLn.out _ ⟨(.string k.data.toList), v, w2.heap.size⟩ rfl rfl HK.out HF.out ?_; intro w4 M2 t2; clear HM; have HM := hid M2; have HT := hid t2; clear M2 t2)
    refine (front_S (C2.out.row_new ((Below.refl _ _).alloc (Nat.le_refl _) _) HT.out) (C2.out.node_new v (.string k.data.toList) 110 HT.out rfl) (fun m hm e => by
      obtain ⟨j, hj⟩ := List.mem_iff_getElem?.1 hm
      have := (C2.out.row.nd j m hj).lt
      have e : m.b = w2.heap.size := e
      omega) (fun e => by have := C2.out.row.lc; have e : w2.heap.size = c := e; omega)).mono ?_
    rintro e w3 ⟨rfl, R3, T3⟩
    have H := hid (C2.out.new HLe.out rfl ⟨k, hk, rfl⟩ (show WideAt.IsKeyLit (.string k.data.toList) from trivial) (fnd_none_ne (show WideAt.IsKeyLit (.string k.data.toList) from trivial) HF.out) ((Below.refl _ _).alloc (Nat.le_refl _) _) (by simp) HT.out HM.out R3 T3)
    clear R3 T3
    go_wp2
    go_ret2
    refine ⟨_, ?_, (HP.out w2.heap.size).1, H.out.1, (Stp.refl.drewN 1).trans (S2.out.trans H.out.2)⟩
    rw [(HP.out 0).2.1, (HP.out 0).2.2]; rfl
theorem put_S (C : CacheS w c mb ns room met miss) (k : ByteArray) (hk : k.size ≤ maxLen) (v : Int) :
    Calls Try.prog 45 #[.pointer (some ⟨c, 0, none⟩), (.string k), .int .i64 v] w (PutPost Try.prog 9 IsS w c mb ns room met miss (.string k.data.toList) (.string ByteArray.empty) v) := by
  rcases fnd_cases ns (.string k.data.toList) with ⟨n, hn, hnk, hf⟩ | hf
  · exact put_old_S C k hk v hn hnk hf
  · rcases Nat.lt_or_ge ns.length room with h | h
    · exact put_new_S C k hk v hf (by omega)
    · exact put_full_S C k hk v hf (by have := C.le; omega)
end

section
variable {w : World} {c mb room met miss : Nat} {ns : List Nd}
theorem len_S (C : CacheS w c mb ns room met miss) : Calls Try.prog 55 #[.pointer (some ⟨c, 0, none⟩)] w fun e w' => e = .returned (.int .i64 (ns.length : Nat)) ∧ w' = w := by
  have hlen := map_len C.map Try.underlying105 3
  have c1 := C.a
  clear C
  go_enter Try.func55, Try.ntmps55
  go_wp2
  go_ret
  exact ⟨rfl, rfl⟩
theorem met_S (C : CacheS w c mb ns room met miss) : Calls Try.prog 51 #[.pointer (some ⟨c, 0, none⟩)] w fun e w' => e = .returned (.tuple #[.int .i64 (met : Nat), .int .i64 (miss : Nat)]) ∧ w' = w.drew := by
  have c4 := C.m
  have c5 := C.s
  clear C
  go_enter Try.func51, Try.ntmps51
  go_wp2
  go_region
  all_goals
    go_wp2
    go_ret2
    exact ⟨rfl, rfl⟩
end
end Go.Proofs.Yticgpiipikneiaa
