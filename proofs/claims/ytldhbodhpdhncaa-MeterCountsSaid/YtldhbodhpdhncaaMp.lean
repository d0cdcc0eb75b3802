/- The walk of the reference's counts. -/
import Derived.Test.YtldhbodhpdhncaaMo
set_option linter.unusedSimpArgs false
set_option linter.unusedVariables false
namespace Go.Proofs.Ytldhbodhpdhncaa
open Go.ChangeShapes Go.WideShapes Go.RowKit Go.Mor Go.Fl

/-- Counts that lie in a block of their own. -/
structure CntAt (w : World) (h : Nat) (C : List Nat) : Prop where
  lh : h < w.heap.size
  cs : ∀ (j v : Nat), C[j]? = some v → w.cell? ⟨h, j, none⟩ = some (.int .i64 (v : Int))
  fz : ∀ o, w.frozen? ⟨h, o, none⟩ = false
theorem CntAt.set {w : World} {h : Nat} {C : List Nat} (m : CntAt w h C) (i x : Nat) (hi : i < C.length) : CntAt (w.setCell ⟨h, i, none⟩ (.int .i64 (x : Int))) h (C.set i x) where
  lh := Nat.lt_of_lt_of_le m.lh (size_set ..)
  cs := fun j v hj => by
    by_cases e : i = j
    · subst e
      rw [List.getElem?_set, if_pos rfl, if_pos hi] at hj
      injection hj with hj
      subst hj
      exact cs_same (m.cs i _ (List.getElem?_eq_getElem hi))
    · rw [List.getElem?_set, if_neg e] at hj
      rw [cs_other (off_ne e)]; exact m.cs j v hj
  fz := fun o => by rw [fz_set]; exact m.fz o
theorem CntAt.keep {w w' : World} {h : Nat} {C : List Nat} (m : CntAt w h C) (hb : Below w.heap.size w w') : CntAt w' h C :=
  ⟨Nat.lt_of_lt_of_le m.lh hb.size, fun j v hj => by rw [hb.cell m.lh]; exact m.cs j v hj, fun o => by rw [hb.frozen m.lh]; exact m.fz o⟩
theorem flt_kp {w w' : World} {h : Nat} {A : Option Addr} {l : List Nat} (x : Flt w A l) (k : Kp h h w w') (hn : ∀ b off, A = some ⟨b, off, none⟩ → b ≠ h) : Flt w' A l := by
  rcases x with x | ⟨b, off, h1, h2, h3⟩
  · exact .inl x
  · refine .inr ⟨b, off, h1, Nat.lt_of_lt_of_le h2 k.size, fun j y hy => ?_⟩
    rw [World.cell?_of_block (w := w) (k.block b h2 (hn b off h1) (hn b off h1))]
    exact h3 j y hy
def RCPost (E l : List Nat) (w : World) (e : Ending) (w' : World) : Prop := ∃ A c, e = .returned (.slice A (E.length + 1) c) ∧ Below w.heap.size w w' ∧ Ins w' A (countN E (someN l))
set_option maxHeartbeats 2000000 in
set_option maxRecDepth 100000 in
theorem refCounts_any (A B : Option Addr) (n c m d : Nat) (E l : List Nat) (w : World) (hE : E.length = n) (hn : n ≤ 1000) (hA : Flt w A E) (fE : fits E) (hl : l.length = m) (hm : m ≤ 1000) (hB : Flt w B l) (fl : fits l) :
    Calls Try.prog 41 #[.slice A n c, .slice B m d] w (RCPost E l w) := by
  obtain ⟨i0, hi, hz0, hz1, hz2⟩ := info_parts info3
  have hmk : ∀ w' : World, (Instr.makeSlice 55 (.int .i64 ((n : Int) + 1)) (.int .i64 ((n : Int) + 1))).run Try.prog w' = .ok (.slice (some ⟨w'.heap.size, 0, none⟩) (n + 1) (n + 1)) (w'.alloc (.cells (madeCells #[Value.int .i64 0] (n + 1)) 3)) := fun w' => by
    have hr := run_makeSlice (P := Try.prog) w' 55 3 i0 _ under55 hi hz0 .i64 .i64 ((n : Int) + 1) ((n : Int) + 1) (by omega) (Int.le_refl _) (by rw [hz1]; omega) (by rw [hz2]; omega) (by omega)
    have e : ((n : Int) + 1).toNat = n + 1 := by omega
    rw [e, hz1, Nat.mul_one] at hr
    exact hr
  clear hi hz0 hz1 hz2
  have HE := hid hE
  have HA := hid hA
  have HB := hid hB
  have FE := hid fE
  have FL := hid fl
  have HLl := hid hl
  clear hE hA hB fE fl hl
  go_enter Try.func41, Try.ntmps41
  go_wp2_with fail
  refine (some_any B m d l _ HLl.out hm (flt_ext HB.out ((Below.refl _ _).alloc (Nat.le_refl _) _))).mono ?_
  rintro e w' ⟨SA, sc, rfl, hb, hS, hbase⟩
  have hb0 : Below w.heap.size w (w.alloc (.cells (madeCells #[Value.int .i64 0] (n + 1)) 3)) := (Below.refl _ _).alloc (Nat.le_refl _) _
  have hbw : Below w.heap.size w w' := hb0.trans (hb.mono (by simp))
  have c0 : CntAt (w.alloc (.cells (madeCells #[Value.int .i64 0] (n + 1)) 3)) w.heap.size (List.replicate (E.length + 1) 0) := by
    refine ⟨by simp, fun j v hj => ?_, fun o => by simp⟩
    rw [List.getElem?_replicate] at hj
    split at hj
    · injection hj with hj
      subst hj
      have := made_cell (n + 1) j (by have := HE.out; omega)
      simp [this]
    · cases hj
  have c1 : CntAt w' w.heap.size (countN E ((someN l).take 0)) := c0.keep hb
  have fA : Flt w' A E := flt_ext HA.out hbw
  have hbase2 : ∀ b off, SA = some ⟨b, off, none⟩ → b ≠ w.heap.size := fun b off h => by have := hbase b off h; simp at this; omega
  have nA : ∀ b off, A = some ⟨b, off, none⟩ → E ≠ [] → b ≠ w.heap.size := fun b off h hne => by
    rcases HA.out with x | ⟨b2, o2, h1, h2, _⟩
    · exact absurd x hne
    · rw [h1] at h; injection h with h; injection h with h _ _; omega
  have fS : fits (someN l) := fun x hx => FL.out x (List.mem_filter.1 hx).1
  obtain ⟨S, hSl⟩ : ∃ S, someN l = S := ⟨_, rfl⟩
  have HSl := hid hSl
  rw [hSl] at c1 hS fS ⊢
  have hSm : S.length ≤ 1000 := by
    have : (someN l).length ≤ l.length := List.length_filter_le _ _
    have := HLl.out
    rw [← hSl]; omega
  obtain ⟨M, hM⟩ : ∃ M, S.length = M := ⟨_, rfl⟩
  have HM := hid hM
  rw [hM] at hSm ⊢
  have C1 := hid c1
  have FA := hid fA
  have FS := hid hS
  have fS := hid fS
  have NS := hid hbase2
  have NA := hid nA
  have HBW := hid hbw
  clear c1 fA hS hbase hbase2 nA hSl hM hb0 c0 hbw hb
  go_wp2
  go_loopw [7, 8] (fun i _ wr => ∃ k : Nat, k ≤ M ∧ i = .int .i64 k ∧ Kp w.heap.size w.heap.size w' wr ∧ CntAt wr w.heap.size (countN E (S.take k))) (fun i _ _ => M - (intOf i).toNat)
  case atStart => exact ⟨0, Nat.zero_le _, rfl, Kp.refl _ _ _, C1.out⟩
  case round =>
    rename_i wr
    obtain ⟨k, hk, rfl, kp, cn⟩ := hrel
    have KP := hid kp
    have CN := hid cn
    by_cases hlt : k < M
    · obtain ⟨x, hx⟩ : ∃ x, S[k]? = some x := ⟨_, List.getElem?_eq_getElem (by have := HM.out; omega)⟩
      have FSr := flt_kp FS.out kp NS.out
      obtain ⟨g, o, hSA, hbb, hc⟩ := FSr.at hx
      subst hSA
      have LX := fits_get fS.out hx
      have FAr : Flt wr A E := by
        by_cases hne : E = []
        · exact .inl hne
        · exact flt_kp FA.out kp fun b off hA => NA.out b off hA hne
      have HBd := hid (refBand_any A n c x E wr HE.out (by omega) FAr FE.out LX)
      have hbl := band_le E x
      have hClen := countN_length E (S.take k)
      have hcap := countN_cap E (S.take k)
      obtain ⟨v, hv⟩ : ∃ v, (countN E (S.take k))[bandN E x]? = some v := ⟨_, List.getElem?_eq_getElem (by omega)⟩
      have hvb := hcap v (List.mem_of_getElem? hv)
      have hvl : (S.take k).length ≤ k := List.length_take_le _ _
      have hcell := cn.cs _ v hv
      have hfz := cn.fz
      have hwr := within_of cn.lh
      have CS := hid (countN_succ (E := E) hx)
      have CE := hid (addC_eq hv)
      have CL : Hid (bandN E x < (countN E (S.take k)).length) := hid (by omega)
      have hEn := HE.out
      obtain ⟨b, hB2⟩ : ∃ b, bandN E x = b := ⟨_, rfl⟩
      rw [hB2] at HBd hbl hcell CE CL
      have hb0 : (0 : Int) ≤ (b : Int) := by omega
      have hb1 : (b : Int) < (n : Int) + 1 := by omega
      have hv1 : (v : Int) ≤ 1000 := by omega
      have hi0 : (0 : Int) ≤ (k : Int) := by omega
      have hi1 : (k : Int) < (M : Int) := by omega
      clear kp cn hx FSr FAr LX hClen hcap hv hvb hvl hB2 hbl hEn
      go_wp2_with (go_at_call 60; refine HBd.out.mono ?_; rintro e w2 ⟨rfl, rfl⟩)
      refine ⟨⟨k + 1, by omega, by go_num, KP.out.set _ _ (.inl rfl), ?_⟩, by simp [intOf]; omega⟩
      rw [CS.out, CE.out]
      exact CN.out.set b (v + 1) CL.out
    · have hkM : k = M := by omega
      have hbB : Below w.heap.size w wr := HBW.out.trans (kp.below HBW.out.size (Nat.le_refl _) (Nat.le_refl _))
      have hI : Ins wr (some ⟨w.heap.size, 0, none⟩) (countN E S) := by
        have h := cn
        rw [List.take_of_length_le (by have := HM.out; omega)] at h
        exact .inr ⟨_, 0, rfl, h.lh, fun j x hx => by rw [Nat.zero_add]; exact h.cs j x hx⟩
      have hI := hid hI
      have hbB := hid hbB
      clear kp cn
      go_wp2
      go_ret
      refine ⟨_, _, by rw [HE.out]; rfl, hbB.out, ?_⟩
      rw [HSl.out]; exact hI.out
end Go.Proofs.Ytldhbodhpdhncaa
