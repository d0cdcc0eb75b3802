/- Two meters joined. -/
import Derived.Test.YtldhbodhpdhncaaMm
import Derived.Test.YtldhbodhpdhncaaMs
import Derived.Test.YtldhbodhpdhncaaMp
set_option linter.unusedSimpArgs false
set_option linter.unusedVariables false
namespace Go.Proofs.Ytldhbodhpdhncaa
open Go.ChangeShapes Go.WideShapes Go.RowKit Go.Mor Go.Fl

theorem Kp.cell {g h : Nat} {w w' : World} (k : Kp g h w w') {b o : Nat} (hb : b < w.heap.size) (n1 : b ≠ g) (n2 : b ≠ h) : w'.cell? ⟨b, o, none⟩ = w.cell? ⟨b, o, none⟩ := World.cell?_of_block (k.block b hb n1 n2)
theorem Kp.frozen {g h : Nat} {w w' : World} (k : Kp g h w w') {b o : Nat} (hb : b < w.heap.size) (n1 : b ≠ g) (n2 : b ≠ h) : w'.frozen? ⟨b, o, none⟩ = w.frozen? ⟨b, o, none⟩ := World.frozen?_of_block (k.block b hb n1 n2)
/-- Of two meters none's blocks are the other's. -/
structure Apart (g h g2 h2 : Nat) (A2 : Option Addr) : Prop where
  gg : g2 ≠ g
  gh : g2 ≠ h
  hg : h2 ≠ g
  hh : h2 ≠ h
  eg : ∀ b off, A2 = some ⟨b, off, none⟩ → b ≠ g ∧ b ≠ h
theorem MeterAt.kp {w w' : World} {g h g2 h2 : Nat} {E C : List Nat} {nn lo hi s : Nat} {A : Option Addr} {c k : Nat} (m : MeterAt w g2 h2 E C nn lo hi s A c k) (q : Kp g h w w') (a : Apart g h g2 h2 A) : MeterAt w' g2 h2 E C nn lo hi s A c k where
  ne := m.ne
  lg := Nat.lt_of_lt_of_le m.lg q.size
  lh := Nat.lt_of_lt_of_le m.lh q.size
  c0 := by rw [q.cell m.lg a.gg a.gh]; exact m.c0
  c1 := by rw [q.cell m.lg a.gg a.gh]; exact m.c1
  c2 := by rw [q.cell m.lg a.gg a.gh]; exact m.c2
  c3 := by rw [q.cell m.lg a.gg a.gh]; exact m.c3
  c4 := by rw [q.cell m.lg a.gg a.gh]; exact m.c4
  c5 := by rw [q.cell m.lg a.gg a.gh]; exact m.c5
  cs := fun j v hj => by rw [q.cell m.lh a.hg a.hh]; exact m.cs j v hj
  fg := fun o => by rw [q.frozen m.lg a.gg a.gh]; exact m.fg o
  fh := fun o => by rw [q.frozen m.lh a.hg a.hh]; exact m.fh o
  ed := by
    rcases m.ed with x | ⟨b, off, h1, h2, n1, n2, h3⟩
    · exact .inl x
    · obtain ⟨e1, e2⟩ := a.eg b off h1
      exact .inr ⟨b, off, h1, Nat.lt_of_lt_of_le h2 q.size, n1, n2, fun j y hy => by rw [q.cell h2 e1 e2]; exact h3 j y hy⟩
  fe := m.fe
  re := m.re
  le := m.le
  lc := m.lc
  ll := m.ll
  lu := m.lu
theorem name_world {P : Program} {c : Code} {Q : Exit → Act → World → Prop} {a : Act} {w : World} (h : ∀ W, W = w → c.wp P Q a W) : c.wp P Q a w := h w rfl
theorem MeterAt.drewN {w : World} {g h : Nat} {E C : List Nat} {nn lo hi s : Nat} {A : Option Addr} {c k : Nat} (m : MeterAt w g h E C nn lo hi s A c k) (n : Nat) : MeterAt (w.drewN n) g h E C nn lo hi s A c k := m.keep (drawn_below w n)
theorem Kp.drewN {g h : Nat} {a w : World} (x : Kp g h a w) (n : Nat) : Kp g h a (w.drewN n) := ⟨x.os, x.tape, x.output, x.size, x.block⟩
/-- Of other edges: refused. -/
theorem join_len {g h g2 h2 : Nat} {E C E2 C2 : List Nat} {nn lo hi s nn2 lo2 hi2 s2 : Nat} {A A2 : Option Addr} {c k c2 k2 : Nat} {w : World} (m : MeterAt w g h E C nn lo hi s A c k) (m2 : MeterAt w g2 h2 E2 C2 nn2 lo2 hi2 s2 A2 c2 k2) (hne : E.length ≠ E2.length) :
    Calls Try.prog 56 #[.pointer (some ⟨g, 0, none⟩), .pointer (some ⟨g2, 0, none⟩)] w fun e w' => e = .returned (.int .i64 1) ∧ Below w.heap.size w w' := by
  have h0 := m.c0
  have h20 := m2.c0
  have hg := within_of m.lg
  have hg2 := within_of m2.lg
  clear m m2
  go_enter Try.func56, Try.ntmps56
  go_wp2
  go_quiet ((go_at_call 63; exact quietL (equal_len _ _ _ _ _ _ _ hne)))
  go_wp2
  go_ret
  exact ⟨rfl, drawn_below _ _⟩
def JoinC (C D : List Nat) (j : Nat) (F : List Nat) : Prop := ∀ i v u, C[i]? = some v → D[i]? = some u → F[i]? = some (if i < j then v + u else v)
theorem joinC_zero (C D : List Nat) : JoinC C D 0 C := fun i v u h _ => by rw [if_neg (by omega)]; exact h
theorem joinC_succ {C D F : List Nat} {j v u : Nat} (h : JoinC C D j F) (hv : C[j]? = some v) (hu : D[j]? = some u) : JoinC C D (j + 1) (F.set j (v + u)) := by
  intro i x y hx hy
  have hF := h j v u hv hu
  have hlt := (List.getElem?_eq_some_iff.1 hF).1
  rw [List.getElem?_set]
  by_cases e : j = i
  · subst e
    rw [hv] at hx; rw [hu] at hy
    injection hx with hx; injection hy with hy
    subst hx; subst hy
    simp [hlt]
  · rw [if_neg e, h i x y hx hy]
    by_cases hi : i < j
    · rw [if_pos hi, if_pos (by omega)]
    · rw [if_neg hi, if_neg (by omega)]
def jL (lo x : Nat) : Nat := if cmpN x lo < 0 then x else lo
def jG (hi x : Nat) : Nat := if 0 < cmpN x hi then x else hi
def JoinPost (g h : Nat) (E C C2 : List Nat) (nn lo hi s : Nat) (A : Option Addr) (c k nn2 lo2 hi2 s2 : Nat) (w : World) (e : Ending) (w' : World) : Prop :=
  ∃ F s3, e = .returned (.int .i64 0) ∧ JoinC C C2 C.length F ∧ resB .add s s2 s3 = true ∧ Kp g h w w' ∧ MeterAt w' g h E F (nn + nn2) (jL lo lo2) (jG hi hi2) s3 A c k
set_option maxRecDepth 100000 in
set_option maxHeartbeats 2000000 in
theorem join_of {g h g2 h2 : Nat} {E C C2 : List Nat} {nn lo hi s nn2 lo2 hi2 s2 : Nat} {A A2 : Option Addr} {c k c2 k2 : Nat} {w : World} (m : MeterAt w g h E C nn lo hi s A c k) (m2 : MeterAt w g2 h2 E C2 nn2 lo2 hi2 s2 A2 c2 k2) (ap : Apart g h g2 h2 A2)
    (hn : nn < 1000000) (hn2 : nn2 < 1000000) (hcap : ∀ v ∈ C, v < 1000000) (hcap2 : ∀ v ∈ C2, v < 1000000) :
    Calls Try.prog 56 #[.pointer (some ⟨g, 0, none⟩), .pointer (some ⟨g2, 0, none⟩)] w (JoinPost g h E C C2 nn lo hi s A c k nn2 lo2 hi2 s2 w) := by
  have h0 := m.c0
  have h20 := m2.c0
  have hg := within_of m.lg
  have hg2 := within_of m2.lg
  have M := hid m
  have M2 := hid m2
  have AP := hid ap
  have HC := hid hcap
  have HC2 := hid hcap2
  have FA := hid m.ed.flt
  have FA2 := hid m2.ed.flt
  have HEl : Hid (E.length ≤ 100000) := hid (Nat.le_trans m.le (by decide))
  obtain ⟨n, hnl⟩ : ∃ n, E.length = n := ⟨_, rfl⟩
  rw [hnl] at h0 h20
  have HN := hid hnl
  rw [hnl] at HEl
  have hnb : n ≤ 1000 := by rw [← hnl]; exact m.le
  have h21 := m2.c1
  rw [m2.lc, hnl] at h21
  clear m m2 ap hcap hcap2 hnl
  go_enter Try.func56, Try.ntmps56
  go_wp2
  go_quiet ((go_at_call 63; exact quietL (equal_yes _ _ _ _ _ _ _ HN.out HEl.out FA.out FA2.out)))
  go_wp2
  go_loopw [5, 6, 26] (fun _ _ t wr => ∃ (j : Nat) (F : List Nat), j ≤ n + 1 ∧ t = .int .i64 j ∧ Kp g h w wr ∧ MeterAt wr g h E F nn lo hi s A c k ∧ JoinC C C2 j F) (fun _ _ t _ => n + 1 - (intOf t).toNat)
  case atStart => exact ⟨0, C, Nat.zero_le _, rfl, Kp.of_below (drawn_below _ _), M.out.keep (drawn_below _ _), joinC_zero _ _⟩
  case round =>
    rename_i wr
    obtain ⟨j, F, hj, rfl, kp, mF, jF⟩ := hrel
    have m2 := M2.out.kp kp AP.out
    have KP := hid kp
    have MF := hid mF
    have JF := hid jF
    have MO := hid m2
    have hgr := within_of mF.lg
    have hgr2 := within_of m2.lg
    by_cases hlt : j < n + 1
    · obtain ⟨v, hv⟩ : ∃ v, C[j]? = some v := ⟨_, List.getElem?_eq_getElem (by have := M.out.lc; have := HN.out; omega)⟩
      obtain ⟨u, hu⟩ : ∃ u, C2[j]? = some u := ⟨_, List.getElem?_eq_getElem (by have := M2.out.lc; have := HN.out; omega)⟩
      have hF : F[j]? = some v := by have := jF j v u hv hu; rwa [if_neg (by omega)] at this
      have hFl := (List.getElem?_eq_some_iff.1 hF).1
      have hc1 := mF.c1
      rw [mF.lc, HN.out] at hc1
      have hcv := mF.cs j v hF
      have hcu := m2.cs j u hu
      have hz := mF.fh
      have hh := within_of mF.lh
      have hh2 := within_of m2.lh
      have hvb := HC.out v (List.mem_of_getElem? hv)
      have hub := HC2.out u (List.mem_of_getElem? hu)
      have hi0 : (0 : Int) ≤ (j : Int) := by omega
      have hi1 : (j : Int) < (n : Int) + 1 := by omega
      have HV := hid hv
      have HU := hid hu
      have HFl := hid hFl
      clear kp mF jF m2 hv hu hF hFl
      go_wp2
      refine ⟨⟨j + 1, F.set j (v + u), by omega, by go_num, KP.out.set _ _ (.inr rfl), MF.out.setC j (v + u) HFl.out, joinC_succ JF.out HV.out HU.out⟩, by simp [intOf]; omega⟩
    · have hjn : j = n + 1 := by omega
      have JF : Hid (JoinC C C2 C.length F) := hid (by have e : C.length = n + 1 := by rw [M.out.lc, HN.out]
                                                       rw [e, ← hjn]; exact jF)
      have a2 := mF.c2
      have a3 := mF.c3
      have a4 := mF.c4
      have a5 := mF.c5
      have b2 := m2.c2
      have b3 := m2.c3
      have b4 := m2.c4
      have b5 := m2.c5
      have hz := mF.fg
      have hne := AP.out.gg
      have hne2 : ¬ g = g2 := fun e => hne e.symm
      have LO := hid mF.ll
      have HI := hid mF.lu
      have LO2 := hid m2.ll
      have HI2 := hid m2.lu
      clear kp mF jF m2 hlt
      have hjb : ¬ ((j : Int) < (n : Int) + 1) := by omega
      have hsum : IntKind.i64.wrap ((nn : Int) + (nn2 : Int)) = (nn : Int) + (nn2 : Int) := IntWalk.i64_in _ (by omega)
      go_wp2
      go_still_tail 11, (by kernel_rfl)
      repeat still_step
      change wpList _ _ _ _ _ wr.drew
      clear hsum
      go_wp2
      refine name_world ?_
      intro W9 h9
      have K9 : Kp g h w W9 := by rw [h9]; exact (KP.out.set _ _ (.inl rfl)).drew
      have M9 : MeterAt W9 g h E F (nn + nn2) lo hi s A c k := by rw [h9]; exact (MF.out.set2 (nn + nn2)).drew
      clear h9 a2 a3 a4 a5 b2 b3 b4 b5 hz hgr hgr2
      have O9 := M2.out.kp K9 AP.out
      have a3 := M9.c3
      have b3 := O9.c3
      have hz := M9.fg
      have hgr := within_of M9.lg
      have hgr2 := within_of O9.lg
      have K9 := hid K9
      have M9 := hid M9
      have O9 := hid O9
      go_quiet ((go_at_call 16; exact quietL (compare_any _ _ _ LO2.out LO.out)))
      go_wp2
      all_goals
        refine name_world ?_
        intro W10 h10
        have K10 : Kp g h w W10 := by rw [h10]; first | exact (K9.out.drewN _).set _ _ (.inl rfl) | exact K9.out.drewN _
        have M10 : MeterAt W10 g h E F (nn + nn2) (jL lo lo2) hi s A c k := by
          rw [h10]; unfold jL
          first
            | (rw [if_pos (by assumption)]; exact (M9.out.drewN _).set3 _ LO2.out)
            | (rw [if_neg (by omega)]; exact M9.out.drewN _)
        clear h10 a3 b3 hz hgr hgr2
        have O10 := M2.out.kp K10 AP.out
        have a4 := M10.c4
        have b4 := O10.c4
        have hz := M10.fg
        have hgr := within_of M10.lg
        have hgr2 := within_of O10.lg
        have K10 := hid K10
        have M10 := hid M10
        have O10 := hid O10
        go_quiet ((go_at_call 16; exact quietL (compare_any _ _ _ HI2.out HI.out)))
        go_wp2
        all_goals
          refine name_world ?_
          intro W11 h11
          have K11 : Kp g h w W11 := by rw [h11]; first | exact (K10.out.drewN _).set _ _ (.inl rfl) | exact K10.out.drewN _
          have M11 : MeterAt W11 g h E F (nn + nn2) (jL lo lo2) (jG hi hi2) s A c k := by
            rw [h11]; unfold jG
            first
              | (rw [if_pos (by assumption)]; exact (M10.out.drewN _).set4 _ HI2.out)
              | (rw [if_neg (by omega)]; exact M10.out.drewN _)
          clear h11 a4 b4 hz hgr hgr2
          have O11 := M2.out.kp K11 AP.out
          have a5 := M11.c5
          have b5 := O11.c5
          have hz := M11.fg
          have hgr := within_of M11.lg
          have hgr2 := within_of O11.lg
          have K11 := hid K11
          have M11 := hid M11
          have O11 := hid O11
          cases hok : okF .add s s2
          all_goals
            go_still_tail 8, (by kernel_rfl)
            repeat still_step
            change wpList _ _ _ _ _ W11.drew
            go_wp2
            go_ret
            first
              | exact ⟨F, _, rfl, JF.out, resB_ok hok, ((K11.out.set _ _ (.inl rfl)).drew), ((M11.out.set5 _).drew)⟩
              | exact ⟨F, _, rfl, JF.out, resB_no hok _, ((K11.out.set _ _ (.inl rfl)).drew.drew), ((M11.out.set5 _).drew.drew)⟩
end Go.Proofs.Ytldhbodhpdhncaa
