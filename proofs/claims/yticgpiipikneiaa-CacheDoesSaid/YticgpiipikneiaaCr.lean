/- The walk of CacheDoes. No condition. -/
import Derived.Test.YticgpiipikneiaaCq
import Derived.IntWalk
import Derived.Deep.CutRange
set_option linter.unusedSimpArgs false
set_option linter.unusedVariables false
namespace Go.Proofs.Yticgpiipikneiaa
open Go.ChangeShapes Go.WideShapes Go.RowKit Go.Mor Go.Cch Go.Maps

abbrev Oq := Int × Int × Int
def wfO (x : Oq) : Prop := (Lit.int .i64 x.1).wf = true ∧ (Lit.int .i64 x.2.1).wf = true ∧ (Lit.int .i64 x.2.2).wf = true
/-- Acts behind an address. -/
def Ops (w : World) (A : Option Addr) (xs : List Oq) : Prop := xs = [] ∨ ∃ b off, A = some ⟨b, off, none⟩ ∧ b < w.heap.size ∧ ∀ j x, xs[j]? = some x → w.cell? ⟨b, off + j * 3, none⟩ = some (.int .i64 x.1) ∧ w.cell? ⟨b, off + j * 3 + 1, none⟩ = some (.int .i64 x.2.1) ∧ w.cell? ⟨b, off + j * 3 + 2, none⟩ = some (.int .i64 x.2.2)
theorem Ops.at {w : World} {A : Option Addr} {xs : List Oq} (h : Ops w A xs) {j : Nat} {x : Oq} (hj : xs[j]? = some x) : ∃ b off, A = some ⟨b, off, none⟩ ∧ b < w.heap.size ∧ w.cell? ⟨b, off + j * 3, none⟩ = some (.int .i64 x.1) ∧ w.cell? ⟨b, off + j * 3 + 1, none⟩ = some (.int .i64 x.2.1) ∧ w.cell? ⟨b, off + j * 3 + 2, none⟩ = some (.int .i64 x.2.2) := by
  rcases h with h | ⟨b, off, h1, h2, h3⟩
  · subst h; simp at hj
  · exact ⟨b, off, h1, h2, h3 j x hj⟩
theorem op_load {w : World} {b o : Nat} {x : Oq} (h1 : w.cell? ⟨b, o, none⟩ = some (.int .i64 x.1)) (h2 : w.cell? ⟨b, o + 1, none⟩ = some (.int .i64 x.2.1)) (h3 : w.cell? ⟨b, o + 2, none⟩ = some (.int .i64 x.2.2)) :
    (Instr.loadAt 30 (.pointer (some ⟨b, o, none⟩))).run Try.prog w = .ok (.agg #[.int .i64 x.1, .int .i64 x.2.1, .int .i64 x.2.2]) w := by
  have h := run_loadAt_mid (P := Try.prog) w b o 30 [.int .i64 x.1, .int .i64 x.2.1, .int .i64 x.2.2] _ (fun j v hj => by
    match j, hj with
    | 0, hj => simp at hj; subst hj; exact h1
    | 1, hj => simp at hj; subst hj; exact h2
    | 2, hj => simp at hj; subst hj; exact h3
    | j + 3, hj => simp at hj) Try.underlying30 rfl (by kernel_rfl)
  exact h
theorem do_new {w w1 : World} {c mb n : Nat} (C : CacheI w1 c mb [] n 0 0) (hb : Below w.heap.size w w1) (hc : w.heap.size ≤ c) (hm : w.heap.size ≤ mb) : DoAt w c mb n none (kvI []) 0 0 none 0 [] w1 :=
  ⟨[], rfl, C, .inl rfl, trivial, Nat.le_refl _, hb, fun k hk => by simp [own] at hk; rcases hk with rfl | rfl <;> assumption⟩
/-- How it is behind some acts: the slots m, met, miss. -/
def DoSt (w : World) (c mb n : Nat) (ob : Option (Nat × Oq)) (j : Nat) (vm vmet vmiss : Value) (wr : World) : Prop :=
  ∃ (l : List It) (A : Option Addr) (cp met miss : Nat), vm = .slice A l.length cp ∧ vmet = .int .i64 (met : Int) ∧ vmiss = .int .i64 (miss : Int) ∧ met ≤ j ∧ miss ≤ j ∧ DoAt w c mb n ob (kvI l) met miss A cp l wr
set_option maxRecDepth 100000 in
set_option maxHeartbeats 4000000 in
theorem cacheDoes_walk (r : Nat) (hr : r < 256) (A : Option Addr) (n cap : Nat) (xs : List Oq) (w : World) (hl : xs.length = n) (hm : n ≤ maxLen) (hA : Ops w A xs) (hx : ∀ x ∈ xs, wfO x) :
    Calls Try.prog 3 #[.int .u8 (r : Int), .slice A n cap] w fun e w' => e = .returned (.bool true) ∧ Below w.heap.size w w' := by
  by_cases h120 : 120 < n
  · have h2 : (120 : Int) < (n : Int) := by omega
    clear hl hm hA hx
    go_enter Try.func3, Try.ntmps3
    go_wp2_with fail
    refine (works40_any _).mono ?_
    rintro e w2 ⟨rfl, hb2⟩
    have HB := hid hb2
    go_wp2
    go_ret
    exact ⟨rfl, HB.out⟩
  · have h2 : ¬ (120 : Int) < (n : Int) := by omega
    have HL := hid hl
    have HA := hid hA
    have HX := hid hx
    obtain ⟨R, hR⟩ : ∃ R : Nat, R = 1 + r % 9 := ⟨_, rfl⟩
    have hRI : 1 + (r : Int) % 9 = (R : Int) := by omega
    have HN := hid (new_I R (by omega) (by omega) w)
    have hw1 : IntKind.i64.wrap (r : Int) = (r : Int) := IntWalk.i64_in _ (by omega)
    have hw2 : (r : Int).tmod 9 = (r : Int) % 9 := Int.tmod_eq_emod_of_nonneg (by omega)
    have hw3 : IntKind.i64.wrap (R : Int) = (R : Int) := IntWalk.i64_in _ (by omega)
    have hw4 : IntKind.i64.wrap ((r : Int) % 9) = (r : Int) % 9 := IntWalk.i64_in _ (by omega)
    have hR9 : R ≤ 9 := by omega
    clear hl hA hx h120 hm hR
    go_enter Try.func3, Try.ntmps3
    go_wp2_with fail
    refine HN.out.mono ?_
    rintro e w1 ⟨c, mb, rfl, C, hb, hc, hm⟩
    have HT := hid (do_new C hb hc hm)
    clear C hb hc hm
    go_wp2
    go_loopw [8, 9, 10, 11] (fun vm vmet vmiss t wr => ∃ j : Nat, j ≤ n ∧ t = .int .i64 j ∧ DoSt w c mb R none j vm vmet vmiss wr) (fun _ _ _ t _ => n - (intOf t).toNat)
    case atStart => exact ⟨0, Nat.zero_le _, rfl, [], none, 0, 0, 0, rfl, rfl, rfl, Nat.le_refl _, Nat.le_refl _, HT.out⟩
    case round =>
      rename_i wr
      obtain ⟨j, hj, rfl, l, Am, cp, met, miss, rfl, rfl, rfl, m1, m2, hS⟩ := hrel
      have HS := hid hS
      clear hS
      by_cases hlt : j < n
      · obtain ⟨x, hxj⟩ : ∃ x, xs[j]? = some x := ⟨_, List.getElem?_eq_getElem (by rw [HL.out]; exact hlt)⟩
        obtain ⟨b, off, rfl, hbw, hc0, hc1, hc2⟩ := HA.out.at hxj
        obtain ⟨x0, x1, x2⟩ := HX.out x (List.mem_of_getElem? hxj)
        have hB := HS.out.below
        have hd0 := (hB.cell (by exact hbw)).trans hc0
        have hd1 := (hB.cell (by exact hbw)).trans hc1
        have hd2 := (hB.cell (by exact hbw)).trans hc2
        have HO := hid (do_ob HS.out x 30)
        have hi0 : (0 : Int) ≤ (j : Int) := by omega
        have hi1 : (j : Int) < (n : Int) := by omega
        have hwj : IntKind.i64.wrap ((j : Int) + 1) = (j : Int) + 1 := IntWalk.i64_in _ (by omega)
        have x0 := hid x0
        have x1 := hid x1
        have x2 := hid x2
        have hbw := hid hbw
        have hlen : l.length ≤ 9 := by have := HS.out.len; rw [len_kvI] at this; omega
        have hlen := hid hlen
        clear hB hc0 hc1 hc2 hxj
        go_wp2_with fail
        refine (do_find HO.out (by have := hlen.out; omega) x.2.1).mono ?_
        rintro e w2 ⟨rfl, hw2⟩
        subst hw2
        obtain ⟨g, hg⟩ : ∃ g, wr.heap.size = g := ⟨_, rfl⟩
        rw [hg] at HO ⊢
        obtain ⟨wq, hwq⟩ : ∃ wq, wr.alloc (Obj.cells #[Value.int IntKind.i64 x.fst, Value.int IntKind.i64 x.snd.fst, Value.int IntKind.i64 x.snd.snd] 30) = wq := ⟨_, rfl⟩
        rw [hwq] at HO ⊢
        clear hd0 hd1 hd2 hwq hg
        obtain ⟨hgw, o0, o1, o2⟩ := do_act HO.out
        simp only []
        iterate 8 (first | go_values | go_skip | go_guarded | go_step)
        go_cut [8, 9, 10, 13] from 50 to 143 (fun vm vmet vmiss _ wc => DoSt w c mb R (some (g, x)) (j + 1) vm vmet vmiss wc)
        case first =>
          rcases (show x.1 = 0 ∨ x.1 = 1 ∨ x.1 = 2 ∨ x.1 = 3 ∨ x.1 = 4 ∨ x.1 = 5 ∨ (x.1 ≠ 0 ∧ x.1 ≠ 1 ∧ x.1 ≠ 2 ∧ x.1 ≠ 3 ∧ x.1 ≠ 4 ∧ x.1 ≠ 5) by omega) with hk | hk | hk | hk | hk | hk | hk
          · rw [hk] at o0
            obtain ⟨l', g0, t0, p1, p2, p3, p4⟩ := put_cases l R x.2.1 x.2.2 (by omega) (by have := HO.out.len; rwa [len_kvI] at this)
            have P4 := hid p4
            have HP := do_put HO.out x.2.1 x1.out x.2.2
            rw [p2, p3, p1] at HP
            have HP := hid HP
            clear p1 p2 p3 p4
            go_wp2_with fail
            refine HP.out.mono ?_
            rintro e w3 ⟨rfl, h3⟩
            have H3 := hid h3
            clear h3 o0 o1 o2 hgw
            obtain ⟨hgw, o0, o1, o2⟩ := do_act H3.out
            go_wp2_with fail
            refine (do_refput H3.out (by have := hlen.out; omega) P4.out).mono ?_
            rintro e w4 ⟨A', cp', rfl, h4⟩
            have H4 := hid h4
            clear h4
            have hb0 : (t0 != t0) = false := by simp
            go_wp2
            go_meet
            case rel => exact ⟨l', A', cp', met, miss, rfl, rfl, rfl, by omega, by omega, H4.out⟩
          · rw [hk] at o0
            obtain ⟨l', g0, t0, p1, p2, p3, p4⟩ := put_cases l R x.2.1 x.2.2 (by omega) (by have := HO.out.len; rwa [len_kvI] at this)
            have P4 := hid p4
            have HP := do_put HO.out x.2.1 x1.out x.2.2
            rw [p2, p3, p1] at HP
            have HP := hid HP
            clear p1 p2 p3 p4
            go_wp2_with fail
            refine HP.out.mono ?_
            rintro e w3 ⟨rfl, h3⟩
            have H3 := hid h3
            clear h3 o0 o1 o2 hgw
            obtain ⟨hgw, o0, o1, o2⟩ := do_act H3.out
            go_wp2_with fail
            refine (do_refput H3.out (by have := hlen.out; omega) P4.out).mono ?_
            rintro e w4 ⟨A', cp', rfl, h4⟩
            have H4 := hid h4
            clear h4
            have hb0 : (t0 != t0) = false := by simp
            go_wp2
            go_meet
            case rel => exact ⟨l', A', cp', met, miss, rfl, rfl, rfl, by omega, by omega, H4.out⟩
          · rw [hk] at o0
            have HG := do_get HO.out (by omega) (by omega) x.2.1 x1.out
            rw [has_kvI] at HG
            cases hfo : fo l x.2.1 with
            | none =>
              rw [hfo, get_none hfo] at HG
              have HG := hid HG
              have hat : atI (fo l x.2.1) = -1 := by rw [hfo]; rfl
              have hat2 : atI none = -1 := rfl
              have hwm : IntKind.i64.wrap ((miss : Int) + 1) = (miss : Int) + 1 := IntWalk.i64_in _ (by omega)
              go_wp2_with fail
              refine HG.out.mono ?_
              rintro e w3 ⟨rfl, h3⟩
              have H3 := hid h3
              clear h3 o0 o1 o2 hgw
              obtain ⟨hgw, o0, o1, o2⟩ := do_act H3.out
              go_wp2
              go_meet
              case rel => exact ⟨l, Am, cp, met, miss + 1, rfl, rfl, rfl, by omega, by omega, H3.out⟩
            | some a =>
              obtain ⟨v, g1, g2, g3⟩ := get_some hfo
              rw [hfo, g2, g3] at HG
              have HG := hid HG
              have ha := (fo_some hfo).2
              have hat : atI (fo l x.2.1) = (a : Int) := by rw [hfo]; rfl
              have hat2 : atI (some a) = (a : Int) := rfl
              have ha0 : (0 : Int) ≤ (a : Int) := by omega
              have ha1 : (a : Int) < (l.length : Int) := by omega
              have hwm : IntKind.i64.wrap ((met : Int) + 1) = (met : Int) + 1 := IntWalk.i64_in _ (by omega)
              have G1 := hid g1
              clear g1 g2 g3
              go_wp2_with fail
              refine HG.out.mono ?_
              rintro e w3 ⟨rfl, h3⟩
              have H3 := hid h3
              obtain ⟨b2, off2, rfl, hbw2, e1, e2⟩ := H3.out.itm.at G1.out
              clear h3 o0 o1 o2 hgw
              obtain ⟨hgw, o0, o1, o2⟩ := do_act H3.out
              go_wp2_with fail
              refine (do_use H3.out (by have := hlen.out; omega) G1.out).mono ?_
              rintro e w4 ⟨A', cp', rfl, h4⟩
              have H4 := hid h4
              clear h4
              go_wp2
              go_meet
              case rel => exact ⟨_, A', cp', met + 1, miss, rfl, rfl, rfl, by omega, by omega, H4.out⟩
          · rw [hk] at o0
            have HG := do_get HO.out (by omega) (by omega) x.2.1 x1.out
            rw [has_kvI] at HG
            cases hfo : fo l x.2.1 with
            | none =>
              rw [hfo, get_none hfo] at HG
              have HG := hid HG
              have hat : atI (fo l x.2.1) = -1 := by rw [hfo]; rfl
              have hat2 : atI none = -1 := rfl
              have hwm : IntKind.i64.wrap ((miss : Int) + 1) = (miss : Int) + 1 := IntWalk.i64_in _ (by omega)
              go_wp2_with fail
              refine HG.out.mono ?_
              rintro e w3 ⟨rfl, h3⟩
              have H3 := hid h3
              clear h3 o0 o1 o2 hgw
              obtain ⟨hgw, o0, o1, o2⟩ := do_act H3.out
              go_wp2
              go_meet
              case rel => exact ⟨l, Am, cp, met, miss + 1, rfl, rfl, rfl, by omega, by omega, H3.out⟩
            | some a =>
              obtain ⟨v, g1, g2, g3⟩ := get_some hfo
              rw [hfo, g2, g3] at HG
              have HG := hid HG
              have ha := (fo_some hfo).2
              have hat : atI (fo l x.2.1) = (a : Int) := by rw [hfo]; rfl
              have hat2 : atI (some a) = (a : Int) := rfl
              have ha0 : (0 : Int) ≤ (a : Int) := by omega
              have ha1 : (a : Int) < (l.length : Int) := by omega
              have hwm : IntKind.i64.wrap ((met : Int) + 1) = (met : Int) + 1 := IntWalk.i64_in _ (by omega)
              have G1 := hid g1
              clear g1 g2 g3
              go_wp2_with fail
              refine HG.out.mono ?_
              rintro e w3 ⟨rfl, h3⟩
              have H3 := hid h3
              obtain ⟨b2, off2, rfl, hbw2, e1, e2⟩ := H3.out.itm.at G1.out
              clear h3 o0 o1 o2 hgw
              obtain ⟨hgw, o0, o1, o2⟩ := do_act H3.out
              go_wp2_with fail
              refine (do_use H3.out (by have := hlen.out; omega) G1.out).mono ?_
              rintro e w4 ⟨A', cp', rfl, h4⟩
              have H4 := hid h4
              clear h4
              go_wp2
              go_meet
              case rel => exact ⟨_, A', cp', met + 1, miss, rfl, rfl, rfl, by omega, by omega, H4.out⟩
          · rw [hk] at o0
            have HD := do_drop HO.out x.2.1 x1.out
            rw [has_kvI, drop_kvI] at HD
            have HD := hid HD
            obtain ⟨q, hq⟩ : ∃ q, fo l x.2.1 = q := ⟨_, rfl⟩
            rw [hq] at HD ⊢
            cases q with
            | none =>
              have hat2 : atI none = -1 := rfl
              go_wp2_with fail
              refine HD.out.mono ?_
              rintro e w3 ⟨rfl, h3⟩
              have H3 := hid h3
              clear h3 o0 o1 o2 hgw
              obtain ⟨hgw, o0, o1, o2⟩ := do_act H3.out
              go_wp2_with fail
              refine (do_without H3.out (by have := hlen.out; omega) none).mono ?_
              rintro e w4 ⟨A', cp', rfl, h4⟩
              have H4 := hid h4
              clear h4
              go_wp2
              go_meet
              case rel => exact ⟨_, A', cp', met, miss, rfl, rfl, rfl, by omega, by omega, H4.out⟩
            | some a =>
              have hat2 : atI (some a) = (a : Int) := rfl
              have ha0 : (0 : Int) ≤ (a : Int) := by omega
              go_wp2_with fail
              refine HD.out.mono ?_
              rintro e w3 ⟨rfl, h3⟩
              have H3 := hid h3
              clear h3 o0 o1 o2 hgw
              obtain ⟨hgw, o0, o1, o2⟩ := do_act H3.out
              go_wp2_with fail
              refine (do_without H3.out (by have := hlen.out; omega) (some a)).mono ?_
              rintro e w4 ⟨A', cp', rfl, h4⟩
              have H4 := hid h4
              clear h4
              go_wp2
              go_meet
              case rel => exact ⟨_, A', cp', met, miss, rfl, rfl, rfl, by omega, by omega, H4.out⟩
          · rw [hk] at o0
            have HD := hid (do_clear HO.out)
            go_wp2_with fail
            refine HD.out.mono ?_
            rintro e w3 ⟨rfl, h3⟩
            have H3 := hid h3
            clear h3
            go_wp2
            go_meet
            case rel => exact ⟨[], none, 0, 0, 0, rfl, rfl, rfl, by omega, by omega, do_nil H3.out⟩
          · obtain ⟨k0, k1, k2, k3, k4, k5⟩ := hk
            have q0 : (x.1 == 0) = false := by simpa using k0
            have q1 : (x.1 == 1) = false := by simpa using k1
            have q2 : (x.1 == 2) = false := by simpa using k2
            have q3 : (x.1 == 3) = false := by simpa using k3
            have q4 : (x.1 == 4) = false := by simpa using k4
            have q5 : (x.1 == 5) = false := by simpa using k5
            clear k0 k1 k2 k3 k4 k5
            go_wp2
            go_meet
            case rel => exact ⟨l, Am, cp, met, miss, rfl, rfl, rfl, by omega, by omega, HO.out⟩
        case rest =>
          obtain ⟨l2, A2, cp2, met2, miss2, rfl, rfl, rfl, n1, n2, h5⟩ := hcut
          have H5 := hid h5
          have hlen2 : l2.length ≤ 9 := by have := h5.len; rw [len_kvI] at this; omega
          have hlenR : l2.length ≤ R := by have := h5.len; rw [len_kvI] at this; omega
          clear h5 o0 o1 o2 hgw HO HS hlen HN HT
          go_wp2_with fail
          refine (do_keys H5.out).mono ?_
          rintro e w6 ⟨A6, c6, rfl, h6, v6⟩
          rw [len_kvI]
          have H6 := hid h6
          have V6 := hid v6
          clear h6 v6 H5
          go_wp2_with fail
          refine (do_met H6.out).mono ?_
          rintro e w7 ⟨rfl, e7⟩
          subst e7
          have H7 : Hid (DoAt w c mb R (some (g, x)) (kvI l2) met2 miss2 A2 cp2 l2 w6.drew) := hid (H6.out.drewN 1)
          obtain ⟨hgw, o0, o1, o2⟩ := do_act H7.out
          obtain ⟨wz, hz⟩ : ∃ wz, w6.drew = wz := ⟨_, rfl⟩
          rw [hz] at H7 hgw o0 o1 o2 ⊢
          have VZ : Hid (Vals wz A6 ((kvI l2).map (·.1.value)) []) := hid (by
            subst hz
            rcases V6.out with h | ⟨b', h1, h2, h3, h4⟩
            · exact .inl h
            · exact .inr ⟨b', h1, h2, h3, h4⟩)
          clear H6 V6 hz
          have HLn : Hid (∀ q, Calls Try.prog 20 #[.pointer (some ⟨c, 0, none⟩)] (wz.drewN q) fun e w' => e = .returned (.int .i64 (l2.length : Int)) ∧ w' = wz.drewN q) := hid (fun q => by have h := do_len (H7.out.drewN q); rwa [len_kvI] at h)
          have HSd : Hid (∀ q, Calls Try.prog 21 #[.pointer (some ⟨c, 0, none⟩)] (wz.drewN q) fun e w' => e = .returned (.bool true) ∧ ∃ m, w' = (wz.drewN q).drewN m) := hid (fun q => do_sound (H7.out.drewN q))
          have HHs := fun q => do_has (H7.out.drewN q) x.2.1 x1.out
          have HFd := fun q => do_find (H7.out.drewN q) (by omega) x.2.1
          rw [has_kvI] at HHs
          obtain ⟨b0, z0, hbz, HHs, HFd⟩ : ∃ (b0 : Bool) (z0 : Int), b0 = decide (0 ≤ z0) ∧ Hid (∀ q, Calls Try.prog 22 #[.pointer (some ⟨c, 0, none⟩), .int .i64 x.2.1] (wz.drewN q) fun e w' => e = .returned (.bool b0) ∧ w' = wz.drewN q) ∧ Hid (∀ q, Calls Try.prog 10 #[.slice A2 l2.length cp2, .int .i64 x.2.1] (wz.drewN q) fun e w' => e = .returned (.int .i64 z0) ∧ w' = wz.drewN q) := by
            cases hq : fo l2 x.2.1 with
            | none => rw [hq] at HHs HFd; exact ⟨false, -1, rfl, hid HHs, hid HFd⟩
            | some a => rw [hq] at HHs HFd; exact ⟨true, (a : Int), by simp, hid HHs, hid HFd⟩
          have hRl : ¬ (R : Int) < (l2.length : Int) := by omega
          subst hbz
          go_wp2_with fail
          go_quiet (first | (go_at_call 20; exact Calls.quiet_of_same (HLn.out _)) | (go_at_call 21; exact Calls.quiet_of (HSd.out _)) | (go_at_call 22; exact Calls.quiet_of_same (HHs.out _)) | (go_at_call 10; exact Calls.quiet_of_same (HFd.out _)))
          go_wp2
          go_loopw [24] (fun t wr => ∃ i q : Nat, i ≤ l2.length ∧ t = .int .i64 i ∧ wr = wz.drewN q) (fun t _ => l2.length - (intOf t).toNat)
          case atStart => exact ⟨0, nq, Nat.zero_le _, rfl, rfl⟩
          case round =>
            obtain ⟨i, q, hi, rfl, rfl⟩ := hrel
            clear HLn HSd HHs HFd o0 o1 o2 hgw
            by_cases hlt2 : i < l2.length
            · obtain ⟨p, hp⟩ : ∃ p, l2[i]? = some p := ⟨_, List.getElem?_eq_getElem hlt2⟩
              obtain ⟨b2, off2, rfl, hbw2, e1, e2⟩ := H7.out.itm.at hp
              obtain ⟨b6, rfl, hbw6, e6⟩ := VZ.out.at (j := i) (u := .int .i64 p.1) (by rw [List.getElem?_map, get_kvI, hp]; rfl)
              have hi0 : (0 : Int) ≤ (i : Int) := by omega
              have hi1 : (i : Int) < (l2.length : Int) := by omega
              have hwi : IntKind.i64.wrap ((i : Int) + 1) = (i : Int) + 1 := IntWalk.i64_in _ (by omega)
              clear hp
              go_wp2_with fail
              go_quiet (fail)
              go_wp2
              go_roundw
              case rel => exact ⟨i + 1, _, by omega, by go_num, rfl⟩
              case measure => simp [intOf]; omega
            · obtain rfl : i = l2.length := by omega
              go_wp2
              go_roundw
              case rel => exact ⟨j + 1, by omega, by go_num, l2, A2, cp2, met2, miss2, rfl, rfl, rfl, n1, n2, do_unob (H7.out.drewN _)⟩
              case measure => simp [intOf]; omega
      · obtain rfl : j = n := by omega
        clear hlt HN HT
        go_wp2_with fail
        refine (works40_any _).mono ?_
        rintro e w4 ⟨rfl, hb4⟩
        have HB4 : Hid (Below w.heap.size w w4) := hid (HS.out.below.trans (hb4.mono HS.out.below.size))
        clear hb4
        go_wp2
        go_ret
        exact ⟨rfl, HB4.out⟩
end Go.Proofs.Yticgpiipikneiaa
