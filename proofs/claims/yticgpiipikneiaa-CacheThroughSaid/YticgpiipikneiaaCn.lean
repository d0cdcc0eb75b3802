/- The walk of CacheThrough. No condition. -/
import Derived.Test.YticgpiipikneiaaCm
import Derived.IntWalk
set_option linter.unusedSimpArgs false
set_option linter.unusedVariables false
namespace Go.Proofs.Yticgpiipikneiaa
open Go.ChangeShapes Go.WideShapes Go.RowKit Go.Mor Go.Cch Go.Maps

/-- Bytes behind an address. -/
def Bys (w : World) (A : Option Addr) (xs : List Int) : Prop := xs = [] ∨ ∃ b off, A = some ⟨b, off, none⟩ ∧ b < w.heap.size ∧ ∀ j x, xs[j]? = some x → w.cell? ⟨b, off + j, none⟩ = some (.int .u8 x)
theorem Bys.at {w : World} {A : Option Addr} {xs : List Int} (h : Bys w A xs) {j : Nat} {x : Int} (hj : xs[j]? = some x) : ∃ b off, A = some ⟨b, off, none⟩ ∧ b < w.heap.size ∧ w.cell? ⟨b, off + j, none⟩ = some (.int .u8 x) := by
  rcases h with h | ⟨b, off, h1, h2, h3⟩
  · subst h; simp at hj
  · exact ⟨b, off, h1, h2, h3 j x hj⟩
def ThSt (w : World) (c mb a R j : Nat) (wr : World) : Prop := ∃ ns, ThAt w c mb a R j ns wr
theorem ThSt.below {w wr : World} {c mb a R j : Nat} (h : ThSt w c mb a R j wr) : Below w.heap.size w wr := by obtain ⟨ns, _, _, _, _, _, _, _, _, _, _, _, _, B, _⟩ := h; exact B
theorem th_call {w wr : World} {c mb a R j : Nat} (h : ThSt w c mb a R j wr) (hj : j < 1000) (k : Int) (h0 : 0 ≤ k) (h1 : k < 256) (hk : (Lit.int .u8 k).wf = true) :
    Calls Try.prog 25 #[.pointer (some ⟨c, 0, none⟩), .int .u8 k, .func (.func 24) #[] #[.pointer (some ⟨a, 0, none⟩)]] wr fun e w' => e = readE k ∧ ∃ ns', ThAt w c mb a R (j + 1) ns' w' ∧ hasL (kv ns') (.int .u8 k) = !wild k := by
  obtain ⟨ns, h⟩ := h
  exact th_step h hj k h0 h1 hk
theorem th_has {w wr : World} {c mb a R j : Nat} {ns : List Nd} (h : ThAt w c mb a R j ns wr) (k : Int) (hk : (Lit.int .u8 k).wf = true) {B : Bool} (hB : hasL (kv ns) (.int .u8 k) = B) :
    Calls Try.prog 26 #[.pointer (some ⟨c, 0, none⟩), .int .u8 k] wr fun e w' => e = .returned (.bool B) ∧ w' = wr := by
  obtain ⟨met, miss, x, C, _⟩ := h
  rw [← hB]
  exact has_B C k hk
theorem th_sound {w wr : World} {c mb a R j : Nat} {ns : List Nd} (h : ThAt w c mb a R j ns wr) :
    Calls Try.prog 27 #[.pointer (some ⟨c, 0, none⟩)] wr fun e w' => e = .returned (.bool true) ∧ ∃ q, w' = wr.drewN q := by
  obtain ⟨met, miss, x, C, _⟩ := h
  exact sound_B C
theorem th_new {w w1 : World} {c mb R : Nat} {ty : TypeId} (C : CacheB w1 c mb [] R 0 0) (hb : Below w.heap.size w w1) (hc : w.heap.size ≤ c) (hm : w.heap.size ≤ mb) : ThSt w c mb w1.heap.size R 0 (w1.alloc (.cells #[.int .i64 0] ty)) := by
  refine ⟨[], 0, 0, 0, C.keep ((Below.refl _ _).alloc (Nat.le_refl _) _), fun p hp => by simp [kv] at hp, by simp, by simp, fun h => ?_, by simp, Nat.le_refl _, Nat.le_refl _, Nat.le_refl _, hb.trans ((Below.refl _ _).alloc hb.size _), fun k hk => ?_, hb.size⟩
  · have := C.lt _ h; omega
  · simp [own] at hk
    rcases hk with rfl | rfl <;> assumption
set_option maxRecDepth 100000 in
set_option maxHeartbeats 4000000 in
theorem cacheThrough_walk (r : Nat) (hr : r < 256) (A : Option Addr) (n cap : Nat) (xs : List Int) (w : World) (hl : xs.length = n) (hm : n ≤ maxLen) (hA : Bys w A xs) (hx : ∀ x ∈ xs, 0 ≤ x ∧ x < 256) :
    Calls Try.prog 4 #[.int .u8 (r : Int), .slice A n cap] w fun e w' => e = .returned (.bool true) ∧ Below w.heap.size w w' := by
  by_cases h200 : 200 < n
  · have h2 : (200 : Int) < (n : Int) := by omega
    clear hl hm hA hx
    go_enter Try.func4, Try.ntmps4
    go_wp2_with fail
    refine (works40_any _).mono ?_
    rintro e w2 ⟨rfl, hb2⟩
    have HB := hid hb2
    go_wp2
    go_ret
    exact ⟨rfl, HB.out⟩
  · have h2 : ¬ (200 : Int) < (n : Int) := by omega
    have HL := hid hl
    have HA := hid hA
    have HX := hid hx
    obtain ⟨R, hR⟩ : ∃ R : Nat, R = 1 + r % 9 := ⟨_, rfl⟩
    have hRI : (R : Int) = 1 + (r : Int) % 9 := by omega
    have HN := new_B R (by omega) (by omega) w
    rw [hRI] at HN
    have HN := hid HN
    have hw1 : IntKind.i64.wrap (r : Int) = (r : Int) := IntWalk.i64_in _ (by omega)
    have hw2 : (r : Int).tmod 9 = (r : Int) % 9 := Int.tmod_eq_emod_of_nonneg (by omega)
    have hw3 : IntKind.i64.wrap (1 + (r : Int) % 9) = 1 + (r : Int) % 9 := IntWalk.i64_in _ (by omega)
    have hw4 : IntKind.i64.wrap ((r : Int) % 9) = (r : Int) % 9 := IntWalk.i64_in _ (by omega)
    clear hl hA hx h200 hm
    go_enter Try.func4, Try.ntmps4
    go_wp2_with fail
    refine HN.out.mono ?_
    rintro e w1 ⟨c, mb, rfl, C, hb, hc, hm⟩
    have HT := hid (fun ty => th_new (ty := ty) C hb hc hm)
    clear C hb hc hm hRI hR
    obtain ⟨a, ha⟩ : ∃ a, w1.heap.size = a := ⟨_, rfl⟩
    go_wp2
    simp only [ha] at HT ⊢
    go_loopw [9] (fun t wr => ∃ j : Nat, j ≤ n ∧ t = .int .i64 j ∧ ThSt w c mb a R j wr) (fun t _ => n - (intOf t).toNat)
    case atStart => exact ⟨0, Nat.zero_le _, rfl, HT.out _⟩
    case round =>
      rename_i wr
      obtain ⟨j, hj, rfl, hS⟩ := hrel
      have HS := hid hS
      clear hS
      by_cases hlt : j < n
      · obtain ⟨x, hxj⟩ : ∃ x, xs[j]? = some x := ⟨_, List.getElem?_eq_getElem (by rw [HL.out]; exact hlt)⟩
        obtain ⟨b, off, rfl, hbw, hc⟩ := HA.out.at hxj
        obtain ⟨x0, x1⟩ := HX.out x (List.mem_of_getElem? hxj)
        have hc1 : wr.cell? ⟨b, off + j, none⟩ = some (.int .u8 x) := (HS.out.below.cell (by exact hbw)).trans hc
        have hxw : (Lit.int .u8 x).wf = true := by simp [Lit.wf, IntKind.min, IntKind.max, IntKind.signed, IntKind.bits]; omega
        have HC := hid (th_call HS.out (by omega) x x0 x1 hxw)
        have HXW := hid hxw
        have hbw := hid hbw
        have hi0 : (0 : Int) ≤ (j : Int) := by omega
        have hi1 : (j : Int) < (n : Int) := by omega
        have hwj : IntKind.i64.wrap ((j : Int) + 1) = (j : Int) + 1 := IntWalk.i64_in _ (by omega)
        have hm : x.tmod 5 = x % 5 := Int.tmod_eq_emod_of_nonneg x0
        have hw5 : IntKind.i64.wrap x = x := IntWalk.i64_in _ (by omega)
        have hw6 : IntKind.i64.wrap (x * 3) = x * 3 := IntWalk.i64_in _ (by omega)
        have HC0 := hid hc
        clear hxj hc hxw
        obtain ⟨B, hB⟩ : ∃ B, wild x = B := ⟨_, rfl⟩
        cases B
        · go_wp2_with fail
          refine HC.out.mono ?_
          rintro e w2 ⟨he, ns2, h2, hH⟩
          have he : e = .returned (.tuple #[.int .i64 (x * 3), .int .i64 0]) := by rw [he]; unfold readE codeOf; rw [hB]; rfl
          subst he
          have hc2 : w2.cell? ⟨b, off + j, none⟩ = some (.int .u8 x) := ((ThSt.below ⟨ns2, h2⟩).cell (by exact hbw.out)).trans HC0.out
          rw [hB] at hH
          have HH := hid (th_has h2 x HXW.out hH)
          have H2 := hid h2
          clear h2 hH hc1
          unfold wild at hB
          go_wp2_with fail
          refine HH.out.mono ?_
          rintro e w3 ⟨rfl, rfl⟩
          go_wp2
          exact ⟨⟨j + 1, by omega, by go_num, _, H2.out⟩, by simp [intOf]; omega⟩
        · go_wp2_with fail
          refine HC.out.mono ?_
          rintro e w2 ⟨he, ns2, h2, hH⟩
          have he : e = .returned (.tuple #[.int .i64 0, .int .i64 8]) := by rw [he]; unfold readE codeOf; rw [hB]; rfl
          subst he
          have hc2 : w2.cell? ⟨b, off + j, none⟩ = some (.int .u8 x) := ((ThSt.below ⟨ns2, h2⟩).cell (by exact hbw.out)).trans HC0.out
          rw [hB] at hH
          have HH := hid (th_has h2 x HXW.out hH)
          have H2 := hid h2
          clear h2 hH hc1
          unfold wild at hB
          go_wp2_with fail
          refine HH.out.mono ?_
          rintro e w3 ⟨rfl, rfl⟩
          go_wp2
          exact ⟨⟨j + 1, by omega, by go_num, _, H2.out⟩, by simp [intOf]; omega⟩
      · obtain rfl : j = n := by omega
        obtain ⟨ns, hT⟩ := HS.out
        have HT2 := hid hT
        obtain ⟨met, miss, x, C, F, hx, hz, ha2, hal, l1, _⟩ := hT
        have hx1 : (x : Int) ≤ (j : Int) := by omega
        clear C F hz ha2 hal
        go_wp2_with fail
        refine (th_sound HT2.out).mono ?_
        rintro e w3 ⟨rfl, q, rfl⟩
        have HB : Hid (Below w.heap.size w (wr.drewN q)) := hid (below_drewN HS.out.below q)
        go_wp2_with fail
        refine (works40_any _).mono ?_
        rintro e w4 ⟨rfl, hb4⟩
        have HB4 : Hid (Below w.heap.size w w4) := hid (HB.out.trans (hb4.mono HB.out.size))
        clear hb4
        go_wp2
        go_ret
        exact ⟨rfl, HB4.out⟩
end Go.Proofs.Yticgpiipikneiaa
