/- Taking all away: the walks. No condition. -/
import Derived.Test.YticgpiipikneiaaCg
set_option linter.unusedSimpArgs false
set_option linter.unusedVariables false
namespace Go.Proofs.Yticgpiipikneiaa
open Go.ChangeShapes Go.WideShapes Go.RowKit Go.Mor Go.Cch Go.Maps

/-- Values in a row of another's. -/
def Vals (w : World) (A : Option Addr) (xs : List Value) (l : List Nat) : Prop := xs = [] ∨ ∃ b, A = some ⟨b, 0, none⟩ ∧ b ∉ l ∧ b < w.heap.size ∧ ∀ j u, xs[j]? = some u → w.cell? ⟨b, j, none⟩ = some u
theorem vals_owns {w : World} {B : Nat} {e : TypeId} {A : Option Addr} {n c : Nat} {xs : List Value} (h : w.ownsRow B e 1 (.slice A n c) n xs) {l : List Nat} (hl : ∀ k ∈ l, k < B) : Vals w A xs l := by
  have hr := owns_rd h
  rcases h.2 with ⟨h2, rfl⟩ | ⟨g, cap, cur, hv, hb, hg, r⟩
  · exact .inl (List.eq_nil_of_length_eq_zero (by simpa using h.1))
  · injection hv with hv h3 h4
    subst hv
    refine .inr ⟨g, rfl, fun e => by have := hl g e; omega, (Array.getElem?_eq_some_iff.1 hg).1, fun j u hj => ?_⟩
    have := hr.get j u hj
    rwa [Addr.add_lit, Nat.zero_add] at this
theorem Vals.step {w w' : World} {A : Option Addr} {xs : List Value} {c mb : Nat} {ns ns' : List Nd} (h : Vals w A xs (own c mb ns)) (S : Stp c mb ns ns' w w') : Vals w' A xs (own c mb ns') := by
  rcases h with h | ⟨b, h1, h2, h3, h4⟩
  · exact .inl h
  · exact .inr ⟨b, h1, S.apart h3 h2, Nat.lt_of_lt_of_le h3 S.fr.size, fun j u hj => (World.cell?_of_block (w := w) (S.fr.block b h3 h2)).trans (h4 j u hj)⟩
theorem Vals.at {w : World} {A : Option Addr} {xs : List Value} {l : List Nat} (h : Vals w A xs l) {j : Nat} {u : Value} (hj : xs[j]? = some u) : ∃ b, A = some ⟨b, 0, none⟩ ∧ within b w = true ∧ w.cell? ⟨b, j, none⟩ = some u := by
  rcases h with h | ⟨b, h1, h2, h3, h4⟩
  · subst h; simp at hj
  · exact ⟨b, h1, within_of h3, h4 j u hj⟩
theorem keysV_get {ns : List Nd} {i : Nat} {n : Nd} (h : ns[i]? = some n) : (keysV ns ns.length)[i]? = some n.k.value := by
  unfold keysV; rw [List.take_length, List.getElem?_map, h]; rfl
theorem drop_pos {ns : List Nd} {i : Nat} {n : Nd} (h : ns[i]? = some n) (hk : WideAt.IsKeyLit n.k) : (ns.drop i).eraseIdx (pos (ns.drop i) n.k) = ns.drop (i + 1) := by
  obtain ⟨hi, e⟩ := List.getElem?_eq_some_iff.1 h
  rw [List.drop_eq_getElem_cons hi, e]
  unfold pos
  rw [if_pos (WideAt.sameKey_self hk)]; rfl
def ClearPost (P : Program) (kT : TypeId) (Kd : Lit → Prop) (w : World) (c mb : Nat) (ns : List Nd) (room : Nat) (e : Ending) (w' : World) : Prop :=
  e = .returned (.tuple #[]) ∧ CacheAt P kT Kd w' c mb [] room 0 0 ∧ Stp c mb ns [] w w'

theorem clear_I {w : World} {c mb room met miss : Nat} {ns : List Nd} (C : CacheI w c mb ns room met miss) :
    Calls Try.prog 17 #[.pointer (some ⟨c, 0, none⟩)] w (ClearPost Try.prog 3 IsI w c mb ns room) := by
  have HC := hid C
  clear C
  go_enter Try.func17, Try.ntmps17
  go_wp2_with fail
  refine (keys_I HC.out).mono ?_
  rintro e w1 ⟨A, c1, rfl, hb, hown⟩
  have C1 := hid (HC.out.keep hb)
  have V1 := hid (vals_owns hown HC.out.lt)
  have S1 : Hid (Stp c mb ns ns w w1) := hid ⟨Fr.of_below hb _, fun n hn => .inl (List.mem_map.2 ⟨n, hn, rfl⟩)⟩
  have hle : ns.length ≤ 4096 := Nat.le_trans HC.out.le HC.out.hi
  clear hb hown
  obtain ⟨L, hL⟩ : ∃ L, ns.length = L := ⟨_, rfl⟩
  rw [hL] at hle V1 ⊢
  have V1 : Hid (Vals w1 A (keysV ns ns.length) (own c mb ns)) := hid (by rw [hL]; exact V1.out)
  have hL := hid hL
  go_wp2
  go_loopw [7] (fun t wr => ∃ i : Nat, i ≤ L ∧ t = .int .i64 i ∧ CacheI wr c mb (ns.drop i) room met miss ∧ Vals wr A (keysV ns ns.length) (own c mb (ns.drop i)) ∧ Stp c mb ns (ns.drop i) w wr) (fun t _ => L - (intOf t).toNat)
  case atStart => exact ⟨0, Nat.zero_le _, rfl, C1.out, V1.out, S1.out⟩
  case round =>
    rename_i wr
    obtain ⟨i, hi, rfl, C2, V2, S2⟩ := hrel
    have C2 := hid C2
    have V2 := hid V2
    have S2 := hid S2
    by_cases hlt : i < L
    · obtain ⟨n, hn⟩ : ∃ n, ns[i]? = some n := ⟨_, List.getElem?_eq_getElem (by rw [hL.out]; exact hlt)⟩
      obtain ⟨k, hk, hnk⟩ := HC.out.kd n (List.mem_of_getElem? hn)
      obtain ⟨b, rfl, hbw, hc⟩ := V2.out.at (keysV_get hn)
      rw [hnk, value_I] at hc
      have HD := hid (drop_pos hn (HC.out.ok.key n (List.mem_of_getElem? hn)))
      rw [hnk] at HD
      have hi0 : (0 : Int) ≤ (i : Int) := by omega
      have hi1 : (i : Int) < (L : Int) := by omega
      have hw : IntKind.i64.wrap ((i : Int) + 1) = (i : Int) + 1 := IntWalk.i64_in _ (by omega)
      clear hn hnk
      go_wp2_with fail
      refine (drop_I C2.out k hk).mono ?_
      rintro e w2 ⟨rfl, C3, S3⟩
      rw [HD.out] at C3 S3
      have C3 := hid C3
      have S3 := hid S3
      go_wp2
      exact ⟨⟨i + 1, by omega, by go_num, C3.out, V2.out.step S3.out, S2.out.trans S3.out⟩, by simp [intOf]; omega⟩
    · have hd : ns.drop i = [] := List.drop_eq_nil_of_le (by rw [hL.out]; omega)
      rw [hd] at C2 S2
      have c4 := C2.out.m
      have c5 := C2.out.s
      have fz := C2.out.row.fz
      have HE : Hid (CacheI ((wr.setCell ⟨c, 4, none⟩ (.int .i64 0)).setCell ⟨c, 5, none⟩ (.int .i64 0)) c mb [] room 0 0 ∧ Stp c mb ns [] w ((wr.setCell ⟨c, 4, none⟩ (.int .i64 0)).setCell ⟨c, 5, none⟩ (.int .i64 0))) :=
        hid ⟨(C2.out.set4 0).set5 0, S2.out.trans ((Stp.set 4 _).trans (Stp.set 5 _))⟩
      clear hd
      go_wp2
      go_end0
      exact ⟨rfl, HE.out⟩

theorem clear_S {w : World} {c mb room met miss : Nat} {ns : List Nd} (C : CacheS w c mb ns room met miss) :
    Calls Try.prog 54 #[.pointer (some ⟨c, 0, none⟩)] w (ClearPost Try.prog 9 IsS w c mb ns room) := by
  have HC := hid C
  clear C
  go_enter Try.func54, Try.ntmps54
  go_wp2_with fail
  refine (keys_S HC.out).mono ?_
  rintro e w1 ⟨A, c1, rfl, hb, hown⟩
  have C1 := hid (HC.out.keep hb)
  have V1 := hid (vals_owns hown HC.out.lt)
  have S1 : Hid (Stp c mb ns ns w w1) := hid ⟨Fr.of_below hb _, fun n hn => .inl (List.mem_map.2 ⟨n, hn, rfl⟩)⟩
  have hle : ns.length ≤ 4096 := Nat.le_trans HC.out.le HC.out.hi
  clear hb hown
  obtain ⟨L, hL⟩ : ∃ L, ns.length = L := ⟨_, rfl⟩
  rw [hL] at hle V1 ⊢
  have V1 : Hid (Vals w1 A (keysV ns ns.length) (own c mb ns)) := hid (by rw [hL]; exact V1.out)
  have hL := hid hL
  go_wp2
  go_loopw [7] (fun t wr => ∃ i : Nat, i ≤ L ∧ t = .int .i64 i ∧ CacheS wr c mb (ns.drop i) room met miss ∧ Vals wr A (keysV ns ns.length) (own c mb (ns.drop i)) ∧ Stp c mb ns (ns.drop i) w wr) (fun t _ => L - (intOf t).toNat)
  case atStart => exact ⟨0, Nat.zero_le _, rfl, C1.out, V1.out, S1.out⟩
  case round =>
    rename_i wr
    obtain ⟨i, hi, rfl, C2, V2, S2⟩ := hrel
    have C2 := hid C2
    have V2 := hid V2
    have S2 := hid S2
    by_cases hlt : i < L
    · obtain ⟨n, hn⟩ : ∃ n, ns[i]? = some n := ⟨_, List.getElem?_eq_getElem (by rw [hL.out]; exact hlt)⟩
      obtain ⟨k, hk, hnk⟩ := HC.out.kd n (List.mem_of_getElem? hn)
      obtain ⟨b, rfl, hbw, hc⟩ := V2.out.at (keysV_get hn)
      rw [hnk, value_S] at hc
      have HD := hid (drop_pos hn (HC.out.ok.key n (List.mem_of_getElem? hn)))
      rw [hnk] at HD
      have hi0 : (0 : Int) ≤ (i : Int) := by omega
      have hi1 : (i : Int) < (L : Int) := by omega
      have hw : IntKind.i64.wrap ((i : Int) + 1) = (i : Int) + 1 := IntWalk.i64_in _ (by omega)
      clear hn hnk
      go_wp2_with fail
      refine (drop_S C2.out k hk).mono ?_
      rintro e w2 ⟨rfl, C3, S3⟩
      rw [HD.out] at C3 S3
      have C3 := hid C3
      have S3 := hid S3
      go_wp2
      exact ⟨⟨i + 1, by omega, by go_num, C3.out, V2.out.step S3.out, S2.out.trans S3.out⟩, by simp [intOf]; omega⟩
    · have hd : ns.drop i = [] := List.drop_eq_nil_of_le (by rw [hL.out]; omega)
      rw [hd] at C2 S2
      have c4 := C2.out.m
      have c5 := C2.out.s
      have fz := C2.out.row.fz
      have HE : Hid (CacheS ((wr.setCell ⟨c, 4, none⟩ (.int .i64 0)).setCell ⟨c, 5, none⟩ (.int .i64 0)) c mb [] room 0 0 ∧ Stp c mb ns [] w ((wr.setCell ⟨c, 4, none⟩ (.int .i64 0)).setCell ⟨c, 5, none⟩ (.int .i64 0))) :=
        hid ⟨(C2.out.set4 0).set5 0, S2.out.trans ((Stp.set 4 _).trans (Stp.set 5 _))⟩
      clear hd
      go_wp2
      go_end0
      exact ⟨rfl, HE.out⟩
end Go.Proofs.Yticgpiipikneiaa
