/- A new cache; its keys; taking all away; whether it is sound: the walks, for the three kinds of keys. No condition. -/
import Derived.Test.YticgpiipikneiaaCf
import Derived.Test.YticgpiipikneiaaBaseB
import Derived.Test.YticgpiipikneiaaBaseE
set_option linter.unusedSimpArgs false
set_option linter.unusedVariables false
namespace Go.Proofs.Yticgpiipikneiaa
open Go.ChangeShapes Go.WideShapes Go.RowKit Go.Mor Go.Cch Go.Maps

/-- The first keys, as values. -/
def keysV (ns : List Nd) (i : Nat) : List Value := (ns.take i).map (·.k.value)
def lenV : Value → Nat | .slice _ n _ => n | _ => 0
theorem ptrV_get {ns : List Nd} {i : Nat} {n : Nd} (h : ns[i]? = some n) : ptrV ((ns[i]?).map (·.b)) = .pointer (some ⟨n.b, 0, none⟩) := by rw [h]; rfl
theorem ptrV_end {ns : List Nd} {i : Nat} (h : ns.length ≤ i) : ptrV ((ns[i]?).map (·.b)) = .pointer none := by rw [List.getElem?_eq_none h]; rfl
theorem map_succ {α β : Type} (f : α → β) {l : List α} {i : Nat} {x : α} (h : l[i]? = some x) : (l.take (i + 1)).map f = (l.take i).map f ++ [f x] := by
  obtain ⟨hi, e⟩ := List.getElem?_eq_some_iff.1 h
  rw [List.take_succ_eq_append_getElem hi, e, List.map_append]; rfl
def NewPost (P : Program) (kT : TypeId) (Kd : Lit → Prop) (r : Nat) (w : World) (e : Ending) (w' : World) : Prop :=
  ∃ c mb, e = .returned (.tuple #[.pointer (some ⟨c, 0, none⟩), .int .i64 0]) ∧ CacheAt P kT Kd w' c mb [] r 0 0 ∧ Below w.heap.size w w' ∧ w.heap.size ≤ c ∧ w.heap.size ≤ mb
def KeysPost (w : World) (kT : TypeId) (ns : List Nd) (e : Ending) (w' : World) : Prop :=
  ∃ A c, e = .returned (.slice A ns.length c) ∧ Below w.heap.size w w' ∧ w'.ownsRow w.heap.size kT 1 (.slice A ns.length c) ns.length (keysV ns ns.length)
def KeysIn (w : World) (kT : TypeId) (ns : List Nd) (o n : Value) (wr : World) : Prop :=
  ∃ (i : Nat) (A : Option Addr) (c d : Nat) (bs : Array Obj), i ≤ ns.length ∧ o = .slice A i c ∧ n = ptrV ((ns[i]?).map (·.b)) ∧ wr = ext w d bs ∧ (ext w d bs).ownsRow w.heap.size kT 1 (.slice A i c) i (keysV ns i)
def SoundPost (w : World) (e : Ending) (w' : World) : Prop := e = .returned (.bool true) ∧ ∃ q, w' = w.drewN q
/-- A cache in which nothing is. -/
theorem cache_new {P : Program} {kT : TypeId} {Kd : Lit → Prop} (w : World) (r : Nat) (h0 : 0 < r) (h1 : r ≤ 4096) (ty : TypeId) :
    CacheAt P kT Kd ((w.alloc (.map #[] 0)).alloc (.cells #[.int .i64 r, .map (some w.heap.size), .pointer none, .pointer none, .int .i64 0, .int .i64 0] ty)) (w.heap.size + 1) w.heap.size [] r 0 0 := by
  have hs : (w.alloc (.map #[] 0)).heap.size = w.heap.size + 1 := by simp
  have hc : ∀ o, ((w.alloc (.map #[] 0)).alloc (.cells #[.int .i64 r, .map (some w.heap.size), .pointer none, .pointer none, .int .i64 0, .int .i64 0] ty)).cell? ⟨w.heap.size + 1, o, none⟩ = ((w.alloc (.map #[] 0)).alloc (.cells #[.int .i64 r, .map (some w.heap.size), .pointer none, .pointer none, .int .i64 0, .int .i64 0] ty)).cell? ⟨(w.alloc (.map #[] 0)).heap.size, o, none⟩ := fun o => by rw [hs]
  have hf : ∀ o, ((w.alloc (.map #[] 0)).alloc (.cells #[.int .i64 r, .map (some w.heap.size), .pointer none, .pointer none, .int .i64 0, .int .i64 0] ty)).frozen? ⟨w.heap.size + 1, o, none⟩ = ((w.alloc (.map #[] 0)).alloc (.cells #[.int .i64 r, .map (some w.heap.size), .pointer none, .pointer none, .int .i64 0, .int .i64 0] ty)).frozen? ⟨(w.alloc (.map #[] 0)).heap.size, o, none⟩ := fun o => by rw [hs]
  refine ⟨⟨by simp, (hc 2).trans (by simp [fst, ptrV]), (hc 3).trans (by simp [lst, ptrV]), fun o => (hf o).trans (by simp), fun j n h => by simp at h, by simp, fun n h => by simp at h⟩, ?_, ⟨fun n h => by simp at h, by simp⟩, fun n h => by simp at h, (hc 0).trans (by simp), (hc 1).trans (by simp), (hc 4).trans (by simp), (hc 5).trans (by simp), by omega, fun n h => by simp at h, by simp, h1, h0⟩
  exact (map_made w).of_block (Below.heap_alloc _ _ _ (by simp))

theorem new_I (r : Nat) (h0 : 0 < r) (h1 : r ≤ 4096) (w : World) : Calls Try.prog 9 #[.int .i64 (r : Int)] w (NewPost Try.prog 3 IsI r w) := by
  have h2 : ¬ (r : Int) < 1 := by omega
  have h3 : ¬ (4096 : Int) < (r : Int) := by omega
  have hmm := @run_makeMap Try.prog
  have H := hid (cache_new (P := Try.prog) (kT := 3) (Kd := IsI) w r h0 h1 87)
  clear h0 h1
  go_enter Try.func9, Try.ntmps9
  go_wp2
  go_ret2
  exact ⟨_, _, rfl, H.out, ((Below.refl _ _).alloc (Nat.le_refl _) _).alloc (by simp) _, by omega, by omega⟩

theorem info_I : (Try.prog.info? 3).map (fun i => (i.zero, i.size, i.bytes)) = some (some (.int .i64 0), 1, 8) := by kernel_rfl
theorem keys_I {w : World} {c mb room met miss : Nat} {ns : List Nd} (C : CacheI w c mb ns room met miss) :
    Calls Try.prog 18 #[.pointer (some ⟨c, 0, none⟩)] w (KeysPost w 3 ns) := by
  obtain ⟨i0, hi, hz0, hz1, hz2⟩ := info_parts info_I
  have f := C.row.f
  rw [show fst ns = (ns[0]?).map (·.b) from rfl] at f
  have hcw := within_of C.row.lc
  have HC := hid C
  have hle : ns.length ≤ 4096 := Nat.le_trans C.le C.hi
  clear C
  obtain ⟨n0, h0⟩ : ∃ v, ptrV ((ns[0]?).map (·.b)) = v := ⟨_, rfl⟩
  rw [h0] at f
  have h0 := hid h0
  go_enter Try.func18, Try.ntmps18
  go_wp2
  go_loopw [3, 4] (KeysIn w 3 ns) (fun o _ _ => ns.length - lenV o)
  case atStart => exact ⟨0, none, 0, _, #[], Nat.zero_le _, rfl, h0.out.symm, by simp [ext]; rfl, World.ownsRow_nil _ _ _ _⟩
  case round =>
    obtain ⟨i, A, c1, d, bs, hi1, rfl, rfl, rfl, hown⟩ := hrel
    have HO := hid hown
    clear hown f
    by_cases hlt : i < ns.length
    · obtain ⟨n, hn⟩ : ∃ n, ns[i]? = some n := ⟨_, List.getElem?_eq_getElem hlt⟩
      have N := HC.out.row.nd i n hn
      obtain ⟨k, hk, hnk⟩ := HC.out.kd n (List.mem_of_getElem? hn)
      have c0 := N.c0
      rw [hnk, value_I] at c0
      have c3 := N.c3
      rw [show nx ns i = (ns[i + 1]?).map (·.b) from rfl] at c3
      obtain ⟨n3, h3⟩ : ∃ v, ptrV ((ns[i + 1]?).map (·.b)) = v := ⟨_, rfl⟩
      rw [h3] at c3
      have h3 := hid h3
      have hw := within_of N.lt
      rw [ptrV_get hn]
      have HV : Hid (keysV ns (i + 1) = keysV ns i ++ [(.int .i64 k)]) := hid (by unfold keysV; rw [map_succ _ hn, hnk, value_I])
      clear hn N hk hnk
      go_wp2_with (at_builtin; refine wpList_append_ext rfl _ _ 41 rfl w ?hw 3 i0 (.int .i64 0) 1 8 Try.underlying41 hi hz0 hz1 hz2 rfl (by decide) _ i (keysV ns i) rfl ?own (some ⟨w.heap.size + bs.size, 0, none⟩) 1 1 [(.int .i64 k)] rfl ?hr rfl ?ho ?h63 ?hb ?_)
      case hw => exact (below_ext _ _ _).alloc (by simp) _
      case own => exact HO.out.alloc _
      case hr => exact .inr ⟨_, rfl, by simp, fun j u hj => by
        cases j with
        | zero => simp at hj; subst hj; rw [show w.heap.size + bs.size = (ext w d bs).heap.size by simp]; exact cell_one_new _ _ _ 0 _ rfl
        | succ j => simp at hj⟩
      case ho => intro u hu; simp at hu; subst hu; rfl
      case h63 => unfold maxLen; omega
      case hb => omega
      intro A2 c2 d2 bs2 hown2
      have HO2 := hid hown2
      clear hown2 HO
      go_wp2
      refine ⟨⟨i + 1, A2, c2, d2, bs2, by omega, rfl, h3.out.symm, rfl, ?_⟩, by simp [lenV]; omega⟩
      rw [HV.out]
      exact HO2.out
    · obtain rfl : i = ns.length := by omega
      rw [ptrV_end (Nat.le_refl _)]
      have HF : Hid ((ext w d bs).ownsRow w.heap.size 3 1 (.slice A ns.length c1) ns.length (keysV ns ns.length)) := hid HO.out
      clear HO
      go_wp2
      go_ret
      exact ⟨A, c1, rfl, below_ext _ _ _, HF.out⟩

theorem new_B (r : Nat) (h0 : 0 < r) (h1 : r ≤ 4096) (w : World) : Calls Try.prog 23 #[.int .i64 (r : Int)] w (NewPost Try.prog 5 IsB r w) := by
  have h2 : ¬ (r : Int) < 1 := by omega
  have h3 : ¬ (4096 : Int) < (r : Int) := by omega
  have hmm := @run_makeMap Try.prog
  have H := hid (cache_new (P := Try.prog) (kT := 5) (Kd := IsB) w r h0 h1 94)
  clear h0 h1
  go_enter Try.func23, Try.ntmps23
  go_wp2
  go_ret2
  exact ⟨_, _, rfl, H.out, ((Below.refl _ _).alloc (Nat.le_refl _) _).alloc (by simp) _, by omega, by omega⟩

theorem new_S (r : Nat) (h0 : 0 < r) (h1 : r ≤ 4096) (w : World) : Calls Try.prog 44 #[.int .i64 (r : Int)] w (NewPost Try.prog 9 IsS r w) := by
  have h2 : ¬ (r : Int) < 1 := by omega
  have h3 : ¬ (4096 : Int) < (r : Int) := by omega
  have hmm := @run_makeMap Try.prog
  have H := hid (cache_new (P := Try.prog) (kT := 9) (Kd := IsS) w r h0 h1 108)
  clear h0 h1
  go_enter Try.func44, Try.ntmps44
  go_wp2
  go_ret2
  exact ⟨_, _, rfl, H.out, ((Below.refl _ _).alloc (Nat.le_refl _) _).alloc (by simp) _, by omega, by omega⟩

theorem info_S : (Try.prog.info? 9).map (fun i => (i.zero, i.size, i.bytes)) = some (some (.string ByteArray.empty), 1, 16) := by kernel_rfl
theorem keys_S {w : World} {c mb room met miss : Nat} {ns : List Nd} (C : CacheS w c mb ns room met miss) :
    Calls Try.prog 47 #[.pointer (some ⟨c, 0, none⟩)] w (KeysPost w 9 ns) := by
  obtain ⟨i0, hi, hz0, hz1, hz2⟩ := info_parts info_S
  have f := C.row.f
  rw [show fst ns = (ns[0]?).map (·.b) from rfl] at f
  have hcw := within_of C.row.lc
  have HC := hid C
  have hle : ns.length ≤ 4096 := Nat.le_trans C.le C.hi
  clear C
  obtain ⟨n0, h0⟩ : ∃ v, ptrV ((ns[0]?).map (·.b)) = v := ⟨_, rfl⟩
  rw [h0] at f
  have h0 := hid h0
  go_enter Try.func47, Try.ntmps47
  go_wp2
  go_loopw [3, 4] (KeysIn w 9 ns) (fun o _ _ => ns.length - lenV o)
  case atStart => exact ⟨0, none, 0, _, #[], Nat.zero_le _, rfl, h0.out.symm, by simp [ext]; rfl, World.ownsRow_nil _ _ _ _⟩
  case round =>
    obtain ⟨i, A, c1, d, bs, hi1, rfl, rfl, rfl, hown⟩ := hrel
    have HO := hid hown
    clear hown f
    by_cases hlt : i < ns.length
    · obtain ⟨n, hn⟩ : ∃ n, ns[i]? = some n := ⟨_, List.getElem?_eq_getElem hlt⟩
      have N := HC.out.row.nd i n hn
      obtain ⟨k, hk, hnk⟩ := HC.out.kd n (List.mem_of_getElem? hn)
      have c0 := N.c0
      rw [hnk, value_S] at c0
      have c3 := N.c3
      rw [show nx ns i = (ns[i + 1]?).map (·.b) from rfl] at c3
      obtain ⟨n3, h3⟩ : ∃ v, ptrV ((ns[i + 1]?).map (·.b)) = v := ⟨_, rfl⟩
      rw [h3] at c3
      have h3 := hid h3
      have hw := within_of N.lt
      rw [ptrV_get hn]
      have HV : Hid (keysV ns (i + 1) = keysV ns i ++ [(.string k)]) := hid (by unfold keysV; rw [map_succ _ hn, hnk, value_S])
      clear hn N hk hnk
      go_wp2_with (at_builtin; refine wpList_append_ext rfl _ _ 57 rfl w ?hw 9 i0 (.string ByteArray.empty) 1 16 Try.underlying57 hi hz0 hz1 hz2 rfl (by decide) _ i (keysV ns i) rfl ?own (some ⟨w.heap.size + bs.size, 0, none⟩) 1 1 [(.string k)] rfl ?hr rfl ?ho ?h63 ?hb ?_)
      case hw => exact (below_ext _ _ _).alloc (by simp) _
      case own => exact HO.out.alloc _
      case hr => exact .inr ⟨_, rfl, by simp, fun j u hj => by
        cases j with
        | zero => simp at hj; subst hj; rw [show w.heap.size + bs.size = (ext w d bs).heap.size by simp]; exact cell_one_new _ _ _ 0 _ rfl
        | succ j => simp at hj⟩
      case ho => intro u hu; simp at hu; subst hu; rfl
      case h63 => unfold maxLen; omega
      case hb => omega
      intro A2 c2 d2 bs2 hown2
      have HO2 := hid hown2
      clear hown2 HO
      go_wp2
      refine ⟨⟨i + 1, A2, c2, d2, bs2, by omega, rfl, h3.out.symm, rfl, ?_⟩, by simp [lenV]; omega⟩
      rw [HV.out]
      exact HO2.out
    · obtain rfl : i = ns.length := by omega
      rw [ptrV_end (Nat.le_refl _)]
      have HF : Hid ((ext w d bs).ownsRow w.heap.size 9 1 (.slice A ns.length c1) ns.length (keysV ns ns.length)) := hid HO.out
      clear HO
      go_wp2
      go_ret
      exact ⟨A, c1, rfl, below_ext _ _ _, HF.out⟩
end Go.Proofs.Yticgpiipikneiaa
