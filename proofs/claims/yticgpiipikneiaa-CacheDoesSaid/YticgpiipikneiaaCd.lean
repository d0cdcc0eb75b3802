/- A node is taken out of the row, and put first: the walks, for the three kinds of keys. No condition. -/
import Derived.Test.YticgpiipikneiaaChecked
import Derived.Test.YticgpiipikneiaaCc
import Derived.RegionTactic
import Derived.ChangeAlike
set_option linter.unusedSimpArgs false
set_option linter.unusedVariables false
namespace Go.Proofs.Yticgpiipikneiaa
open Go.ChangeShapes Go.WideShapes Go.RowKit Go.Mor Go.Cch

attribute [go_sem] World.frozen?_setCell World.frozen?_drew World.cell?_drew
theorem ptr_some {w : World} {a : Addr} {o : Option Nat} {b : Nat} (h : w.cell? a = some (ptrV o)) (e : o = some b) : w.cell? a = some (.pointer (some ⟨b, 0, none⟩)) := by subst e; exact h
theorem ptr_none {w : World} {a : Addr} {o : Option Nat} (h : w.cell? a = some (ptrV o)) (e : o = none) : w.cell? a = some (.pointer none) := by subst e; exact h
def OutPost (w : World) (c i : Nat) (ns : List Nd) (n : Nd) (e : Ending) (w' : World) : Prop :=
  e = .returned (.tuple #[]) ∧ RowAt w' c (ns.eraseIdx i) ∧ NodeAt w' n none none ∧ Turn c (ns.map (·.b)) w w'
def FrontPost (w : World) (c : Nat) (ns : List Nd) (n : Nd) (e : Ending) (w' : World) : Prop :=
  e = .returned (.tuple #[]) ∧ RowAt w' c (n :: ns) ∧ Turn c (n.b :: ns.map (·.b)) w w'
theorem post_drew {w : World} {c i : Nat} {ns : List Nd} {n : Nd} {e : Ending} {w' : World} (h : OutPost w c i ns n e w') : OutPost w c i ns n e w'.drew :=
  ⟨h.1, ⟨h.2.1.lc, h.2.1.f, h.2.1.l, h.2.1.fz, fun j m hm => ⟨(h.2.1.nd j m hm).lt, (h.2.1.nd j m hm).c0, (h.2.1.nd j m hm).c1, (h.2.1.nd j m hm).c2, (h.2.1.nd j m hm).c3, (h.2.1.nd j m hm).fz⟩, h.2.1.dj, h.2.1.nc⟩,
   ⟨h.2.2.1.lt, h.2.2.1.c0, h.2.2.1.c1, h.2.2.1.c2, h.2.2.1.c3, h.2.2.1.fz⟩, h.2.2.2.drewN 1⟩

theorem out_I {w : World} {c i : Nat} {ns : List Nd} {n : Nd} (r : RowAt w c ns) (h : ns[i]? = some n) :
    Calls Try.prog 57 #[.pointer (some ⟨c, 0, none⟩), .pointer (some ⟨n.b, 0, none⟩)] w (OutPost w c i ns n) := by
  have H := r.out h
  have N := r.nd i n h
  have hc : ¬ n.b = c := r.nc n (List.mem_of_getElem? h)
  have hc' : ¬ c = n.b := Ne.symm hc
  obtain ⟨vf, f⟩ : ∃ v, w.cell? ⟨c, 2, none⟩ = some v := ⟨_, r.f⟩
  obtain ⟨vl, l⟩ : ∃ v, w.cell? ⟨c, 3, none⟩ = some v := ⟨_, r.l⟩
  have fz := r.fz
  have nz := N.fz
  cases hp : pv ns i
  · cases hq : nx ns i
    · rw [hp, hq] at H
      have H := hid H
      have c2 := ptr_none N.c2 hp
      have c3 := ptr_none N.c3 hq
      clear N r h hp hq
      obtain ⟨b, hb⟩ : ∃ b, n.b = b := ⟨_, rfl⟩
      rw [hb] at c2 c3 nz hc hc' H ⊢
      go_enter Try.func57, Try.ntmps57
      go_wp2
      go_end0
      exact ⟨rfl, H.out⟩
    · rename_i d
      rw [hp, hq] at H
      have H := hid H
      have c2 := ptr_none N.c2 hp
      have c3 := ptr_some N.c3 hq
      obtain ⟨m, hm, rfl⟩ := nx_some hq
      have M := r.nd _ m hm
      have hdb : ¬ m.b = n.b := fun e => by have := blk_inj r.dj hm h e; omega
      have hdb' : ¬ n.b = m.b := Ne.symm hdb
      have hdc : ¬ m.b = c := r.nc m (List.mem_of_getElem? hm)
      have hdc' : ¬ c = m.b := Ne.symm hdc
      obtain ⟨vd, d2⟩ : ∃ v, w.cell? ⟨m.b, 2, none⟩ = some v := ⟨_, M.c2⟩
      have dz := M.fz
      clear M N r h hp hq hm
      obtain ⟨b, hb⟩ : ∃ b, n.b = b := ⟨_, rfl⟩
      obtain ⟨d, hd⟩ : ∃ d, m.b = d := ⟨_, rfl⟩
      rw [hb] at c2 c3 nz hc hc' H hdb hdb' ⊢
      rw [hd] at c3 H hdb hdb' hdc hdc' d2 dz
      go_enter Try.func57, Try.ntmps57
      go_wp2
      go_region
      all_goals
        go_wp2
        go_end0
        exact post_drew ⟨rfl, H.out⟩
  · rename_i a
    obtain ⟨m', _, hm', rfl⟩ := pv_some hp
    have M' := r.nd _ m' hm'
    have hab : ¬ m'.b = n.b := fun e => by have := blk_inj r.dj hm' h e; omega
    have hab' : ¬ n.b = m'.b := Ne.symm hab
    have hac : ¬ m'.b = c := r.nc m' (List.mem_of_getElem? hm')
    have hac' : ¬ c = m'.b := Ne.symm hac
    obtain ⟨va, a3⟩ : ∃ v, w.cell? ⟨m'.b, 3, none⟩ = some v := ⟨_, M'.c3⟩
    have az := M'.fz
    have c2 := ptr_some N.c2 hp
    cases hq : nx ns i
    · rw [hp, hq] at H
      have H := hid H
      have c3 := ptr_none N.c3 hq
      clear M' N r h hp hq hm'
      obtain ⟨b, hb⟩ : ∃ b, n.b = b := ⟨_, rfl⟩
      obtain ⟨a, ha⟩ : ∃ a, m'.b = a := ⟨_, rfl⟩
      rw [hb] at c2 c3 nz hc hc' H hab hab' ⊢
      rw [ha] at c2 H hab hab' hac hac' a3 az
      go_enter Try.func57, Try.ntmps57
      go_wp2
      go_region
      all_goals
        go_wp2
        go_end0
        exact post_drew ⟨rfl, H.out⟩
    · rename_i d
      rw [hp, hq] at H
      have H := hid H
      have c3 := ptr_some N.c3 hq
      obtain ⟨m, hm, rfl⟩ := nx_some hq
      have M := r.nd _ m hm
      have hdb : ¬ m.b = n.b := fun e => by have := blk_inj r.dj hm h e; omega
      have hdb' : ¬ n.b = m.b := Ne.symm hdb
      have hdc : ¬ m.b = c := r.nc m (List.mem_of_getElem? hm)
      have hdc' : ¬ c = m.b := Ne.symm hdc
      obtain ⟨vd, d2⟩ : ∃ v, w.cell? ⟨m.b, 2, none⟩ = some v := ⟨_, M.c2⟩
      have dz := M.fz
      clear M M' N r h hp hq hm hm'
      obtain ⟨b, hb⟩ : ∃ b, n.b = b := ⟨_, rfl⟩
      obtain ⟨d, hd⟩ : ∃ d, m.b = d := ⟨_, rfl⟩
      obtain ⟨a, ha⟩ : ∃ a, m'.b = a := ⟨_, rfl⟩
      rw [hb] at c2 c3 nz hc hc' H hab hab' hdb hdb' ⊢
      rw [ha] at c2 H hab hab' hac hac' a3 az
      rw [hd] at c3 H hdb hdb' hdc hdc' d2 dz
      go_enter Try.func57, Try.ntmps57
      go_wp2
      go_region
      all_goals
        go_wp2
        go_region
        all_goals
          go_wp2
          go_end0
          exact post_drew (post_drew ⟨rfl, H.out⟩)
theorem front_I {w : World} {c : Nat} {ns : List Nd} {n : Nd} {x : Option Nat} (r : RowAt w c ns) (N : NodeAt w n none x) (hn : ∀ m ∈ ns, m.b ≠ n.b) (hc : n.b ≠ c) :
    Calls Try.prog 58 #[.pointer (some ⟨c, 0, none⟩), .pointer (some ⟨n.b, 0, none⟩)] w (FrontPost w c ns n) := by
  have H := r.front N hn hc
  have hc : ¬ n.b = c := hc
  have hc' : ¬ c = n.b := Ne.symm hc
  obtain ⟨v3, c3⟩ : ∃ v, w.cell? ⟨n.b, 3, none⟩ = some v := ⟨_, N.c3⟩
  have fz := r.fz
  have nz := N.fz
  cases ns with
  | nil =>
    have f := ptr_none r.f rfl
    have l := ptr_none r.l rfl
    have H := hid H
    clear N r
    obtain ⟨b, hb⟩ : ∃ b, n.b = b := ⟨_, rfl⟩
    unfold FrontPost
    rw [hb] at c3 nz hc hc' H ⊢
    go_enter Try.func58, Try.ntmps58
    go_wp2
    go_end0
    exact ⟨rfl, H.out⟩
  | cons m ns =>
    have f := ptr_some r.f (b := m.b) rfl
    obtain ⟨z, hz⟩ : ∃ z, lst (m :: ns) = some z := ⟨((m :: ns)[ns.length]'(by simp)).b, by unfold lst; rw [show (m :: ns).length - 1 = ns.length by simp, List.getElem?_eq_getElem (by simp)]; rfl⟩
    have l := ptr_some r.l hz
    have M := r.nd 0 m rfl
    have hdb : ¬ m.b = n.b := hn m (List.mem_cons_self ..)
    have hdb' : ¬ n.b = m.b := Ne.symm hdb
    have hdc : ¬ m.b = c := r.nc m (List.mem_cons_self ..)
    have hdc' : ¬ c = m.b := Ne.symm hdc
    obtain ⟨vd, d2⟩ : ∃ v, w.cell? ⟨m.b, 2, none⟩ = some v := ⟨_, M.c2⟩
    have dz := M.fz
    have H := hid H
    have e : fst (m :: ns) = some m.b := rfl
    rw [e] at H
    clear N M r hz e hn
    obtain ⟨b, hb⟩ : ∃ b, n.b = b := ⟨_, rfl⟩
    obtain ⟨d, hd⟩ : ∃ d, m.b = d := ⟨_, rfl⟩
    unfold FrontPost
    rw [hb] at c3 nz hc hc' H hdb hdb' ⊢
    rw [hd] at f hdb hdb' hdc hdc' d2 dz H
    go_enter Try.func58, Try.ntmps58
    go_wp2
    go_end0
    exact ⟨rfl, H.out⟩

theorem out_B {w : World} {c i : Nat} {ns : List Nd} {n : Nd} (r : RowAt w c ns) (h : ns[i]? = some n) :
    Calls Try.prog 70 #[.pointer (some ⟨c, 0, none⟩), .pointer (some ⟨n.b, 0, none⟩)] w (OutPost w c i ns n) := by
  have H := r.out h
  have N := r.nd i n h
  have hc : ¬ n.b = c := r.nc n (List.mem_of_getElem? h)
  have hc' : ¬ c = n.b := Ne.symm hc
  obtain ⟨vf, f⟩ : ∃ v, w.cell? ⟨c, 2, none⟩ = some v := ⟨_, r.f⟩
  obtain ⟨vl, l⟩ : ∃ v, w.cell? ⟨c, 3, none⟩ = some v := ⟨_, r.l⟩
  have fz := r.fz
  have nz := N.fz
  cases hp : pv ns i
  · cases hq : nx ns i
    · rw [hp, hq] at H
      have H := hid H
      have c2 := ptr_none N.c2 hp
      have c3 := ptr_none N.c3 hq
      clear N r h hp hq
      obtain ⟨b, hb⟩ : ∃ b, n.b = b := ⟨_, rfl⟩
      rw [hb] at c2 c3 nz hc hc' H ⊢
      go_enter Try.func70, Try.ntmps70
      go_wp2
      go_end0
      exact ⟨rfl, H.out⟩
    · rename_i d
      rw [hp, hq] at H
      have H := hid H
      have c2 := ptr_none N.c2 hp
      have c3 := ptr_some N.c3 hq
      obtain ⟨m, hm, rfl⟩ := nx_some hq
      have M := r.nd _ m hm
      have hdb : ¬ m.b = n.b := fun e => by have := blk_inj r.dj hm h e; omega
      have hdb' : ¬ n.b = m.b := Ne.symm hdb
      have hdc : ¬ m.b = c := r.nc m (List.mem_of_getElem? hm)
      have hdc' : ¬ c = m.b := Ne.symm hdc
      obtain ⟨vd, d2⟩ : ∃ v, w.cell? ⟨m.b, 2, none⟩ = some v := ⟨_, M.c2⟩
      have dz := M.fz
      clear M N r h hp hq hm
      obtain ⟨b, hb⟩ : ∃ b, n.b = b := ⟨_, rfl⟩
      obtain ⟨d, hd⟩ : ∃ d, m.b = d := ⟨_, rfl⟩
      rw [hb] at c2 c3 nz hc hc' H hdb hdb' ⊢
      rw [hd] at c3 H hdb hdb' hdc hdc' d2 dz
      go_enter Try.func70, Try.ntmps70
      go_wp2
      go_region
      all_goals
        go_wp2
        go_end0
        exact post_drew ⟨rfl, H.out⟩
  · rename_i a
    obtain ⟨m', _, hm', rfl⟩ := pv_some hp
    have M' := r.nd _ m' hm'
    have hab : ¬ m'.b = n.b := fun e => by have := blk_inj r.dj hm' h e; omega
    have hab' : ¬ n.b = m'.b := Ne.symm hab
    have hac : ¬ m'.b = c := r.nc m' (List.mem_of_getElem? hm')
    have hac' : ¬ c = m'.b := Ne.symm hac
    obtain ⟨va, a3⟩ : ∃ v, w.cell? ⟨m'.b, 3, none⟩ = some v := ⟨_, M'.c3⟩
    have az := M'.fz
    have c2 := ptr_some N.c2 hp
    cases hq : nx ns i
    · rw [hp, hq] at H
      have H := hid H
      have c3 := ptr_none N.c3 hq
      clear M' N r h hp hq hm'
      obtain ⟨b, hb⟩ : ∃ b, n.b = b := ⟨_, rfl⟩
      obtain ⟨a, ha⟩ : ∃ a, m'.b = a := ⟨_, rfl⟩
      rw [hb] at c2 c3 nz hc hc' H hab hab' ⊢
      rw [ha] at c2 H hab hab' hac hac' a3 az
      go_enter Try.func70, Try.ntmps70
      go_wp2
      go_region
      all_goals
        go_wp2
        go_end0
        exact post_drew ⟨rfl, H.out⟩
    · rename_i d
      rw [hp, hq] at H
      have H := hid H
      have c3 := ptr_some N.c3 hq
      obtain ⟨m, hm, rfl⟩ := nx_some hq
      have M := r.nd _ m hm
      have hdb : ¬ m.b = n.b := fun e => by have := blk_inj r.dj hm h e; omega
      have hdb' : ¬ n.b = m.b := Ne.symm hdb
      have hdc : ¬ m.b = c := r.nc m (List.mem_of_getElem? hm)
      have hdc' : ¬ c = m.b := Ne.symm hdc
      obtain ⟨vd, d2⟩ : ∃ v, w.cell? ⟨m.b, 2, none⟩ = some v := ⟨_, M.c2⟩
      have dz := M.fz
      clear M M' N r h hp hq hm hm'
      obtain ⟨b, hb⟩ : ∃ b, n.b = b := ⟨_, rfl⟩
      obtain ⟨d, hd⟩ : ∃ d, m.b = d := ⟨_, rfl⟩
      obtain ⟨a, ha⟩ : ∃ a, m'.b = a := ⟨_, rfl⟩
      rw [hb] at c2 c3 nz hc hc' H hab hab' hdb hdb' ⊢
      rw [ha] at c2 H hab hab' hac hac' a3 az
      rw [hd] at c3 H hdb hdb' hdc hdc' d2 dz
      go_enter Try.func70, Try.ntmps70
      go_wp2
      go_region
      all_goals
        go_wp2
        go_region
        all_goals
          go_wp2
          go_end0
          exact post_drew (post_drew ⟨rfl, H.out⟩)
theorem front_B {w : World} {c : Nat} {ns : List Nd} {n : Nd} {x : Option Nat} (r : RowAt w c ns) (N : NodeAt w n none x) (hn : ∀ m ∈ ns, m.b ≠ n.b) (hc : n.b ≠ c) :
    Calls Try.prog 71 #[.pointer (some ⟨c, 0, none⟩), .pointer (some ⟨n.b, 0, none⟩)] w (FrontPost w c ns n) := by
  have H := r.front N hn hc
  have hc : ¬ n.b = c := hc
  have hc' : ¬ c = n.b := Ne.symm hc
  obtain ⟨v3, c3⟩ : ∃ v, w.cell? ⟨n.b, 3, none⟩ = some v := ⟨_, N.c3⟩
  have fz := r.fz
  have nz := N.fz
  cases ns with
  | nil =>
    have f := ptr_none r.f rfl
    have l := ptr_none r.l rfl
    have H := hid H
    clear N r
    obtain ⟨b, hb⟩ : ∃ b, n.b = b := ⟨_, rfl⟩
    unfold FrontPost
    rw [hb] at c3 nz hc hc' H ⊢
    go_enter Try.func71, Try.ntmps71
    go_wp2
    go_end0
    exact ⟨rfl, H.out⟩
  | cons m ns =>
    have f := ptr_some r.f (b := m.b) rfl
    obtain ⟨z, hz⟩ : ∃ z, lst (m :: ns) = some z := ⟨((m :: ns)[ns.length]'(by simp)).b, by unfold lst; rw [show (m :: ns).length - 1 = ns.length by simp, List.getElem?_eq_getElem (by simp)]; rfl⟩
    have l := ptr_some r.l hz
    have M := r.nd 0 m rfl
    have hdb : ¬ m.b = n.b := hn m (List.mem_cons_self ..)
    have hdb' : ¬ n.b = m.b := Ne.symm hdb
    have hdc : ¬ m.b = c := r.nc m (List.mem_cons_self ..)
    have hdc' : ¬ c = m.b := Ne.symm hdc
    obtain ⟨vd, d2⟩ : ∃ v, w.cell? ⟨m.b, 2, none⟩ = some v := ⟨_, M.c2⟩
    have dz := M.fz
    have H := hid H
    have e : fst (m :: ns) = some m.b := rfl
    rw [e] at H
    clear N M r hz e hn
    obtain ⟨b, hb⟩ : ∃ b, n.b = b := ⟨_, rfl⟩
    obtain ⟨d, hd⟩ : ∃ d, m.b = d := ⟨_, rfl⟩
    unfold FrontPost
    rw [hb] at c3 nz hc hc' H hdb hdb' ⊢
    rw [hd] at f hdb hdb' hdc hdc' d2 dz H
    go_enter Try.func71, Try.ntmps71
    go_wp2
    go_end0
    exact ⟨rfl, H.out⟩

theorem out_S {w : World} {c i : Nat} {ns : List Nd} {n : Nd} (r : RowAt w c ns) (h : ns[i]? = some n) :
    Calls Try.prog 68 #[.pointer (some ⟨c, 0, none⟩), .pointer (some ⟨n.b, 0, none⟩)] w (OutPost w c i ns n) := by
  have H := r.out h
  have N := r.nd i n h
  have hc : ¬ n.b = c := r.nc n (List.mem_of_getElem? h)
  have hc' : ¬ c = n.b := Ne.symm hc
  obtain ⟨vf, f⟩ : ∃ v, w.cell? ⟨c, 2, none⟩ = some v := ⟨_, r.f⟩
  obtain ⟨vl, l⟩ : ∃ v, w.cell? ⟨c, 3, none⟩ = some v := ⟨_, r.l⟩
  have fz := r.fz
  have nz := N.fz
  cases hp : pv ns i
  · cases hq : nx ns i
    · rw [hp, hq] at H
      have H := hid H
      have c2 := ptr_none N.c2 hp
      have c3 := ptr_none N.c3 hq
      clear N r h hp hq
      obtain ⟨b, hb⟩ : ∃ b, n.b = b := ⟨_, rfl⟩
      rw [hb] at c2 c3 nz hc hc' H ⊢
      go_enter Try.func68, Try.ntmps68
      go_wp2
      go_end0
      exact ⟨rfl, H.out⟩
    · rename_i d
      rw [hp, hq] at H
      have H := hid H
      have c2 := ptr_none N.c2 hp
      have c3 := ptr_some N.c3 hq
      obtain ⟨m, hm, rfl⟩ := nx_some hq
      have M := r.nd _ m hm
      have hdb : ¬ m.b = n.b := fun e => by have := blk_inj r.dj hm h e; omega
      have hdb' : ¬ n.b = m.b := Ne.symm hdb
      have hdc : ¬ m.b = c := r.nc m (List.mem_of_getElem? hm)
      have hdc' : ¬ c = m.b := Ne.symm hdc
      obtain ⟨vd, d2⟩ : ∃ v, w.cell? ⟨m.b, 2, none⟩ = some v := ⟨_, M.c2⟩
      have dz := M.fz
      clear M N r h hp hq hm
      obtain ⟨b, hb⟩ : ∃ b, n.b = b := ⟨_, rfl⟩
      obtain ⟨d, hd⟩ : ∃ d, m.b = d := ⟨_, rfl⟩
      rw [hb] at c2 c3 nz hc hc' H hdb hdb' ⊢
      rw [hd] at c3 H hdb hdb' hdc hdc' d2 dz
      go_enter Try.func68, Try.ntmps68
      go_wp2
      go_region
      all_goals
        go_wp2
        go_end0
        exact post_drew ⟨rfl, H.out⟩
  · rename_i a
    obtain ⟨m', _, hm', rfl⟩ := pv_some hp
    have M' := r.nd _ m' hm'
    have hab : ¬ m'.b = n.b := fun e => by have := blk_inj r.dj hm' h e; omega
    have hab' : ¬ n.b = m'.b := Ne.symm hab
    have hac : ¬ m'.b = c := r.nc m' (List.mem_of_getElem? hm')
    have hac' : ¬ c = m'.b := Ne.symm hac
    obtain ⟨va, a3⟩ : ∃ v, w.cell? ⟨m'.b, 3, none⟩ = some v := ⟨_, M'.c3⟩
    have az := M'.fz
    have c2 := ptr_some N.c2 hp
    cases hq : nx ns i
    · rw [hp, hq] at H
      have H := hid H
      have c3 := ptr_none N.c3 hq
      clear M' N r h hp hq hm'
      obtain ⟨b, hb⟩ : ∃ b, n.b = b := ⟨_, rfl⟩
      obtain ⟨a, ha⟩ : ∃ a, m'.b = a := ⟨_, rfl⟩
      rw [hb] at c2 c3 nz hc hc' H hab hab' ⊢
      rw [ha] at c2 H hab hab' hac hac' a3 az
      go_enter Try.func68, Try.ntmps68
      go_wp2
      go_region
      all_goals
        go_wp2
        go_end0
        exact post_drew ⟨rfl, H.out⟩
    · rename_i d
      rw [hp, hq] at H
      have H := hid H
      have c3 := ptr_some N.c3 hq
      obtain ⟨m, hm, rfl⟩ := nx_some hq
      have M := r.nd _ m hm
      have hdb : ¬ m.b = n.b := fun e => by have := blk_inj r.dj hm h e; omega
      have hdb' : ¬ n.b = m.b := Ne.symm hdb
      have hdc : ¬ m.b = c := r.nc m (List.mem_of_getElem? hm)
      have hdc' : ¬ c = m.b := Ne.symm hdc
      obtain ⟨vd, d2⟩ : ∃ v, w.cell? ⟨m.b, 2, none⟩ = some v := ⟨_, M.c2⟩
      have dz := M.fz
      clear M M' N r h hp hq hm hm'
      obtain ⟨b, hb⟩ : ∃ b, n.b = b := ⟨_, rfl⟩
      obtain ⟨d, hd⟩ : ∃ d, m.b = d := ⟨_, rfl⟩
      obtain ⟨a, ha⟩ : ∃ a, m'.b = a := ⟨_, rfl⟩
      rw [hb] at c2 c3 nz hc hc' H hab hab' hdb hdb' ⊢
      rw [ha] at c2 H hab hab' hac hac' a3 az
      rw [hd] at c3 H hdb hdb' hdc hdc' d2 dz
      go_enter Try.func68, Try.ntmps68
      go_wp2
      go_region
      all_goals
        go_wp2
        go_region
        all_goals
          go_wp2
          go_end0
          exact post_drew (post_drew ⟨rfl, H.out⟩)
theorem front_S {w : World} {c : Nat} {ns : List Nd} {n : Nd} {x : Option Nat} (r : RowAt w c ns) (N : NodeAt w n none x) (hn : ∀ m ∈ ns, m.b ≠ n.b) (hc : n.b ≠ c) :
    Calls Try.prog 69 #[.pointer (some ⟨c, 0, none⟩), .pointer (some ⟨n.b, 0, none⟩)] w (FrontPost w c ns n) := by
  have H := r.front N hn hc
  have hc : ¬ n.b = c := hc
  have hc' : ¬ c = n.b := Ne.symm hc
  obtain ⟨v3, c3⟩ : ∃ v, w.cell? ⟨n.b, 3, none⟩ = some v := ⟨_, N.c3⟩
  have fz := r.fz
  have nz := N.fz
  cases ns with
  | nil =>
    have f := ptr_none r.f rfl
    have l := ptr_none r.l rfl
    have H := hid H
    clear N r
    obtain ⟨b, hb⟩ : ∃ b, n.b = b := ⟨_, rfl⟩
    unfold FrontPost
    rw [hb] at c3 nz hc hc' H ⊢
    go_enter Try.func69, Try.ntmps69
    go_wp2
    go_end0
    exact ⟨rfl, H.out⟩
  | cons m ns =>
    have f := ptr_some r.f (b := m.b) rfl
    obtain ⟨z, hz⟩ : ∃ z, lst (m :: ns) = some z := ⟨((m :: ns)[ns.length]'(by simp)).b, by unfold lst; rw [show (m :: ns).length - 1 = ns.length by simp, List.getElem?_eq_getElem (by simp)]; rfl⟩
    have l := ptr_some r.l hz
    have M := r.nd 0 m rfl
    have hdb : ¬ m.b = n.b := hn m (List.mem_cons_self ..)
    have hdb' : ¬ n.b = m.b := Ne.symm hdb
    have hdc : ¬ m.b = c := r.nc m (List.mem_cons_self ..)
    have hdc' : ¬ c = m.b := Ne.symm hdc
    obtain ⟨vd, d2⟩ : ∃ v, w.cell? ⟨m.b, 2, none⟩ = some v := ⟨_, M.c2⟩
    have dz := M.fz
    have H := hid H
    have e : fst (m :: ns) = some m.b := rfl
    rw [e] at H
    clear N M r hz e hn
    obtain ⟨b, hb⟩ : ∃ b, n.b = b := ⟨_, rfl⟩
    obtain ⟨d, hd⟩ : ∃ d, m.b = d := ⟨_, rfl⟩
    unfold FrontPost
    rw [hb] at c3 nz hc hc' H hdb hdb' ⊢
    rw [hd] at f hdb hdb' hdc hdc' d2 dz H
    go_enter Try.func69, Try.ntmps69
    go_wp2
    go_end0
    exact ⟨rfl, H.out⟩
end Go.Proofs.Yticgpiipikneiaa
