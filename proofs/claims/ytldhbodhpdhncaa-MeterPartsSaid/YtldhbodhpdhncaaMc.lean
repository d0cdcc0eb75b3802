/- The meter in memory; its methods. -/
import Derived.Test.YtldhbodhpdhncaaMd
import Derived.StillTailTactics
import Derived.IntWalk
set_option linter.unusedSimpArgs false
set_option linter.unusedVariables false
namespace Go.Proofs.Ytldhbodhpdhncaa
open Go.ChangeShapes Go.WideShapes Go.RowKit Go.Mor Go.Fl

attribute [go_sem] World.frozen?_setCell World.frozen?_drew World.cell?_drew
section
variable {P : Program} {w : World} {a : Addr} {m : Mode}
@[go_sem] theorem run_store_float (k : FloatKind) (b : Nat) : (store a (.float k b) m).run P w = stored P w a (.float k b) m := run_store P w a _ m rfl
end
/-- The band in which a number lies: how many edges are not behind it. -/
theorem band_any (g n c x : Nat) (A : Option Addr) (l : List Nat) (w : World) (h0 : w.cell? ⟨g, 0, none⟩ = some (.slice A n c)) (hg : within g w = true) (hl : l.length = n) (hm : n ≤ 100000) (hs : Flt w A l) (hf : fits l) (hx : x < 18446744073709551616) (hr : rising l) :
    Calls Try.prog 58 #[.pointer (some ⟨g, 0, none⟩), .float .f64 x] w fun e w' => e = .returned (.int .i64 (bandN l x)) ∧ w = w' := by
  have HS := hid hs
  have HF := hid hf
  have HL := hid hl
  have HX := hid hx
  have HR := hid hr
  clear hs hf hl hx hr
  go_enter Try.func58, Try.ntmps58
  go_wp2_with fail
  refine (search_any _ _ _ _ l _ HL.out hm HS.out HF.out HX.out HR.out).mono ?_
  rintro e w' ⟨⟨i, b, rfl, hi, hb⟩, rfl⟩
  have HB := hid hb
  clear hb
  cases b
  · go_wp2
    go_ret
    exact ⟨ret_i (by rw [HB.out]; rfl), rfl⟩
  · go_wp2
    go_ret
    exact ⟨ret_i (by rw [HB.out]; rfl), rfl⟩

/-- One more in the band of a number. -/
@[irreducible] def addC (E C : List Nat) (x : Nat) : List Nat := C.set (bandN E x) (C.getD (bandN E x) 0 + 1)
theorem addC_eq {E C : List Nat} {x cv : Nat} (h : C[bandN E x]? = some cv) : addC E C x = C.set (bandN E x) (cv + 1) := by
  unfold addC; rw [List.getD_eq_getElem?_getD, h]; rfl
def NonePost (g h : Nat) (E C : List Nat) (nn lo hi s : Nat) (A : Option Addr) (c k : Nat) (w : World) (e : Ending) (w' : World) : Prop :=
  e = .returned (.tuple #[]) ∧ Kp g h w w' ∧ MeterAt w' g h E C (nn + 1) lo hi s A c k
def SomePost (x g h : Nat) (E C : List Nat) (nn lo hi s : Nat) (A : Option Addr) (c k : Nat) (w : World) (e : Ending) (w' : World) : Prop :=
  ∃ s', e = .returned (.tuple #[]) ∧ (∀ o, stR o s → stR (stepS o x) s') ∧ Kp g h w w' ∧ MeterAt w' g h E (addC E C x) nn (stepL lo x) (stepG hi x) s' A c k
theorem addNone_any (g h x : Nat) (E C : List Nat) (nn lo hi s : Nat) (A : Option Addr) (c k : Nat) (w : World) (m : MeterAt w g h E C nn lo hi s A c k) (hn : nn < 1000000) (hx : nanB x = true) :
    Calls Try.prog 35 #[.pointer (some ⟨g, 0, none⟩), .float .f64 x] w (NonePost g h E C nn lo hi s A c k w) := by
  have M := hid m
  have h2 := m.c2
  have hz := m.fg
  have hg := within_of m.lg
  clear m
  go_enter Try.func35, Try.ntmps35
  go_wp2_with (go_at_call 13; refine (isnan_any _ _).mono ?_; rintro e w' ⟨rfl, rfl⟩; rw [hx])
  (try simp only [Exit.inBlock, Exit.then])
  refine bodyPost_ret (results_none rfl _ _ _) rfl ?_
  exact ⟨rfl, (Kp.refl g h w).set _ _ (.inl rfl), M.out.set2 (nn + 1)⟩
set_option maxRecDepth 100000 in
set_option maxHeartbeats 1000000 in
theorem addSome_any (g h x : Nat) (E C : List Nat) (nn lo hi s : Nat) (A : Option Addr) (c k : Nat) (w : World) (m : MeterAt w g h E C nn lo hi s A c k) (hcap : ∀ v ∈ C, v < 1000000) (hx : x < 18446744073709551616) (hn : nanB x = false) :
    Calls Try.prog 35 #[.pointer (some ⟨g, 0, none⟩), .float .f64 x] w (SomePost x g h E C nn lo hi s A c k w) := by
  have M := hid m
  have HBd : ∀ w', Below w.heap.size w w' → Calls Try.prog 58 #[.pointer (some ⟨g, 0, none⟩), .float .f64 x] w' fun e w'' => e = .returned (.int .i64 (bandN E x)) ∧ w'' = w' := fun w' hb =>
    (band_any g E.length c x A E w' (m.keep hb).c0 (within_of (m.keep hb).lg) rfl (Nat.le_trans m.le (by decide)) (m.keep hb).ed.flt m.fe hx m.re).mono fun e w'' ⟨h1, h2⟩ => ⟨h1, h2.symm⟩
  have hbE := band_le E x
  obtain ⟨cv, hcC⟩ : ∃ cv, C[bandN E x]? = some cv := ⟨_, List.getElem?_eq_getElem (by have := m.lc; omega)⟩
  have hcb := hcap cv (List.mem_of_getElem? hcC)
  have hcv := m.cs _ _ hcC
  have HA := hid (addC_eq hcC)
  have HCl : Hid (bandN E x < C.length) := hid (by have := m.lc; omega)
  obtain ⟨B, hB⟩ : ∃ B, bandN E x = B := ⟨_, rfl⟩
  rw [hB] at hcv HBd HA HCl
  obtain ⟨cl, hcl⟩ : ∃ cl, C.length = cl := ⟨_, rfl⟩
  have hb1 : (0 : Int) ≤ (B : Int) := by omega
  have hb2 : (B : Int) < (cl : Int) := by have := HCl.out; omega
  have h0 := m.c0
  have h1 := m.c1
  rw [hcl] at h1
  have h3 := m.c3
  have h4 := m.c4
  have h5 := m.c5
  have hg := within_of m.lg
  have hgc := within_of m.lh
  have hne := m.ne
  have hz := m.fg
  have hzc := m.fh
  have HBd := hid HBd
  have HX := hid hx
  have LO := hid m.ll
  have HI := hid m.lu
  clear m hcC hcap hbE hB hcl hx
  have hsum : IntKind.i64.wrap ((cv : Int) + 1) = (cv : Int) + 1 := IntWalk.i64_in _ (by omega)
  cases hok : okF .add s x
  all_goals
   go_enter Try.func35, Try.ntmps35
   go_wp2_with (go_at_call 13; refine (isnan_any _ _).mono ?_; rintro e w' ⟨rfl, rfl⟩; rw [hn])
   go_still_tail 11, (by kernel_rfl)
   still_call (HBd.out _ ⟨rfl, rfl, rfl, Nat.le_refl _, fun _ _ => rfl⟩)
   repeat still_step
   refine wpStill_nil ?_
   change wpList _ _ _ _ _ w.drew
   clear hsum
   go_wp2_with (go_at_call 16; refine (compare_any _ _ _ HX.out (by first | exact LO.out | exact HI.out)).mono ?_; rintro e w' ⟨rfl, rfl⟩)
   all_goals
     go_end0
     first
       | refine ⟨valF .add s x, rfl, fun o ho => st_ok ho hok, ?_, ?_⟩
       | refine ⟨nanOf (w.tape (w.drawn + 1) (Question.nanBits FloatKind.f64 s x)), rfl, fun o ho => st_no ho hok _, ?_, ?_⟩
     · with_reducible repeat (first | exact Kp.refl _ _ _ | refine Kp.drew ?_ | refine Kp.set ?_ _ _ (.inl rfl) | refine Kp.set ?_ _ _ (.inr rfl))
     · rw [HA.out]
       first | rw [stepL_yes hn (by assumption : cmpN x lo < 0)] | rw [stepL_no hn (by assumption : 0 ≤ cmpN x lo)]
       first | rw [stepG_yes hn (by assumption : 0 < cmpN x hi)] | rw [stepG_no hn (by assumption : cmpN x hi ≤ 0)]
       have MC := M.out.setC B (cv + 1) HCl.out
       rw [show ((cv + 1 : Nat) : Int) = (cv : Int) + 1 from rfl] at MC
       first
         | with_reducible exact (((MC.set3 x HX.out).set4 x HX.out).set5 _).drew.drew
         | with_reducible exact ((MC.set3 x HX.out).set5 _).drew.drew
         | with_reducible exact ((MC.set4 x HX.out).set5 _).drew.drew
         | with_reducible exact (MC.set5 _).drew.drew
         | with_reducible exact (((MC.set3 x HX.out).set4 x HX.out).set5 _).drew
         | with_reducible exact ((MC.set3 x HX.out).set5 _).drew
         | with_reducible exact ((MC.set4 x HX.out).set5 _).drew
         | with_reducible exact (MC.set5 _).drew
end Go.Proofs.Ytldhbodhpdhncaa
