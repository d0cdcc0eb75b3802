/- The mean of numbers. -/
import Derived.Test.YtldhbodhpdhncaaRg
set_option linter.unusedSimpArgs false
set_option linter.unusedVariables false
namespace Go.Proofs.Ytldhbodhpdhncaa
open Go.ChangeShapes Go.WideShapes Go.RowKit Go.Mor Go.Fl

/-- One more number added to a sum that may be none. -/
@[irreducible] def stepS (o : Option Nat) (x : Nat) : Option Nat := o.bind fun s => floatBits .add .f64 s x
@[irreducible] def sumO (l : List Nat) : Option Nat := l.foldl stepS (some 0)
theorem sumO_nil : sumO [] = some 0 := by unfold sumO; rfl
theorem sumO_succ {l : List Nat} {k x : Nat} (h : l[k]? = some x) : sumO (l.take (k + 1)) = stepS (sumO (l.take k)) x := by
  unfold sumO; rw [take_succ h, List.foldl_append]; rfl
/-- The bits b stand for the sum o. -/
def stR (o : Option Nat) (b : Nat) : Prop := match o with | none => nanB b = true | some s => b = s
theorem nan_read {b : Nat} (h : nanB b = true) : ∃ s f, Ieee.double.read b = .nan s f := by
  rw [nan_rg] at h
  have : 9218868437227405312 < rg b := by simpa using h
  rw [read_eq, if_neg (by omega), if_neg (by omega)]
  exact ⟨_, _, rfl⟩
theorem add_nan {b : Nat} (x : Nat) (h : nanB b = true) : floatBits .add .f64 b x = none := by
  obtain ⟨s, f, hr⟩ := nan_read h
  show (((Ieee.double.read b).sum (Ieee.double.read x)).map Ieee.double.write) = none
  rw [hr]; rfl
theorem quo_nan {b : Nat} (x : Nat) (h : nanB b = true) : floatBits .quo .f64 b x = none := by
  obtain ⟨s, f, hr⟩ := nan_read h
  show (((Ieee.double.read b).quotient (Ieee.double.fractionBits + 2) (Ieee.double.read x)).map Ieee.double.write) = none
  rw [hr]; rfl
theorem okF_none {op : BinOp} {x y : Nat} (h : floatBits op .f64 x y = none) : okF op x y = false := by unfold okF; rw [h]; rfl
theorem okF_spec {op : BinOp} {x y : Nat} (h : okF op x y = true) : floatBits op .f64 x y = some (valF op x y) := by
  unfold okF at h; unfold valF
  obtain ⟨r, hr⟩ := Option.isSome_iff_exists.1 h
  rw [hr]; rfl
theorem okF_no {op : BinOp} {x y : Nat} (h : okF op x y = false) : floatBits op .f64 x y = none := by
  unfold okF at h; simpa using h
theorem st_ok {o : Option Nat} {b x : Nat} (h : stR o b) (g : okF .add b x = true) : stR (stepS o x) (valF .add b x) := by
  cases o with
  | none => have := okF_none (add_nan x h); rw [this] at g; cases g
  | some s =>
    obtain rfl : b = s := h
    unfold stepS
    show stR (floatBits .add .f64 b x) _
    rw [okF_spec g]; rfl
theorem st_no {o : Option Nat} {b x : Nat} (h : stR o b) (g : okF .add b x = false) (t : Nat) : stR (stepS o x) (nanOf t) := by
  cases o with
  | none => unfold stepS; exact nanOf_nan t
  | some s =>
    obtain rfl : b = s := h
    unfold stepS
    show stR (floatBits .add .f64 b x) _
    rw [okF_no g]; exact nanOf_nan t
/-- What the mean may be: the sum's part, or something that is none. -/
@[irreducible] def meanB (l : List Nat) (n : Int) (r : Nat) : Bool := match sumO l with | none => nanB r | some s => resB .quo s (floatOfInt .f64 n) r
theorem mean_ok {l : List Nat} {n : Int} {b : Nat} (h : stR (sumO l) b) (g : okF .quo b (floatOfInt .f64 n) = true) : meanB l n (valF .quo b (floatOfInt .f64 n)) = true := by
  unfold meanB
  cases ho : sumO l with
  | none => rw [ho] at h; have := okF_none (quo_nan (floatOfInt .f64 n) h); rw [this] at g; cases g
  | some s => rw [ho] at h; obtain rfl : b = s := h; exact resB_ok g
theorem mean_no {l : List Nat} {n : Int} {b : Nat} (h : stR (sumO l) b) (g : okF .quo b (floatOfInt .f64 n) = false) (t : Nat) : meanB l n (nanOf t) = true := by
  unfold meanB
  cases ho : sumO l with
  | none => exact nanOf_nan t
  | some s => rw [ho] at h; obtain rfl : b = s := h; exact resB_no g t
theorem same_refl (x : Nat) : sameB x x = true := by unfold sameB; cases nanB x <;> simp
theorem same_nan {x y : Nat} (h : nanB x = true) (g : nanB y = true) : sameB x y = true := by unfold sameB; rw [h, g]; rfl
theorem res_same {op : BinOp} {x y r s : Nat} (h : resB op x y r = true) (g : resB op x y s = true) : sameB r s = true := by
  unfold resB at h g
  cases hk : okF op x y <;> rw [hk] at h g <;> simp at h g
  · exact same_nan h g
  · rw [h, g]; exact same_refl _
theorem part_same {n m : Int} {r s : Nat} (h : partB n m r = true) (g : partB n m s = true) : sameB r s = true := by
  unfold partB at h g; exact res_same h g
theorem mean_same {l : List Nat} {n : Int} {r s : Nat} (h : meanB l n r = true) (g : meanB l n s = true) : sameB r s = true := by
  unfold meanB at h g
  cases ho : sumO l with
  | none => rw [ho] at h g; exact same_nan h g
  | some v => rw [ho] at h g; exact res_same h g

def MeanPost (l : List Nat) (n : Nat) (w : World) (e : Ending) (w' : World) : Prop := ∃ r, e = .returned (.float .f64 r) ∧ meanB l n r = true ∧ Below w.heap.size w w'
set_option maxHeartbeats 1000000 in
theorem mean_any (A : Option Addr) (n c : Nat) (l : List Nat) (w : World) (hl : l.length = n) (hm : n ≤ 100000) (hs : Flt w A l) :
    Calls Try.prog 27 #[.slice A n c] w (MeanPost l n w) := by
  have HS := hid hs
  have HL := hid hl
  clear hs hl
  go_enter Try.func27, Try.ntmps27
  go_wp2
  go_loopw [3, 5, 8] (fun s _ i wr => ∃ k S m : Nat, k ≤ n ∧ i = .int .i64 k ∧ s = .float .f64 S ∧ wr = w.drewN m ∧ Hid (stR (sumO (l.take k)) S)) (fun _ _ i _ => n - (intOf i).toNat)
  case atStart => exact ⟨0, _, 0, Nat.zero_le _, rfl, rfl, rfl, by rw [List.take_zero, sumO_nil]; exact rfl⟩
  case round =>
    obtain ⟨k, S, m, hk, rfl, rfl, rfl, ES⟩ := hrel
    by_cases hlt : k < n
    · obtain ⟨x, hxx⟩ : ∃ x, l[k]? = some x := ⟨_, List.getElem?_eq_getElem (by have := HL.out; omega)⟩
      obtain ⟨b, o, rfl, hb, hc⟩ : ∃ b off, A = some ⟨b, off, none⟩ ∧ within b w = true ∧ w.cell? ⟨b, off + k, none⟩ = some (.float .f64 x) := by
        rcases HS.out with h | ⟨b, off, h1, h2, h3⟩
        · subst h; simp at hxx
        · exact ⟨b, off, h1, within_of h2, h3 k _ hxx⟩
      have hi0 : (0 : Int) ≤ (k : Int) := by omega
      have hi1 : (k : Int) < (n : Int) := by omega
      have SL := hid (sumO_succ hxx)
      clear hxx
      cases hok : okF .add S x
      · go_wp2
        exact ⟨⟨k + 1, _, _, by omega, by go_num, rfl, rfl, hid (by rw [SL.out]; exact st_no ES.out hok _)⟩, by simp [intOf]; omega⟩
      · go_wp2
        exact ⟨⟨k + 1, _, _, by omega, by go_num, rfl, rfl, hid (by rw [SL.out]; exact st_ok ES.out hok)⟩, by simp [intOf]; omega⟩
    · have hkn : k = n := by omega
      have ET : stR (sumO l) S := by have h := ES.out; rwa [List.take_of_length_le (by have := HL.out; omega)] at h
      have ET := hid ET
      cases hok : okF .quo S (floatOfInt .f64 n)
      · go_wp2
        go_ret
        exact ⟨_, rfl, mean_no ET.out hok _, (below_drewN (Below.refl _ _) m).drew⟩
      · go_wp2
        go_ret
        exact ⟨_, rfl, mean_ok ET.out hok, below_drewN (Below.refl _ _) m⟩
set_option maxHeartbeats 1000000 in
theorem refMean_any (A : Option Addr) (n c : Nat) (l : List Nat) (w : World) (hl : l.length = n) (hm : n ≤ 100000) (hs : Flt w A l) :
    Calls Try.prog 28 #[.slice A n c] w (MeanPost l n w) := by
  have HS := hid hs
  have HL := hid hl
  clear hs hl
  go_enter Try.func28, Try.ntmps28
  go_wp2
  go_loopw [3, 4] (fun s i wr => ∃ k S m : Nat, k ≤ n ∧ i = .int .i64 k ∧ s = .float .f64 S ∧ wr = w.drewN m ∧ Hid (stR (sumO (l.take k)) S)) (fun _ i _ => n - (intOf i).toNat)
  case atStart => exact ⟨0, _, 0, Nat.zero_le _, rfl, rfl, rfl, by rw [List.take_zero, sumO_nil]; exact rfl⟩
  case round =>
    obtain ⟨k, S, m, hk, rfl, rfl, rfl, ES⟩ := hrel
    by_cases hlt : k < n
    · obtain ⟨x, hxx⟩ : ∃ x, l[k]? = some x := ⟨_, List.getElem?_eq_getElem (by have := HL.out; omega)⟩
      obtain ⟨b, o, rfl, hb, hc⟩ : ∃ b off, A = some ⟨b, off, none⟩ ∧ within b w = true ∧ w.cell? ⟨b, off + k, none⟩ = some (.float .f64 x) := by
        rcases HS.out with h | ⟨b, off, h1, h2, h3⟩
        · subst h; simp at hxx
        · exact ⟨b, off, h1, within_of h2, h3 k _ hxx⟩
      have hi0 : (0 : Int) ≤ (k : Int) := by omega
      have hi1 : (k : Int) < (n : Int) := by omega
      have SL := hid (sumO_succ hxx)
      clear hxx
      cases hok : okF .add S x
      · go_wp2
        exact ⟨⟨k + 1, _, _, by omega, by go_num, rfl, rfl, hid (by rw [SL.out]; exact st_no ES.out hok _)⟩, by simp [intOf]; omega⟩
      · go_wp2
        exact ⟨⟨k + 1, _, _, by omega, by go_num, rfl, rfl, hid (by rw [SL.out]; exact st_ok ES.out hok)⟩, by simp [intOf]; omega⟩
    · have hkn : k = n := by omega
      have ET : stR (sumO l) S := by have h := ES.out; rwa [List.take_of_length_le (by have := HL.out; omega)] at h
      have ET := hid ET
      cases hok : okF .quo S (floatOfInt .f64 n)
      · go_wp2
        go_ret
        exact ⟨_, rfl, mean_no ET.out hok _, (below_drewN (Below.refl _ _) m).drew⟩
      · go_wp2
        go_ret
        exact ⟨_, rfl, mean_ok ET.out hok, below_drewN (Below.refl _ _) m⟩
end Go.Proofs.Ytldhbodhpdhncaa
