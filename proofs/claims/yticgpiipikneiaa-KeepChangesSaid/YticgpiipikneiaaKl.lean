/- The contract of 'works' of layer 16. -/
import Derived.Test.YticgpiipikneiaaKk
set_option linter.unusedSimpArgs false
set_option linter.unusedVariables false
namespace Go.Proofs.Yticgpiipikneiaa
open Go.ChangeShapes Go.WideShapes Go.RowKit Go.Mor

def clip0 : Array Value := zero59.setIfInBounds 33 (.int .i64 3)
def clsK : Array Value := #[.string ⟨#[120]⟩, .int .i64 10, .bool false, .bool false]
def clsV : Array Value := #[.string ⟨#[121]⟩, .int .i64 5, .bool true, .bool true]
def court : ByteArray := ⟨#[99, 111, 117, 114, 116]⟩

section
variable (ev : Operand → Value) (w : World) (d : Option Tmp) (t : TypeId) (pos : String) (af : Array Edge) (gd : Option (Nat × Bool))
theorem exec_build (ty : TypeId) (parts : Array (Nat × Operand)) (vs : Array (Nat × Value)) (v : Value) (h1 : (parts.map fun (i, x) => (i, ev x)) = vs) (h2 : ∀ w, (Instr.build ty vs).run Try.prog w = .ok v w) :
    (execOp ev (Oper.mk d (.build ty parts) t pos af gd)).run Try.prog w = .ok (.value v) w := by
  simp only [execOp, h1, Sem.run_bind, h2, Result.andThen_ok, Sem.run_pure]
@[go_sem ↓] theorem build_c (a : Act) :
    (execOp a.eval (Oper.mk d (.build 59 #[(2, .const (.int .i64 3))]) t pos af gd)).run Try.prog w = .ok (.value (.agg clip0)) w :=
  exec_build a.eval w d t pos af gd 59 _ #[(2, .int .i64 3)] _ (by simp [Act.eval]) (fun w => by kernel_rfl)
@[go_sem ↓] theorem build_k (a : Act) :
    (execOp a.eval (Oper.mk d (.build 61 #[(0, .const (.string ⟨#[120]⟩)), (1, .const (.int .i64 10))]) t pos af gd)).run Try.prog w = .ok (.value (.agg clsK)) w :=
  exec_build a.eval w d t pos af gd 61 _ #[(0, .string ⟨#[120]⟩), (1, .int .i64 10)] _ (by simp [Act.eval]) (fun w => by kernel_rfl)
@[go_sem ↓] theorem build_v (a : Act) :
    (execOp a.eval (Oper.mk d (.build 61 #[(0, .const (.string ⟨#[121]⟩)), (1, .const (.int .i64 5)), (2, .const (.bool true)), (3, .const (.bool true))]) t pos af gd)).run Try.prog w = .ok (.value (.agg clsV)) w :=
  exec_build a.eval w d t pos af gd 61 _ #[(0, .string ⟨#[121]⟩), (1, .int .i64 5), (2, .bool true), (3, .bool true)] _ (by simp [Act.eval]) (fun w => by kernel_rfl)
@[go_sem ↓] theorem alloc61 :
    (execOp ev (Oper.mk d (.alloc 61) t pos af gd)).run Try.prog w = .ok (.value (.pointer (some ⟨w.heap.size, 0, none⟩))) (w.alloc (.cells #[.string ByteArray.empty, .int .i64 0, .bool false, .bool false] 61)) :=
  exec_alloc ev w 61 _ (fun w => by kernel_rfl) d t pos af gd
end


theorem delete_is (cs ks : Array Value) (created event period now : Int) (fired ev : Bool) (ha : Option Addr) (hl hc : Nat) (w : World)
    (hs : isSz cs 39 = true) (gs : isSz ks 4 = true)
    (h1 : cs[33]? = some (.int .i64 created)) (h2 : cs[34]? = some (.bool fired)) (h3 : cs[35]? = some (.int .i64 event)) (h4 : cs[36]? = some (.slice ha hl hc))
    (g1 : ks[1]? = some (.int .i64 period)) (g2 : ks[2]? = some (.bool ev))
    (b1 : 0 ≤ created) (b2 : created ≤ 1099511627776) (b3 : 0 ≤ event) (b4 : event ≤ 1099511627776) (b5 : 0 ≤ period) (b6 : period ≤ 1099511627776) (k : Int) (hk : delN hl created event period now fired ev = k) :
    Calls Try.prog 32 #[.agg cs, .agg ks, .int .i64 now] w fun e w' => e = .returned (.int .i64 k) ∧ Below w.heap.size w w' := by
  rw [← hk]; exact delete_any cs ks created event period now fired ev ha hl hc w hs gs h1 h2 h3 h4 g1 g2 b1 b2 b3 b4 b5 b6
theorem left_is (cs ks : Array Value) (created event period now : Int) (fired ev : Bool) (ha : Option Addr) (hl hc : Nat) (w : World)
    (hs : isSz cs 39 = true) (gs : isSz ks 4 = true)
    (h1 : cs[33]? = some (.int .i64 created)) (h2 : cs[34]? = some (.bool fired)) (h3 : cs[35]? = some (.int .i64 event)) (h4 : cs[36]? = some (.slice ha hl hc))
    (g1 : ks[1]? = some (.int .i64 period)) (g2 : ks[2]? = some (.bool ev))
    (b1 : 0 ≤ created) (b2 : created ≤ 1099511627776) (b3 : 0 ≤ event) (b4 : event ≤ 1099511627776) (b5 : 0 ≤ period) (b6 : period ≤ 1099511627776) (b7 : 0 ≤ now) (b8 : now ≤ 1099511627776) (k : Int) (hk : leftN created event period now fired ev = k) :
    Calls Try.prog 36 #[.agg cs, .agg ks, .int .i64 now] w fun e w' => e = .returned (.int .i64 k) ∧ Below w.heap.size w w' := by
  rw [← hk]; exact left_any cs ks created event period now fired ev ha hl hc w hs gs h1 h2 h3 h4 g1 g2 b1 b2 b3 b4 b5 b6 b7 b8
theorem priv_is (cs ks : Array Value) (pr : Bool) (ha : Option Addr) (hl hc : Nat) (w : World)
    (h4 : cs[36]? = some (.slice ha hl hc)) (g3 : ks[3]? = some (.bool pr)) (k : Int) (hk : privN hl pr = k) :
    Calls Try.prog 34 #[.agg cs, .agg ks] w fun e w' => e = .returned (.int .i64 k) ∧ Below w.heap.size w w' := by
  rw [← hk]; exact priv_any cs ks pr ha hl hc w h4 g3

theorem until_is (cs ks : Array Value) (created event period : Int) (fired ev : Bool) (w : World)
    (h1 : cs[33]? = some (.int .i64 created)) (h2 : cs[34]? = some (.bool fired)) (h3 : cs[35]? = some (.int .i64 event))
    (g1 : ks[1]? = some (.int .i64 period)) (g2 : ks[2]? = some (.bool ev))
    (b1 : 0 ≤ created) (b2 : created ≤ 1099511627776) (b3 : 0 ≤ event) (b4 : event ≤ 1099511627776) (b5 : 0 ≤ period) (b6 : period ≤ 1099511627776) (k : Int) (b : Bool)
    (hk : (if untilB fired ev then untilN created event period fired ev else 0) = k) (hb : untilB fired ev = b) :
    Calls Try.prog 30 #[.agg cs, .agg ks] w fun e w' => e = .returned (.tuple #[.int .i64 k, .bool b]) ∧ Below w.heap.size w w' := by
  rw [← hk, ← hb]; exact until_any cs ks created event period fired ev w h1 h2 h3 g1 g2 b1 b2 b3 b4 b5 b6
def clipF : Array Value := (clip0.setIfInBounds 34 (.bool true)).setIfInBounds 35 (.int .i64 7)
theorem fire1 (w : World) : Calls Try.prog 37 #[.agg clip0, .agg clsV, .int .i64 7] w fun e w' => e = .returned (.tuple #[.agg clipF, .int .i64 0]) ∧ Below w.heap.size w w' :=
  fire_any clip0 clsV false true 7 w (by decide +kernel) (by decide +kernel) (by decide +kernel) (by kernel_rfl) 0 (by kernel_rfl) (by kernel_rfl)
theorem fire2 (w : World) : Calls Try.prog 37 #[.agg clipF, .agg clsV, .int .i64 8] w fun e w' => e = .returned (.tuple #[.agg clipF, .int .i64 9]) ∧ Below w.heap.size w w' :=
  fire_any clipF clsV true true 8 w (by decide +kernel) (by decide +kernel) (by decide +kernel) (by kernel_rfl) 7 (by kernel_rfl) (by kernel_rfl)

theorem hold_court (w : World) : Calls Try.prog 39 #[.agg clip0, .string court] w fun e w' => ∃ A c, e = .returned (.tuple #[.agg (clip0.setIfInBounds 36 (.slice A 1 c)), .int .i64 0]) ∧ Below w.heap.size w w' ∧ Rd w' A (strV [court]) ∧ (A = none → 1 = 0) := by
  refine (hold_any clip0 court none 0 0 [] w (by decide +kernel) (by decide +kernel) (by kernel_rfl) rfl (by decide) (.inl rfl) (fun _ => rfl)).mono ?_
  rintro e w' ⟨A, k, c, rfl, hb, hk, hr, hA⟩
  have n1 : holdN [] court = 0 := by decide +kernel
  have n2 : holdL [] court = [court] := by decide +kernel
  rw [n2] at hk hr
  rw [n1]
  obtain rfl : k = 1 := hk
  exact ⟨A, c, rfl, hb, hr, hA⟩
theorem release_court (A : Option Addr) (c : Nat) (w : World) (hr : Rd w A (strV [court])) (hA : A = none → 1 = 0) :
    Calls Try.prog 41 #[.agg (clip0.setIfInBounds 36 (.slice A 1 c)), .string court] w fun e w' => ∃ A' c', e = .returned (.tuple #[.agg (clip0.setIfInBounds 36 (.slice A' 0 c')), .int .i64 0]) ∧ Below w.heap.size w w' := by
  refine (release_any _ court A 1 c [court] w (by rw [isSz_set]; decide +kernel) (ones_set _ _ _ (by decide +kernel) rfl) (get_set36 _ _ (by decide +kernel)) rfl (by decide) hr hA).mono ?_
  rintro e w' ⟨A', k, c', rfl, hb, hk, hr, hA⟩
  have n1 : relN [court] court = 0 := by decide +kernel
  have n2 : relL [court] court = [] := by decide +kernel
  rw [n2] at hk
  rw [n1]
  obtain rfl : k = 0 := hk
  exact ⟨A', c', by rw [Array.setIfInBounds_setIfInBounds], hb⟩

set_option maxRecDepth 100000 in
set_option maxHeartbeats 4000000 in
theorem works_any (w : World) : Calls Try.prog 29 #[] w fun e w' => e = .returned (.bool true) ∧ Below w.heap.size w w' := by
  have s0 : isSz clip0 39 = true := by decide +kernel
  have s1 : isSz clsK 4 = true := by decide +kernel
  have s2 : isSz clsV 4 = true := by decide +kernel
  have o0 : ones clip0 = true := by decide +kernel
  have o1 : ones clsK = true := by decide +kernel
  have o2 : ones clsV = true := by decide +kernel
  have c33 : clip0[33]? = some (.int .i64 3) := by kernel_rfl
  have c34 : clip0[34]? = some (.bool false) := by kernel_rfl
  have c35 : clip0[35]? = some (.int .i64 0) := by kernel_rfl
  have c36 : clip0[36]? = some (.slice none 0 0) := by kernel_rfl
  have k1 : clsK[1]? = some (.int .i64 10) := by kernel_rfl
  have k2 : clsK[2]? = some (.bool false) := by kernel_rfl
  have k3 : clsK[3]? = some (.bool false) := by kernel_rfl
  have v1 : clsV[1]? = some (.int .i64 5) := by kernel_rfl
  have v2 : clsV[2]? = some (.bool true) := by kernel_rfl
  have v3 : clsV[3]? = some (.bool true) := by kernel_rfl
  have oo := fun A n c => ones_set clip0 36 (.slice A n c) o0 rfl
  have f33 : clipF[33]? = some (.int .i64 3) := by kernel_rfl
  have f34 : clipF[34]? = some (.bool true) := by kernel_rfl
  have f35 : clipF[35]? = some (.int .i64 7) := by kernel_rfl
  have sF : isSz clipF 39 = true := by decide +kernel
  have oF : ones clipF = true := by decide +kernel
  go_enter Try.func29, Try.ntmps29
  go_wp2_with (first | (go_at_call 39; refine (hold_court _).mono ?_; rintro e w' ⟨A1, c1, rfl, hb1, hr1, hA1⟩; obtain ⟨d1, bs1, rfl⟩ := ext_of_below hb1; have HR1 := hid hr1; have HA1 := hid hA1; clear hr1 hA1 hb1) | (go_at_call 41; refine (release_court A1 c1 _ (HR1.out.alloc _) HA1.out).mono ?_; rintro e w' ⟨A2, c2, rfl, hb2⟩; obtain ⟨d2, bs2, rfl⟩ := ext_of_below hb2; clear hb2))
  refine (fire1 _).mono ?_; rintro e w' ⟨rfl, hb3⟩; obtain ⟨d3, bs3, rfl⟩ := ext_of_below hb3; clear hb3
  go_wp2_with fail
  refine (fire2 _).mono ?_; rintro e w' ⟨rfl, hb3⟩; obtain ⟨d4, bs4, rfl⟩ := ext_of_below hb3; clear hb3
  go_wp2_with fail
  refine (until_is _ _ 3 7 5 true true _ f33 f34 f35 v1 v2 (by decide) (by decide) (by decide) (by decide) (by decide) (by decide) 12 true rfl rfl).mono ?_; rintro e w' ⟨rfl, hb3⟩; obtain ⟨d5, bs5, rfl⟩ := ext_of_below hb3; clear hb3
  go_wp2_with fail
  refine (until_is _ _ 3 0 5 false true _ c33 c34 c35 v1 v2 (by decide) (by decide) (by decide) (by decide) (by decide) (by decide) 0 false rfl rfl).mono ?_; rintro e w' ⟨rfl, hb3⟩; obtain ⟨d6, bs6, rfl⟩ := ext_of_below hb3; clear hb3
  go_wp2_with fail
  refine (delete_is clip0 clsK 3 0 10 12 false false none 0 0 _ s0 s1 c33 c34 c35 c36 k1 k2 (by decide) (by decide) (by decide) (by decide) (by decide) (by decide) 12 rfl).mono ?_; rintro e w' ⟨rfl, hb3⟩; obtain ⟨d7, bs7, rfl⟩ := ext_of_below hb3; clear hb3
  go_wp2_with fail
  refine (delete_is clip0 clsK 3 0 10 13 false false none 0 0 _ s0 s1 c33 c34 c35 c36 k1 k2 (by decide) (by decide) (by decide) (by decide) (by decide) (by decide) 0 rfl).mono ?_; rintro e w' ⟨rfl, hb3⟩; obtain ⟨d8, bs8, rfl⟩ := ext_of_below hb3; clear hb3
  go_wp2_with fail
  refine (delete_is (clip0.setIfInBounds 36 (.slice A1 1 c1)) clsK 3 0 10 99 false false A1 1 c1 _ (by rw [isSz_set]; exact s0) s1 (by rw [Array.getElem?_setIfInBounds_ne (by decide)]; exact c33) (by rw [Array.getElem?_setIfInBounds_ne (by decide)]; exact c34) (by rw [Array.getElem?_setIfInBounds_ne (by decide)]; exact c35) (get_set36 _ _ s0) k1 k2 (by decide) (by decide) (by decide) (by decide) (by decide) (by decide) 11 rfl).mono ?_; rintro e w' ⟨rfl, hb3⟩; obtain ⟨d9, bs9, rfl⟩ := ext_of_below hb3; clear hb3
  go_wp2_with fail
  refine (priv_is clip0 clsK false none 0 0 _ c36 k3 13 rfl).mono ?_; rintro e w' ⟨rfl, hb3⟩; obtain ⟨d10, bs10, rfl⟩ := ext_of_below hb3; clear hb3
  go_wp2_with fail
  refine (priv_is clip0 clsV true none 0 0 _ c36 v3 0 rfl).mono ?_; rintro e w' ⟨rfl, hb3⟩; obtain ⟨d11, bs11, rfl⟩ := ext_of_below hb3; clear hb3
  go_wp2_with fail
  refine (priv_is (clip0.setIfInBounds 36 (.slice A1 1 c1)) clsV true A1 1 c1 _ (get_set36 _ _ s0) v3 11 rfl).mono ?_; rintro e w' ⟨rfl, hb3⟩; obtain ⟨d12, bs12, rfl⟩ := ext_of_below hb3; clear hb3
  go_wp2_with fail
  refine (left_is clip0 clsK 3 0 10 5 false false none 0 0 _ s0 s1 c33 c34 c35 c36 k1 k2 (by decide) (by decide) (by decide) (by decide) (by decide) (by decide) (by decide) (by decide) 8 rfl).mono ?_; rintro e w' ⟨rfl, hb3⟩; obtain ⟨d13, bs13, rfl⟩ := ext_of_below hb3; clear hb3
  go_wp2_with fail
  refine (left_is clip0 clsV 3 0 5 5 false true none 0 0 _ s0 s2 c33 c34 c35 c36 v1 v2 (by decide) (by decide) (by decide) (by decide) (by decide) (by decide) (by decide) (by decide) (-1) rfl).mono ?_; rintro e w' ⟨rfl, hb3⟩; obtain ⟨d14, bs14, rfl⟩ := ext_of_below hb3; clear hb3
  go_wp2_with fail
  go_ret
  refine ⟨rfl, ?_⟩
  with_reducible refine below_ext' (Below.alloc (below_ext' (Below.alloc (below_ext' (Below.alloc (below_ext' (Below.alloc (below_ext' (Below.alloc (Below.alloc (Below.alloc (Below.refl _ _) ?_ _) ?_ _) ?_ _) ?_ _ _) ?_ _) ?_ _ _) ?_ _) ?_ _ _) ?_ _) ?_ _ _) ?_ _) ?_ _ _
  all_goals first | exact Nat.le_refl _ | (simp only [size_ext, World.size_alloc]; omega)
end Go.Proofs.Yticgpiipikneiaa
