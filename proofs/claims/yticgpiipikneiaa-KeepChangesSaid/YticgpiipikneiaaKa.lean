/- The contracts of the functions of 'keep' and of their references that make nothing but copies of their arguments. -/
import Derived.Test.YticgpiipikneiaaChecked
import Derived.Test.YticgpiipikneiaaBase
import Derived.WalkMore
import Derived.ScopeJumps
set_option linter.unusedSimpArgs false
set_option linter.unusedVariables false
namespace Go.Proofs.Yticgpiipikneiaa
open Go.ChangeShapes Go.WideShapes Go.RowKit Go.Mor

section
variable (ev : Operand → Value) (w : World) (x y : Operand) (d : Option Tmp) (t : TypeId) (pos : String) (af : Array Edge) (gd : Option (Nat × Bool))
@[go_sem ↓] theorem load59 (h1 : isHead (ev x) = true) (h2 : isRow w (blk (ev x)) 39 = true) :
    (execOp ev (Oper.mk d (.load 59 x) t pos af gd)).run Try.prog w = .ok (.value (.agg (rowOf w (blk (ev x))))) w :=
  exec_load ev w 59 39 _ Try.underlying59 rfl (by kernel_rfl) x d t pos af gd h1 h2
@[go_sem ↓] theorem load61 (h1 : isHead (ev x) = true) (h2 : isRow w (blk (ev x)) 4 = true) :
    (execOp ev (Oper.mk d (.load 61 x) t pos af gd)).run Try.prog w = .ok (.value (.agg (rowOf w (blk (ev x))))) w :=
  exec_load ev w 61 4 _ Try.underlying61 rfl (by kernel_rfl) x d t pos af gd h1 h2
@[go_sem ↓] theorem store59 (h1 : isHead (ev x) = true) (h2 : isRow w (blk (ev x)) 39 = true) (h3 : isAgg' (ev y) 39 = true) :
    (execOp ev (Oper.mk d (.store 59 x y) t pos af gd)).run Try.prog w = .ok .skip (w.setRow (blk (ev x)) (aggs (ev y))) :=
  exec_store ev w 59 39 (by kernel_rfl) x y d t pos af gd h1 h2 h3
@[go_sem ↓] theorem store61 (h1 : isHead (ev x) = true) (h2 : isRow w (blk (ev x)) 4 = true) (h3 : isAgg' (ev y) 4 = true) :
    (execOp ev (Oper.mk d (.store 61 x y) t pos af gd)).run Try.prog w = .ok .skip (w.setRow (blk (ev x)) (aggs (ev y))) :=
  exec_store ev w 61 4 (by kernel_rfl) x y d t pos af gd h1 h2 h3
end

/-- The zero clip. -/
def zero59 : Array Value := #[.int .u8 0, .int .u8 0, .int .u8 0, .int .u8 0, .int .u8 0, .int .u8 0, .int .u8 0, .int .u8 0, .int .u8 0, .int .u8 0, .int .u8 0, .int .u8 0, .int .u8 0, .int .u8 0, .int .u8 0, .int .u8 0, .int .u8 0, .int .u8 0, .int .u8 0, .int .u8 0, .int .u8 0, .int .u8 0, .int .u8 0, .int .u8 0, .int .u8 0, .int .u8 0, .int .u8 0, .int .u8 0, .int .u8 0, .int .u8 0, .int .u8 0, .int .u8 0, .int .i64 0, .int .i64 0, .bool false, .int .i64 0, .slice none 0 0, .string ByteArray.empty, .slice none 0 0]
@[go_sem] theorem isSz_zero59 : isSz zero59 39 = true := by decide +kernel
@[go_sem ↓] theorem alloc59 (ev : Operand → Value) (w : World) (d : Option Tmp) (t : TypeId) (pos : String) (af : Array Edge) (gd : Option (Nat × Bool)) :
    (execOp ev (Oper.mk d (.alloc 59) t pos af gd)).run Try.prog w = .ok (.value (.pointer (some ⟨w.heap.size, 0, none⟩))) (w.alloc (.cells zero59 59)) :=
  exec_alloc ev w 59 zero59 (fun w => by kernel_rfl) d t pos af gd

/-- When a clip may go: till when (or -1). -/
def untilN (created event period : Int) (fired ev : Bool) : Int := if ev then (if fired then event + period else -1) else created + period
def untilB (fired ev : Bool) : Bool := !ev || fired

theorem until_any (cs ks : Array Value) (created event period : Int) (fired ev : Bool) (w : World)
    (h1 : cs[33]? = some (.int .i64 created)) (h2 : cs[34]? = some (.bool fired)) (h3 : cs[35]? = some (.int .i64 event))
    (g1 : ks[1]? = some (.int .i64 period)) (g2 : ks[2]? = some (.bool ev))
    (b1 : 0 ≤ created) (b2 : created ≤ 1099511627776) (b3 : 0 ≤ event) (b4 : event ≤ 1099511627776) (b5 : 0 ≤ period) (b6 : period ≤ 1099511627776) :
    Calls Try.prog 30 #[.agg cs, .agg ks] w fun e w' => e = .returned (.tuple #[.int .i64 (if untilB fired ev then untilN created event period fired ev else 0), .bool (untilB fired ev)]) ∧ Below w.heap.size w w' := by
  have hB : Below w.heap.size w ((w.alloc (Obj.cells cs 59)).alloc (Obj.cells ks 61)) := ((Below.refl _ _).alloc (Nat.le_refl _) _).alloc (by simp) _
  cases ev <;> cases fired
  all_goals
    go_enter Try.func30, Try.ntmps30
    go_wp2
    go_ret2
    exact ⟨by simp [untilB, untilN], hB⟩

def LightPost (created event period now : Int) (w : World) (e : Ending) (w' : World) : Prop := ∃ b : Bool, e = .returned (.bool b) ∧ Below w.heap.size w w' ∧ (b = true → 0 ≤ created ∧ created ≤ 1099511627776 ∧ 0 ≤ event ∧ event ≤ 1099511627776 ∧ 0 ≤ period ∧ period ≤ 1099511627776 ∧ 0 ≤ now ∧ now ≤ 1099511627776)
set_option maxHeartbeats 1000000 in
theorem light_any (cs ks : Array Value) (created event period now : Int) (ha ta : Option Addr) (hl hc tl tc : Nat) (note : ByteArray) (w : World)
    (h1 : cs[33]? = some (.int .i64 created)) (h3 : cs[35]? = some (.int .i64 event)) (h4 : cs[36]? = some (.slice ha hl hc)) (h5 : cs[37]? = some (.string note)) (h6 : cs[38]? = some (.slice ta tl tc))
    (g1 : ks[1]? = some (.int .i64 period)) :
    Calls Try.prog 28 #[.agg cs, .agg ks, .int .i64 now] w (LightPost created event period now w) := by
  have hB : Below w.heap.size w ((w.alloc (Obj.cells cs 59)).alloc (Obj.cells ks 61)) := ((Below.refl _ _).alloc (Nat.le_refl _) _).alloc (by simp) _
  go_enter Try.func28, Try.ntmps28
  go_wp2
  all_goals
    go_ret
    refine ⟨_, rfl, hB, fun hh => ?_⟩
    first | (simp at hh; done) | (simp at hh; omega) | omega

theorem refUntil_any (cs ks : Array Value) (created event period : Int) (fired ev : Bool) (w : World)
    (h1 : cs[33]? = some (.int .i64 created)) (h2 : cs[34]? = some (.bool fired)) (h3 : cs[35]? = some (.int .i64 event))
    (g1 : ks[1]? = some (.int .i64 period)) (g2 : ks[2]? = some (.bool ev))
    (b1 : 0 ≤ created) (b2 : created ≤ 1099511627776) (b3 : 0 ≤ event) (b4 : event ≤ 1099511627776) (b5 : 0 ≤ period) (b6 : period ≤ 1099511627776) :
    Calls Try.prog 31 #[.agg cs, .agg ks] w fun e w' => e = .returned (.int .i64 (untilN created event period fired ev)) ∧ Below w.heap.size w w' := by
  have hB : Below w.heap.size w ((w.alloc (Obj.cells cs 59)).alloc (Obj.cells ks 61)) := ((Below.refl _ _).alloc (Nat.le_refl _) _).alloc (by simp) _
  cases ev <;> cases fired
  all_goals
    go_enter Try.func31, Try.ntmps31
    go_wp2
    go_ret
    exact ⟨by simp [untilN], hB⟩

/-- What is wrong with deleting a clip. -/
def delN (hl : Nat) (created event period now : Int) (fired ev : Bool) : Int := if 0 < hl then 11 else if untilN created event period fired ev < 0 ∨ now < untilN created event period fired ev then 12 else 0

theorem ret_i {k : IntKind} {a b : Int} (h : a = b) : Ending.returned (.int k a) = .returned (.int k b) := by rw [h]

end Go.Proofs.Yticgpiipikneiaa
