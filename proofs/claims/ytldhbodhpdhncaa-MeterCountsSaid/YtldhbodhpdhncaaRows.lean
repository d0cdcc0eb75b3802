/-
  No cell of these rows narrows 'for every input' (looked for: loops, veiled, ifaces, maps, wideKeys, modest, calm, conditions, laid).
  DERIVED. THE GIVEN ROWS OF THIS SEAT. 7 by the template 'for every input the law returns true; each argument reads behind the call as it read before'; 0 by the template 'total and deterministic' (their statements: YtldhbodhpdhncaaTotals.lean).
  GIVEN WITH THE SEED: the statements are not yours to turn. If you find one false, say at which input.
  Laid BY PROGRAM, IN A SANDBOX (cutbox-rows.mjs): the forced cells as the released guide's own fill.sh prints them over the translation 2b5f023ee2fb6f18… (all of the seat's roots in one cut). By AI agents, Wed Nov 11 2026. No macro, syntax, notation, axiom, sorry.
-/
import Derived.Test.YtldhbodhpdhncaaChecked
import GoSem.Claim
import GoSem.ClaimJoined
import GoSem.ClaimMapViews
import Derived.JoinedTies
import Derived.KernelRfl
namespace Go.Proofs.Ytldhbodhpdhncaa
/- THE CELL 'sum', in the pinned program and in every row, IS THE sha256 OF THE DUMP (.gsa) THAT YtldhbodhpdhncaaProg.lean LOADS. Nothing in Lean hashes anything: it is a label: what it is worth is what the hold of that sum in a sandbox is worth. -/
noncomputable def Try.pinned : Pinned := { name := "ytldhbodhpdhncaa", sum := "2b5f023ee2fb6f18140fb373954da97a71038f134c07eaa4024f7b9108b4a3f4", checked := Try.checked }
namespace Rows
def none {H : Type} : Left H := { results := [], args := [] }

/-- 'mortmainlaw04.RealKinds': WHATEVER THE INPUT: true; the input reads as it did. -/
def realKindsSpec : ChangeSpec := { name := "realKinds", fn := fun _ => fun
  | [d] => { results := [.lit (.bool true)], args := [d] }
  | _ => none }
def realKindsRow : OpenClaim := { program := "ytldhbodhpdhncaa", sum := "2b5f023ee2fb6f18140fb373954da97a71038f134c07eaa4024f7b9108b4a3f4", func := "mortmain/mortmainlaw04.RealKinds", spec := "realKinds", inPlace := ["math.Float64frombits", "math.Float64bits"], apart := false }
def RealKindsSaid : Prop := realKindsRow.holds Try.pinned (OpenSpec.ofChange realKindsSpec)

/-- ITS FALSE NEIGHBOUR: 'it returns false'. Refute it at one input. -/
def realKindsWrong : ChangeSpec := { name := "realKinds", fn := fun _ => fun
  | [d] => { results := [.lit (.bool false)], args := [d] }
  | _ => none }
def RealKindsWrongFalsely : Prop := realKindsRow.holds Try.pinned (OpenSpec.ofChange realKindsWrong)

/-- 'mortmainlaw04.RealOrders': WHATEVER THE INPUT: true; the input reads as it did. -/
def realOrdersSpec : ChangeSpec := { name := "realOrders", fn := fun _ => fun
  | [d1, d2, d3] => { results := [.lit (.bool true)], args := [d1, d2, d3] }
  | _ => none }
def realOrdersRow : OpenClaim := { program := "ytldhbodhpdhncaa", sum := "2b5f023ee2fb6f18140fb373954da97a71038f134c07eaa4024f7b9108b4a3f4", func := "mortmain/mortmainlaw04.RealOrders", spec := "realOrders", inPlace := ["math.Float64frombits", "math.Float64bits"], apart := false }
def RealOrdersSaid : Prop := realOrdersRow.holds Try.pinned (OpenSpec.ofChange realOrdersSpec)

/-- ITS FALSE NEIGHBOUR: 'it returns false'. Refute it at one input. -/
def realOrdersWrong : ChangeSpec := { name := "realOrders", fn := fun _ => fun
  | [d1, d2, d3] => { results := [.lit (.bool false)], args := [d1, d2, d3] }
  | _ => none }
def RealOrdersWrongFalsely : Prop := realOrdersRow.holds Try.pinned (OpenSpec.ofChange realOrdersWrong)

/-- 'mortmainlaw04.RealParts': WHATEVER THE INPUT: true; the input reads as it did. -/
def realPartsSpec : ChangeSpec := { name := "realParts", fn := fun _ => fun
  | [d1, d2, d3] => { results := [.lit (.bool true)], args := [d1, d2, d3] }
  | _ => none }
def realPartsRow : OpenClaim := { program := "ytldhbodhpdhncaa", sum := "2b5f023ee2fb6f18140fb373954da97a71038f134c07eaa4024f7b9108b4a3f4", func := "mortmain/mortmainlaw04.RealParts", spec := "realParts", inPlace := ["math.Float64frombits", "math.Float64bits"], apart := false }
def RealPartsSaid : Prop := realPartsRow.holds Try.pinned (OpenSpec.ofChange realPartsSpec)

/-- ITS FALSE NEIGHBOUR: 'it returns false'. Refute it at one input. -/
def realPartsWrong : ChangeSpec := { name := "realParts", fn := fun _ => fun
  | [d1, d2, d3] => { results := [.lit (.bool false)], args := [d1, d2, d3] }
  | _ => none }
def RealPartsWrongFalsely : Prop := realPartsRow.holds Try.pinned (OpenSpec.ofChange realPartsWrong)

/-- 'mortmainlaw04.RealLists': WHATEVER THE INPUT: true; the input reads as it did. -/
def realListsSpec : ChangeSpec := { name := "realLists", fn := fun _ => fun
  | [d1, d2, d3, d4] => { results := [.lit (.bool true)], args := [d1, d2, d3, d4] }
  | _ => none }
def realListsRow : OpenClaim := { program := "ytldhbodhpdhncaa", sum := "2b5f023ee2fb6f18140fb373954da97a71038f134c07eaa4024f7b9108b4a3f4", func := "mortmain/mortmainlaw04.RealLists", spec := "realLists", inPlace := ["math.Float64bits", "math.Float64frombits"], apart := false }
def RealListsSaid : Prop := realListsRow.holds Try.pinned (OpenSpec.ofChange realListsSpec)

/-- ITS FALSE NEIGHBOUR: 'it returns false'. Refute it at one input. -/
def realListsWrong : ChangeSpec := { name := "realLists", fn := fun _ => fun
  | [d1, d2, d3, d4] => { results := [.lit (.bool false)], args := [d1, d2, d3, d4] }
  | _ => none }
def RealListsWrongFalsely : Prop := realListsRow.holds Try.pinned (OpenSpec.ofChange realListsWrong)

/-- 'mortmainlaw39.MeterCounts': WHATEVER THE INPUT: true; the input reads as it did. -/
def meterCountsSpec : ChangeSpec := { name := "meterCounts", fn := fun _ => fun
  | [d1, d2] => { results := [.lit (.bool true)], args := [d1, d2] }
  | _ => none }
def meterCountsRow : OpenClaim := { program := "ytldhbodhpdhncaa", sum := "2b5f023ee2fb6f18140fb373954da97a71038f134c07eaa4024f7b9108b4a3f4", func := "mortmain/mortmainlaw39.MeterCounts", spec := "meterCounts", inPlace := ["math.Float64bits", "math.Float64frombits"], unfollowed := true, recurses := true, apart := false }
def MeterCountsSaid : Prop := meterCountsRow.holds Try.pinned (OpenSpec.ofChange meterCountsSpec)

/-- ITS FALSE NEIGHBOUR: 'it returns false'. Refute it at one input. -/
def meterCountsWrong : ChangeSpec := { name := "meterCounts", fn := fun _ => fun
  | [d1, d2] => { results := [.lit (.bool false)], args := [d1, d2] }
  | _ => none }
def MeterCountsWrongFalsely : Prop := meterCountsRow.holds Try.pinned (OpenSpec.ofChange meterCountsWrong)

/-- 'mortmainlaw39.MeterParts': WHATEVER THE INPUT: true; the input reads as it did. -/
def meterPartsSpec : ChangeSpec := { name := "meterParts", fn := fun _ => fun
  | [d1, d2, d3] => { results := [.lit (.bool true)], args := [d1, d2, d3] }
  | _ => none }
def meterPartsRow : OpenClaim := { program := "ytldhbodhpdhncaa", sum := "2b5f023ee2fb6f18140fb373954da97a71038f134c07eaa4024f7b9108b4a3f4", func := "mortmain/mortmainlaw39.MeterParts", spec := "meterParts", inPlace := ["math.Float64bits", "math.Float64frombits"], unfollowed := true, recurses := true, apart := false }
def MeterPartsSaid : Prop := meterPartsRow.holds Try.pinned (OpenSpec.ofChange meterPartsSpec)

/-- ITS FALSE NEIGHBOUR: 'it returns false'. Refute it at one input. -/
def meterPartsWrong : ChangeSpec := { name := "meterParts", fn := fun _ => fun
  | [d1, d2, d3] => { results := [.lit (.bool false)], args := [d1, d2, d3] }
  | _ => none }
def MeterPartsWrongFalsely : Prop := meterPartsRow.holds Try.pinned (OpenSpec.ofChange meterPartsWrong)

/-- 'mortmainlaw39.MeterSteps': WHATEVER THE INPUT: true; the input reads as it did. -/
def meterStepsSpec : ChangeSpec := { name := "meterSteps", fn := fun _ => fun
  | [d1, d2, d3] => { results := [.lit (.bool true)], args := [d1, d2, d3] }
  | _ => none }
def meterStepsRow : OpenClaim := { program := "ytldhbodhpdhncaa", sum := "2b5f023ee2fb6f18140fb373954da97a71038f134c07eaa4024f7b9108b4a3f4", func := "mortmain/mortmainlaw39.MeterSteps", spec := "meterSteps", inPlace := ["math.Float64frombits", "math.Float64bits"], unfollowed := true, recurses := true, apart := false }
def MeterStepsSaid : Prop := meterStepsRow.holds Try.pinned (OpenSpec.ofChange meterStepsSpec)

/-- ITS FALSE NEIGHBOUR: 'it returns false'. Refute it at one input. -/
def meterStepsWrong : ChangeSpec := { name := "meterSteps", fn := fun _ => fun
  | [d1, d2, d3] => { results := [.lit (.bool false)], args := [d1, d2, d3] }
  | _ => none }
def MeterStepsWrongFalsely : Prop := meterStepsRow.holds Try.pinned (OpenSpec.ofChange meterStepsWrong)

/- THE SECOND FORM. 'bulk': how many values and letters a reading holds, each counted each time it is reached (what is shared counts as often as it is met; a slice's spare places count too). A statement '..UptoSaid' is the law's where the arguments, and the package variables that the reading takes, are together of bulk at most 1048576: NARROWER than '..Said'. Prove '..Said' where nothing that the law and all that it calls make is longer than what came in: it says more and counts as full. Else prove '..UptoSaid'. A law counts once. -/
mutual
def uptoBulk {H : Type} : DataW H → Nat
  | .lit (.string bytes) => bytes.length + 1
  | .lit _ => 1
  | .nil => 1
  | .ptr d => uptoBulk d + 1
  | .slice elems spare => uptoBulkAll elems + uptoBulkAll spare + 1
  | .agg parts => uptoBulkAll parts + 1
  | .iface _ d => uptoBulk d + 1
  | .map entries => uptoBulkEntries entries + 1
  | .held _ => 1
def uptoBulkAll {H : Type} : List (DataW H) → Nat
  | [] => 0
  | d :: r => uptoBulk d + uptoBulkAll r
def uptoBulkEntries {H : Type} : List (Lit × DataW H) → Nat
  | [] => 0
  | x :: r => uptoBulkEntry x + uptoBulkEntries r
def uptoBulkEntry {H : Type} : Lit × DataW H → Nat
  | (.string bytes, d) => bytes.length + uptoBulk d + 1
  | (_, d) => uptoBulk d + 1
 end
def uptoSmall : (H : Type) → List (DataW H) → Bool := fun _ ds => decide (uptoBulkAll ds ≤ 1048576)
def OpenSpec.upto (s : _root_.Go.ChangeSpec) : _root_.Go.OpenSpec := { _root_.Go.OpenSpec.ofChange s with cond := some uptoSmall }

/-- 'mortmainlaw04.RealKinds', WHERE WHAT IT READS IS OF BULK AT MOST 1048576: true; the input reads as it did. -/
def realKindsUptoRow : OpenClaim := { program := "ytldhbodhpdhncaa", sum := "2b5f023ee2fb6f18140fb373954da97a71038f134c07eaa4024f7b9108b4a3f4", func := "mortmain/mortmainlaw04.RealKinds", spec := "realKinds", inPlace := ["math.Float64frombits", "math.Float64bits"], apart := false, narrowed := true }
def RealKindsUptoSaid : Prop := realKindsUptoRow.holds Try.pinned (OpenSpec.upto realKindsSpec)

/-- 'mortmainlaw04.RealOrders', WHERE WHAT IT READS IS OF BULK AT MOST 1048576: true; the input reads as it did. -/
def realOrdersUptoRow : OpenClaim := { program := "ytldhbodhpdhncaa", sum := "2b5f023ee2fb6f18140fb373954da97a71038f134c07eaa4024f7b9108b4a3f4", func := "mortmain/mortmainlaw04.RealOrders", spec := "realOrders", inPlace := ["math.Float64frombits", "math.Float64bits"], apart := false, narrowed := true }
def RealOrdersUptoSaid : Prop := realOrdersUptoRow.holds Try.pinned (OpenSpec.upto realOrdersSpec)

/-- 'mortmainlaw04.RealParts', WHERE WHAT IT READS IS OF BULK AT MOST 1048576: true; the input reads as it did. -/
def realPartsUptoRow : OpenClaim := { program := "ytldhbodhpdhncaa", sum := "2b5f023ee2fb6f18140fb373954da97a71038f134c07eaa4024f7b9108b4a3f4", func := "mortmain/mortmainlaw04.RealParts", spec := "realParts", inPlace := ["math.Float64frombits", "math.Float64bits"], apart := false, narrowed := true }
def RealPartsUptoSaid : Prop := realPartsUptoRow.holds Try.pinned (OpenSpec.upto realPartsSpec)

/-- 'mortmainlaw04.RealLists', WHERE WHAT IT READS IS OF BULK AT MOST 1048576: true; the input reads as it did. -/
def realListsUptoRow : OpenClaim := { program := "ytldhbodhpdhncaa", sum := "2b5f023ee2fb6f18140fb373954da97a71038f134c07eaa4024f7b9108b4a3f4", func := "mortmain/mortmainlaw04.RealLists", spec := "realLists", inPlace := ["math.Float64bits", "math.Float64frombits"], apart := false, narrowed := true }
def RealListsUptoSaid : Prop := realListsUptoRow.holds Try.pinned (OpenSpec.upto realListsSpec)

/-- 'mortmainlaw39.MeterCounts', WHERE WHAT IT READS IS OF BULK AT MOST 1048576: true; the input reads as it did. -/
def meterCountsUptoRow : OpenClaim := { program := "ytldhbodhpdhncaa", sum := "2b5f023ee2fb6f18140fb373954da97a71038f134c07eaa4024f7b9108b4a3f4", func := "mortmain/mortmainlaw39.MeterCounts", spec := "meterCounts", inPlace := ["math.Float64bits", "math.Float64frombits"], unfollowed := true, recurses := true, apart := false, narrowed := true }
def MeterCountsUptoSaid : Prop := meterCountsUptoRow.holds Try.pinned (OpenSpec.upto meterCountsSpec)

/-- 'mortmainlaw39.MeterParts', WHERE WHAT IT READS IS OF BULK AT MOST 1048576: true; the input reads as it did. -/
def meterPartsUptoRow : OpenClaim := { program := "ytldhbodhpdhncaa", sum := "2b5f023ee2fb6f18140fb373954da97a71038f134c07eaa4024f7b9108b4a3f4", func := "mortmain/mortmainlaw39.MeterParts", spec := "meterParts", inPlace := ["math.Float64bits", "math.Float64frombits"], unfollowed := true, recurses := true, apart := false, narrowed := true }
def MeterPartsUptoSaid : Prop := meterPartsUptoRow.holds Try.pinned (OpenSpec.upto meterPartsSpec)

/-- 'mortmainlaw39.MeterSteps', WHERE WHAT IT READS IS OF BULK AT MOST 1048576: true; the input reads as it did. -/
def meterStepsUptoRow : OpenClaim := { program := "ytldhbodhpdhncaa", sum := "2b5f023ee2fb6f18140fb373954da97a71038f134c07eaa4024f7b9108b4a3f4", func := "mortmain/mortmainlaw39.MeterSteps", spec := "meterSteps", inPlace := ["math.Float64frombits", "math.Float64bits"], unfollowed := true, recurses := true, apart := false, narrowed := true }
def MeterStepsUptoSaid : Prop := meterStepsUptoRow.holds Try.pinned (OpenSpec.upto meterStepsSpec)

end Rows
end Go.Proofs.Ytldhbodhpdhncaa
