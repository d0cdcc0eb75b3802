/-
  No cell of these rows narrows 'for every input' (looked for: loops, veiled, ifaces, maps, wideKeys, modest, calm, conditions, laid).
  DERIVED. THE GIVEN ROWS OF THIS SEAT. 5 by the template 'for every input the law returns true; each argument reads behind the call as it read before'; 0 by the template 'total and deterministic' (their statements: YticgpiipikneiaaTotals.lean).
  GIVEN WITH THE SEED: the statements are not yours to turn. If you find one false, say at which input.
  Laid BY PROGRAM, IN A SANDBOX (cutbox-rows.mjs): the forced cells as the released guide's own fill.sh prints them over the translation 804a28cc73263ed6… (all of the seat's roots in one cut). By AI agents, Wed Nov 11 2026. No macro, syntax, notation, axiom, sorry.
-/
import Derived.Test.YticgpiipikneiaaChecked
import GoSem.Claim
import GoSem.ClaimJoined
import GoSem.ClaimMapViews
import Derived.JoinedTies
import Derived.KernelRfl
namespace Go.Proofs.Yticgpiipikneiaa
/- THE CELL 'sum', in the pinned program and in every row, IS THE sha256 OF THE DUMP (.gsa) THAT YticgpiipikneiaaProg.lean LOADS. Nothing in Lean hashes anything: it is a label: what it is worth is what the hold of that sum in a sandbox is worth. -/
noncomputable def Try.pinned : Pinned := { name := "yticgpiipikneiaa", sum := "804a28cc73263ed6937094005bf06f12627bbab8900eb979b1a1eb220760bde8", checked := Try.checked }
namespace Rows
def none {H : Type} : Left H := { results := [], args := [] }

/-- 'mortmainlaw40.CacheDoes': WHATEVER THE INPUT: true; the input reads as it did. -/
def cacheDoesSpec : ChangeSpec := { name := "cacheDoes", fn := fun _ => fun
  | [d1, d2] => { results := [.lit (.bool true)], args := [d1, d2] }
  | _ => none }
def cacheDoesRow : OpenClaim := { program := "yticgpiipikneiaa", sum := "804a28cc73263ed6937094005bf06f12627bbab8900eb979b1a1eb220760bde8", func := "mortmain/mortmainlaw40.CacheDoes", spec := "cacheDoes", unfollowed := true, recurses := true, apart := false }
def CacheDoesSaid : Prop := cacheDoesRow.holds Try.pinned (OpenSpec.ofChange cacheDoesSpec)

/-- ITS FALSE NEIGHBOUR: 'it returns false'. Refute it at one input. -/
def cacheDoesWrong : ChangeSpec := { name := "cacheDoes", fn := fun _ => fun
  | [d1, d2] => { results := [.lit (.bool false)], args := [d1, d2] }
  | _ => none }
def CacheDoesWrongFalsely : Prop := cacheDoesRow.holds Try.pinned (OpenSpec.ofChange cacheDoesWrong)

/-- 'mortmainlaw40.CacheThrough': WHATEVER THE INPUT: true; the input reads as it did. -/
def cacheThroughSpec : ChangeSpec := { name := "cacheThrough", fn := fun _ => fun
  | [d1, d2] => { results := [.lit (.bool true)], args := [d1, d2] }
  | _ => none }
def cacheThroughRow : OpenClaim := { program := "yticgpiipikneiaa", sum := "804a28cc73263ed6937094005bf06f12627bbab8900eb979b1a1eb220760bde8", func := "mortmain/mortmainlaw40.CacheThrough", spec := "cacheThrough", unfollowed := true, recurses := true, apart := false }
def CacheThroughSaid : Prop := cacheThroughRow.holds Try.pinned (OpenSpec.ofChange cacheThroughSpec)

/-- ITS FALSE NEIGHBOUR: 'it returns false'. Refute it at one input. -/
def cacheThroughWrong : ChangeSpec := { name := "cacheThrough", fn := fun _ => fun
  | [d1, d2] => { results := [.lit (.bool false)], args := [d1, d2] }
  | _ => none }
def CacheThroughWrongFalsely : Prop := cacheThroughRow.holds Try.pinned (OpenSpec.ofChange cacheThroughWrong)

/-- 'mortmainlaw16.KeepTells': WHATEVER THE INPUT: true; the input reads as it did. -/
def keepTellsSpec : ChangeSpec := { name := "keepTells", fn := fun _ => fun
  | [d1, d2, d3] => { results := [.lit (.bool true)], args := [d1, d2, d3] }
  | _ => none }
def keepTellsRow : OpenClaim := { program := "yticgpiipikneiaa", sum := "804a28cc73263ed6937094005bf06f12627bbab8900eb979b1a1eb220760bde8", func := "mortmain/mortmainlaw16.KeepTells", spec := "keepTells", apart := false }
def KeepTellsSaid : Prop := keepTellsRow.holds Try.pinned (OpenSpec.ofChange keepTellsSpec)

/-- ITS FALSE NEIGHBOUR: 'it returns false'. Refute it at one input. -/
def keepTellsWrong : ChangeSpec := { name := "keepTells", fn := fun _ => fun
  | [d1, d2, d3] => { results := [.lit (.bool false)], args := [d1, d2, d3] }
  | _ => none }
def KeepTellsWrongFalsely : Prop := keepTellsRow.holds Try.pinned (OpenSpec.ofChange keepTellsWrong)

/-- 'mortmainlaw16.KeepChanges': WHATEVER THE INPUT: true; the input reads as it did. -/
def keepChangesSpec : ChangeSpec := { name := "keepChanges", fn := fun _ => fun
  | [d1, d2, d3, d4] => { results := [.lit (.bool true)], args := [d1, d2, d3, d4] }
  | _ => none }
def keepChangesRow : OpenClaim := { program := "yticgpiipikneiaa", sum := "804a28cc73263ed6937094005bf06f12627bbab8900eb979b1a1eb220760bde8", func := "mortmain/mortmainlaw16.KeepChanges", spec := "keepChanges", apart := false }
def KeepChangesSaid : Prop := keepChangesRow.holds Try.pinned (OpenSpec.ofChange keepChangesSpec)

/-- ITS FALSE NEIGHBOUR: 'it returns false'. Refute it at one input. -/
def keepChangesWrong : ChangeSpec := { name := "keepChanges", fn := fun _ => fun
  | [d1, d2, d3, d4] => { results := [.lit (.bool false)], args := [d1, d2, d3, d4] }
  | _ => none }
def KeepChangesWrongFalsely : Prop := keepChangesRow.holds Try.pinned (OpenSpec.ofChange keepChangesWrong)

/-- 'mortmainlaw16.KeepLater': WHATEVER THE INPUT: true; the input reads as it did. -/
def keepLaterSpec : ChangeSpec := { name := "keepLater", fn := fun _ => fun
  | [d1, d2, d3, d4, d5, d6] => { results := [.lit (.bool true)], args := [d1, d2, d3, d4, d5, d6] }
  | _ => none }
def keepLaterRow : OpenClaim := { program := "yticgpiipikneiaa", sum := "804a28cc73263ed6937094005bf06f12627bbab8900eb979b1a1eb220760bde8", func := "mortmain/mortmainlaw16.KeepLater", spec := "keepLater", apart := false }
def KeepLaterSaid : Prop := keepLaterRow.holds Try.pinned (OpenSpec.ofChange keepLaterSpec)

/-- ITS FALSE NEIGHBOUR: 'it returns false'. Refute it at one input. -/
def keepLaterWrong : ChangeSpec := { name := "keepLater", fn := fun _ => fun
  | [d1, d2, d3, d4, d5, d6] => { results := [.lit (.bool false)], args := [d1, d2, d3, d4, d5, d6] }
  | _ => none }
def KeepLaterWrongFalsely : Prop := keepLaterRow.holds Try.pinned (OpenSpec.ofChange keepLaterWrong)

/- THE SECOND FORM. 'bulk': how many values and letters a reading holds, each counted each time it is reached (what is shared counts as often as it is met; a slice's spare places count too). A statement '..UptoSaid' is the law's where the arguments, and the package variables that the reading takes, are together of bulk at most 1048576: NARROWER than '..Said'. Prove '..Said' where nothing that the law and all that it calls make is longer than what came in: it says more and counts as full. Else prove '..UptoSaid'. A law counts once. -/
mutual
def uptoBulk {H : Type} : DataW H → Nat
  | .lit (.string bytes) => bytes.length + 1
  | .lit _ => 1
  | .nil => 1
  | .ptr d => uptoBulk d + 1
  | .slice elems spare => uptoBulkAll elems + uptoBulkAll spare + 1
  | .agg parts => uptoBulkAll parts + 1
  | .iface _ d => uptoBulk d + 1
  | .map entries => uptoBulkEntries entries + 1
  | .held _ => 1
def uptoBulkAll {H : Type} : List (DataW H) → Nat
  | [] => 0
  | d :: r => uptoBulk d + uptoBulkAll r
def uptoBulkEntries {H : Type} : List (Lit × DataW H) → Nat
  | [] => 0
  | x :: r => uptoBulkEntry x + uptoBulkEntries r
def uptoBulkEntry {H : Type} : Lit × DataW H → Nat
  | (.string bytes, d) => bytes.length + uptoBulk d + 1
  | (_, d) => uptoBulk d + 1
 end
def uptoSmall : (H : Type) → List (DataW H) → Bool := fun _ ds => decide (uptoBulkAll ds ≤ 1048576)
def OpenSpec.upto (s : _root_.Go.ChangeSpec) : _root_.Go.OpenSpec := { _root_.Go.OpenSpec.ofChange s with cond := some uptoSmall }

/-- 'mortmainlaw40.CacheDoes', WHERE WHAT IT READS IS OF BULK AT MOST 1048576: true; the input reads as it did. -/
def cacheDoesUptoRow : OpenClaim := { program := "yticgpiipikneiaa", sum := "804a28cc73263ed6937094005bf06f12627bbab8900eb979b1a1eb220760bde8", func := "mortmain/mortmainlaw40.CacheDoes", spec := "cacheDoes", unfollowed := true, recurses := true, apart := false, narrowed := true }
def CacheDoesUptoSaid : Prop := cacheDoesUptoRow.holds Try.pinned (OpenSpec.upto cacheDoesSpec)

/-- 'mortmainlaw40.CacheThrough', WHERE WHAT IT READS IS OF BULK AT MOST 1048576: true; the input reads as it did. -/
def cacheThroughUptoRow : OpenClaim := { program := "yticgpiipikneiaa", sum := "804a28cc73263ed6937094005bf06f12627bbab8900eb979b1a1eb220760bde8", func := "mortmain/mortmainlaw40.CacheThrough", spec := "cacheThrough", unfollowed := true, recurses := true, apart := false, narrowed := true }
def CacheThroughUptoSaid : Prop := cacheThroughUptoRow.holds Try.pinned (OpenSpec.upto cacheThroughSpec)

/-- 'mortmainlaw16.KeepTells', WHERE WHAT IT READS IS OF BULK AT MOST 1048576: true; the input reads as it did. -/
def keepTellsUptoRow : OpenClaim := { program := "yticgpiipikneiaa", sum := "804a28cc73263ed6937094005bf06f12627bbab8900eb979b1a1eb220760bde8", func := "mortmain/mortmainlaw16.KeepTells", spec := "keepTells", apart := false, narrowed := true }
def KeepTellsUptoSaid : Prop := keepTellsUptoRow.holds Try.pinned (OpenSpec.upto keepTellsSpec)

/-- 'mortmainlaw16.KeepChanges', WHERE WHAT IT READS IS OF BULK AT MOST 1048576: true; the input reads as it did. -/
def keepChangesUptoRow : OpenClaim := { program := "yticgpiipikneiaa", sum := "804a28cc73263ed6937094005bf06f12627bbab8900eb979b1a1eb220760bde8", func := "mortmain/mortmainlaw16.KeepChanges", spec := "keepChanges", apart := false, narrowed := true }
def KeepChangesUptoSaid : Prop := keepChangesUptoRow.holds Try.pinned (OpenSpec.upto keepChangesSpec)

/-- 'mortmainlaw16.KeepLater', WHERE WHAT IT READS IS OF BULK AT MOST 1048576: true; the input reads as it did. -/
def keepLaterUptoRow : OpenClaim := { program := "yticgpiipikneiaa", sum := "804a28cc73263ed6937094005bf06f12627bbab8900eb979b1a1eb220760bde8", func := "mortmain/mortmainlaw16.KeepLater", spec := "keepLater", apart := false, narrowed := true }
def KeepLaterUptoSaid : Prop := keepLaterUptoRow.holds Try.pinned (OpenSpec.upto keepLaterSpec)

end Rows
end Go.Proofs.Yticgpiipikneiaa
