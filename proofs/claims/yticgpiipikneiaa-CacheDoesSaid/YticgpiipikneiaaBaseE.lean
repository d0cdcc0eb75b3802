/- The worlds of a quiet region, written out ahead of an operation. -/
import Derived.Test.YticgpiipikneiaaBase
set_option linter.unusedSimpArgs false
set_option linter.unusedVariables false
namespace Go.Mor
open Go.RowKit
@[go_sem ↓] theorem quiet_ext_eq {P : Program} {o : Oper} {a : Act} {W : World} {K : Act → Prop} :
    Oper.quiet P o a (fun w' => ∃ y : Gr, w' = ext W y.d y.bs) K = (∃ v, (∀ y : Gr, Oper.quietAt P o a (fun w' => ∃ z : Gr, w' = ext W z.d z.bs) (ext W y.d y.bs) v) ∧ K (a.put o.dst v)) := by
  unfold Oper.quiet
  apply propext
  constructor
  · rintro ⟨v, h1, h2⟩
    exact ⟨v, fun y => h1 _ ⟨y, rfl⟩, h2⟩
  · rintro ⟨v, h1, h2⟩
    exact ⟨v, fun w ⟨y, hy⟩ => by subst hy; exact h1 y, h2⟩
theorem calls_extg {P : Program} {f : FuncId} {args : Array Value} {w1 : World} {v : Value} {R : World → Prop}
    (h : Calls P f args w1 fun e w' => e = .returned v ∧ Below w1.heap.size w1 w') (hR : ∀ d bs, R (ext w1 d bs)) :
    Calls P f args w1 fun e w'' => e = .returned v ∧ R w'' :=
  h.mono fun _ _ ⟨he, hb⟩ => by
    obtain ⟨d', bs', rfl⟩ := ext_of_below hb
    exact ⟨he, hR d' bs'⟩
end Go.Mor
