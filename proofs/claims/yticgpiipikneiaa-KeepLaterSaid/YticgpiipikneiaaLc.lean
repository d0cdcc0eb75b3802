/- The walk of the law KeepLater. -/
import Derived.Test.YticgpiipikneiaaLc0
import Derived.Test.YticgpiipikneiaaLc1
import Derived.Test.YticgpiipikneiaaLc2
import Derived.Test.YticgpiipikneiaaLc3
set_option linter.unusedSimpArgs false
set_option linter.unusedVariables false
namespace Go.Proofs.Yticgpiipikneiaa
open Go.ChangeShapes Go.WideShapes Go.RowKit Go.Mor

theorem keepLater_walk (cs ks : Array Value) (cls created event period now later longer : Int) (name : ByteArray) (fired ev pr : Bool) (ha : Option Addr) (hl hc : Nat) (l : List ByteArray) (note : ByteArray) (ta : Option Addr) (tl tc : Nat) (z addr : List Int) (w : World)
    (hC : ClipIn w cs cls created event fired ha hl hc l note ta tl tc z addr) (hK : ClassIn ks period ev pr) :
    Calls Try.prog 7 #[.agg cs, .agg ks, .int .i64 now, .int .i64 later, .int .i64 longer, .string name] w fun e w' => e = .returned (.bool true) ∧ Below w.heap.size w w' := by
  by_cases hg : (later < now ∨ 1099511627776 < later ∨ longer < period ∨ 1099511627776 < longer ∨ 100 < name.size)
  · exact keepLater_out cs ks cls created event period now later longer name fired ev pr ha hl hc l note ta tl tc z addr w hC hK hg
  · cases hev : ev with
    | false => exact keepLater_1 cs ks cls created event period now later longer name fired _ pr ha hl hc l note ta tl tc z addr w hC (hev ▸ hK) hg rfl
    | true =>
      cases hfi : fired with
      | true => exact keepLater_2 cs ks cls created event period now later longer name _ _ pr ha hl hc l note ta tl tc z addr w (hfi ▸ hC) (hev ▸ hK) hg rfl rfl
      | false => exact keepLater_3 cs ks cls created event period now later longer name _ _ pr ha hl hc l note ta tl tc z addr w (hfi ▸ hC) (hev ▸ hK) hg rfl rfl
end Go.Proofs.Yticgpiipikneiaa
