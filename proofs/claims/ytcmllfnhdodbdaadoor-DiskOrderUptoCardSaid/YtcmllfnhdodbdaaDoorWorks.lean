/- posternlaw3.works answers true. -/
import Derived.Test.YtcmllfnhdodbdaaDoorFrmLaw
import Derived.Lib.SlBytesConst
namespace Go.Proofs.YtcmllfnhdodbdaaDoor
set_option linter.unusedVariables false
set_option linter.unusedSimpArgs false
open Go.RowKit
def wk : List UInt8 := [1, 2, 0, 0, 0, 1, 97]
theorem below_wupd {w0 w w' : World} {pb po : Nat} {v v' : Value} (hb : Below w0.heap.size w0 w) (h : WUpd w w' pb po v v') (hp : w0.heap.size ≤ pb) (hv : ∀ k, v.ownBlock = some k → w0.heap.size ≤ k) : Below w0.heap.size w0 w' :=
  hb.trans (h.upd.below (by rintro k (rfl | hk) _; exact hp; exact hv k hk) hb.size)
theorem below_rupd {w0 w w' : World} {rb ro : Nat} (hb : Below w0.heap.size w0 w) (h : RUpd w w' rb ro) (hp : w0.heap.size ≤ rb) : Below w0.heap.size w0 w' :=
  hb.trans (h.upd.below (by rintro k rfl _; exact hp) hb.size)

end Go.Proofs.YtcmllfnhdodbdaaDoor
