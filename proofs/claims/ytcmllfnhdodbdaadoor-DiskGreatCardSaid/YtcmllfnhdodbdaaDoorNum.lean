/- (*record.Writer).Num: all its cases. -/
import Derived.Test.YtcmllfnhdodbdaaDoorWri
namespace Go.Proofs.YtcmllfnhdodbdaaDoor
set_option linter.unusedVariables false
set_option linter.unusedSimpArgs false
open Go.RowKit
/-- What a number in so many bytes makes of a writer. -/
def fitsB (n : Nat) (k : Int) : Bool := decide (1 ≤ k) && decide (k ≤ 8) && (decide (k = 8) || decide (n / 2 ^ (8 * k).toNat = 0))

end Go.Proofs.YtcmllfnhdodbdaaDoor
