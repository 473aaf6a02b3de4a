/- (*record.Writer).Num as one contract; Int, Flag. -/
import Derived.Test.YtcmllfnhdodbdaaDoorWri
/- (*record.Writer).Num: all its cases. -/
namespace Go.Proofs.YtcmllfnhdodbdaaDoor
set_option linter.unusedVariables false
set_option linter.unusedSimpArgs false
open Go.RowKit
/-- What a number in so many bytes makes of a writer. -/
def fitsB (n : Nat) (k : Int) : Bool := decide (1 ≤ k) && decide (k ≤ 8) && (decide (k = 8) || decide (n / 2 ^ (8 * k).toNat = 0))

end Go.Proofs.YtcmllfnhdodbdaaDoor
namespace Go.Proofs.YtcmllfnhdodbdaaDoor
open Go.RowKit
def wNum (l : List UInt8) (e : Int) (n : Nat) (k : Int) : List UInt8 × Int :=
  if e = 0 then (if 1 ≤ k ∧ k ≤ 8 ∧ (k = 8 ∨ n / 2 ^ (8 * k.toNat) = 0) then (l ++ be n k.toNat, 0) else (l, 34)) else (l, e)

/-- A signed number as the sixty-four bits that it has. -/
def i64n (x : Int) : Nat := (x % 18446744073709551616).toNat
end Go.Proofs.YtcmllfnhdodbdaaDoor
