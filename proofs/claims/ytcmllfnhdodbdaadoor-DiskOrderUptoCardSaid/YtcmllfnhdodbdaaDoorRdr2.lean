/- record.Reader: Num, Int, Flag, Bytes, Text, Left, End, From. -/
import Derived.Test.YtcmllfnhdodbdaaDoorRdr
namespace Go.Proofs.YtcmllfnhdodbdaaDoor
set_option linter.unusedVariables false
set_option linter.unusedSimpArgs false
open Go.RowKit
def rNum (l : List UInt8) (e : Int) (k : Int) : Nat × List UInt8 × Int :=
  if e = 0 then (if 1 ≤ k ∧ k ≤ 8 then (if k.toNat ≤ l.length then (ofBe (l.take k.toNat), l.drop k.toNat, 0) else (0, l, 30)) else (0, l, 34)) else (0, l, e)
/-- What a reader's call leaves: the answer, what is left, the error. -/
def RPost (w w' : World) (rb ro B : Nat) (r : Ending) (v : Value) (l : List UInt8) (e : Int) : Prop :=
  r = .returned v ∧ ∃ a cap, Rdr w' rb ro B l e a cap ∧ RUpd w w' rb ro

/-- Sixty-four bits as a signed number. -/
def sgn (n : Nat) : Int := wrap64 n
def rFlag (l : List UInt8) (e : Int) : Bool × List UInt8 × Int :=
  if e = 0 ∧ 0 < l.length ∧ 1 < (l.getD 0 0).toNat then (false, l, 34) else ((rNum l e 1).1 == 1, (rNum l e 1).2.1, (rNum l e 1).2.2)
/-- A reader's call that tells bytes of its own. -/
def BPost (w w' : World) (rb ro B : Nat) (r : Ending) (t l : List UInt8) (e : Int) : Prop :=
  ∃ v, r = .returned v ∧ Own w' w.heap.size 5 1 v t.length (bys t) ∧ ∃ a cap, Rdr w' rb ro B l e a cap ∧ RUpd w w' rb ro
def rBytes (l : List UInt8) (e : Int) : List UInt8 × List UInt8 × Int :=
  if e = 0 then (if 4 ≤ l.length then (if ofBe (l.take 4) ≤ 1048576 then (if ofBe (l.take 4) ≤ l.length - 4 then ((l.drop 4).take (ofBe (l.take 4)), (l.drop 4).drop (ofBe (l.take 4)), 0) else ([], l, 30)) else ([], l, 31)) else ([], l, 30)) else ([], l, e)

end Go.Proofs.YtcmllfnhdodbdaaDoor
