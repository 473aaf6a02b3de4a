/- record.Reader: Text, Left, End, From. -/
import Derived.Test.YtcmllfnhdodbdaaDoorRdr2
namespace Go.Proofs.YtcmllfnhdodbdaaDoor
set_option linter.unusedVariables false
set_option linter.unusedSimpArgs false
open Go.RowKit

theorem frozen_of_row {w : World} {g : Nat} {cur : Array Value} {e : TypeId} (h : w.heap[g]? = some (.cells cur e (0, 0))) (j : Nat) : w.frozen? ⟨g, j, none⟩ = false := by
  unfold World.frozen?
  rw [h]
  simp
def rEnd (l : List UInt8) (e : Int) : Int := if e = 0 ∧ 0 < l.length then 33 else e
/-- A reader that the call made. -/
def NewRdr (w w' : World) (r : Ending) (l : List UInt8) : Prop := ∃ rb B a cap, r = .returned (.pointer (some ⟨rb, 0, none⟩)) ∧ Rdr w' rb 0 B l 0 a cap ∧ w.heap.size ≤ rb ∧ (∀ ad, a = some ad → w.heap.size ≤ B ∧ B < w'.heap.size) ∧ Below w.heap.size w w'
end Go.Proofs.YtcmllfnhdodbdaaDoor
