/- Two laws that keep a big value behind a name: a struct that is built, a value that is put into a block of its own. -/
import Derived.Test.YtnbpkignkfabkaaGreatDoorRef3
import Derived.Laws.Tables
namespace Go.Proofs.YtnbpkignkfabkaaGreatDoor
set_option linter.unusedVariables false
set_option linter.unusedSimpArgs false
open Go.RowKit
theorem wpList_build {P : Program} {w : World} {ops : Array Oper} {rest : List Oper} {o : Oper} {a : Act} {Q : Exit → Act → World → Prop} (hg : o.guard = none) (t : TypeId) (hop : o.op = Op.build t #[]) (cells : Array Value) (h : P.built t [] = some cells)
    (hK : wpList P ops Q rest (a.put o.dst (.agg cells)) w) : wpList P ops Q (o :: rest) a w := by
  refine wpList_plain hg fun K hK' => ?_
  have hr := run_build (P := P) w t #[] cells h
  unfold Oper.wp
  simp only [execOp, hop, Array.map_empty, Sem.run_bind, hr, Result.andThen_ok, Sem.run_pure]
  exact hK' _ _ hK
theorem wpList_box {P : Program} {w : World} {ops : Array Oper} {rest : List Oper} {o : Oper} {a : Act} {Q : Exit → Act → World → Prop} (hg : o.guard = none) (t : TypeId) (x : Operand) (hop : o.op = Op.box t x) (cells : Array Value) (hx : a.eval x = .agg cells)
    (hK : wpList P ops Q rest (a.put o.dst (.pointer (some ⟨w.heap.size, 0, none⟩))) (w.alloc (.cells cells t))) : wpList P ops Q (o :: rest) a w := by
  refine wpList_plain hg fun K hK' => ?_
  unfold Oper.wp
  simp [execOp, hop, hx, Instr.box, newVar, newRow, Value.cells, Result.andThen]
  exact hK' _ _ hK
theorem set_blk {w : World} {b j : Nat} {cur : Array Value} {e : TypeId} {fr : Nat × Nat} (u : Value) (h : w.heap[b]? = some (.cells cur e fr)) : (w.setCell ⟨b, j, none⟩ u).heap[b]? = some (.cells (cur.setIfInBounds j u) e fr) := by
  have hg : b < w.heap.size := lt_of_block h
  have hv : w.heap[b] = .cells cur e fr := (Array.getElem?_eq_some_iff.1 h).2
  show (w.heap.modify b _)[b]? = _
  rw [Array.getElem?_eq_getElem (by simpa using hg), Array.getElem_modify_self, hv]
  rfl
end Go.Proofs.YtnbpkignkfabkaaGreatDoor
