/- The table that is laid at start-up: what the rows' premise on it gives; a start that meets it. -/
import Derived.Test.YtnbpkignkfabkaaDoorRows
import Derived.Test.YtnbpkignkfabkaaDoorSum
import Derived.ProofKit
import Derived.LaidMore
import Derived.OpenShut
import Derived.Stop.Joined
import Derived.ChangeOld
import Derived.SizedLaws
namespace Go.Proofs.YtnbpkignkfabkaaDoor
set_option linter.unusedVariables false
set_option linter.unusedSimpArgs false
open Go.ChangeShapes Go.WideShapes Go.ChangeAt Go.RowKit
theorem own : ownKnob Tryd.prog.godebug = none := by kernel_rfl
theorem laidOut : laidOutB Tryd.prog = true := by kernel_rfl
theorem gPart : Tryd.prog.globalNamed "postern/record.part" = some 0 := by kernel_rfl
theorem tPart : (Tryd.prog.globals[0]?).map (·.type) = some 97 := by kernel_rfl
def laidL {H : Type} : List (String × DataW H) := [("postern/record.part", Rows.laid_postern_record_part)]
theorem door_met (os : Os) (args : Array Value) : laidMetH Tryd.prog laidL ((World.doorLaid Tryd.prog 400 os).forCall (fun _ _ => 0) ⟨#[], args, []⟩).memory :=
  laidMetH_of_parts3 (fuel := 8) (laidMet_of_run' 8 (by kernel_rfl) (by kernel_rfl)) (by kernel_rfl) (by kernel_rfl)
theorem of_laid {W : World} (h : laidMetH Tryd.prog laidL W) : Tab W ∧ 0 < W.heap.size := by
  rw [MakeChecks.laidMetH_plain _ _ _ (by kernel_rfl)] at h
  obtain ⟨ps, ⟨g0, t0, cs0, f0, p0, q0, hg0, ht0, hv0, hd0, _, _⟩, _, _⟩ := h
  obtain rfl := Option.some.inj (gPart.symm.trans hg0)
  obtain rfl := Option.some.inj (tPart.symm.trans ht0)
  obtain ⟨xs, m1, rfl, hx1, hlen, hn3, hel⟩ := DataW.trod_array Tryd.underlying97 hd0
  have c1 : Tryd.prog.cellsOf 70 = 1 := by kernel_rfl
  simp only [Prod.mk.injEq, Rows.laid_postern_record_part, DataW.agg.injEq] at hx1
  have key : ∀ i, i < 16 → W.cell? ⟨0, i, none⟩ = some (.int .u32 (u32 (tbl i))) := by
    intro i hi
    have hxi : xs[i]? = some (xs[i]'(by omega)) := List.getElem?_eq_getElem (by omega)
    obtain ⟨k, e1, e2, _⟩ := DataW.trod_int Tryd.underlying70 ((hel i hi).trans hxi)
    have hk : (xs.map (fun x => x.fst))[i]? = some (.lit (.int .u32 k)) := by rw [List.getElem?_map, hxi, e2]; rfl
    rw [← hx1.1] at hk
    have hcell : cs0.toList[i]? = some (.int .u32 k) := by
      have := congrArg (fun l => l[0]?) e1
      simp only [c1, List.getElem?_take, List.getElem?_drop] at this
      simpa using this
    have hv := World.var?_cell hg0 hv0 i
    rw [hv, ← Array.getElem?_toList, hcell]
    have hkt : k = u32 (tbl i) := by
      match i, hi, hk with
      | 0, _, hk | 1, _, hk | 2, _, hk | 3, _, hk | 4, _, hk | 5, _, hk | 6, _, hk | 7, _, hk | 8, _, hk | 9, _, hk | 10, _, hk | 11, _, hk | 12, _, hk | 13, _, hk | 14, _, hk | 15, _, hk =>
        simp only [List.getElem?_cons_zero, List.getElem?_cons_succ, Option.some.injEq, DataW.lit.injEq, Lit.int.injEq, true_and] at hk
        rw [← hk]
        decide +kernel
    rw [hkt]
  exact ⟨key, World.block_lt_of_cell? W _ (key 0 (by decide))⟩
end Go.Proofs.YtnbpkignkfabkaaDoor
