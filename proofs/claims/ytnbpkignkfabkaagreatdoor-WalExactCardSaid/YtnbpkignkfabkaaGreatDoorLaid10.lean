/- What the rows of layer 10 ask of a start: the tables that are listed; what that gives. -/
import Derived.Test.YtnbpkignkfabkaaGreatDoorRows
import Derived.Test.YtnbpkignkfabkaaGreatDoorSum
import Derived.ProofKit
import Derived.LaidMore
import Derived.OpenShut
import Derived.Stop.Joined
import Derived.Stop.LaidErr
import Derived.ChangeOld
import Derived.SizedLaws
import Derived.Lay
namespace Go.Proofs.YtnbpkignkfabkaaGreatDoor
set_option linter.unusedVariables false
set_option linter.unusedSimpArgs false
open Go.ChangeShapes Go.WideShapes Go.ChangeAt Go.RowKit
theorem own : ownKnob Tryz.prog.godebug = none := by kernel_rfl
theorem laidOut : laidOutB Tryz.prog = true := by kernel_rfl
theorem gPart : Tryz.prog.globalNamed "postern/record.part" = some 0 := by kernel_rfl
theorem tPart : (Tryz.prog.globals[0]?).map (·.type) = some 258 := by kernel_rfl
def laid10 : List (String × DataW Unit) := [("unicode/utf8.acceptRanges", Rows.laid_unicode_utf8_acceptRanges), ("postern/record.part", Rows.laid_postern_record_part), ("unicode/utf8.first", Rows.laid_unicode_utf8_first)]
theorem met10 (os : Os) (args : Array Value) : laidMetH Tryz.prog laid10 ((World.laidAll Tryz.prog os laid10).forCall (fun _ _ => 0) ⟨#[], args, []⟩).memory := by
  rw [MakeChecks.laidMetH_plain _ _ _ (by kernel_rfl)]
  exact laidMet_laidAll _ (by kernel_rfl) (by kernel_rfl)
theorem shaped10 (os : Os) : (World.laidAll Tryz.prog os laid10).Shaped Tryz.prog := World.shaped_of_ZipB (by kernel_rfl) (by kernel_rfl)
theorem of_laid10 {W : World} (h : laidMetH Tryz.prog laid10 W) : Tab W ∧ 0 < W.heap.size := by
  rw [MakeChecks.laidMetH_plain _ _ _ (by kernel_rfl)] at h
  replace h := laidMet.tail h
  obtain ⟨ps, ⟨g0, t0, cs0, f0, p0, q0, hg0, ht0, hv0, hd0, _, _⟩, _, _⟩ := h
  obtain rfl := Option.some.inj (gPart.symm.trans hg0)
  obtain rfl := Option.some.inj (tPart.symm.trans ht0)
  obtain ⟨xs, m1, rfl, hx1, hlen, hn3, hel⟩ := DataW.trod_array Tryz.underlying258 hd0
  have c1 : Tryz.prog.cellsOf 108 = 1 := by kernel_rfl
  simp only [Prod.mk.injEq, Rows.laid_postern_record_part, DataW.agg.injEq] at hx1
  have key : ∀ i, i < 16 → W.cell? ⟨0, i, none⟩ = some (.int .u32 (u32 (tbl i))) := by
    intro i hi
    have hxi : xs[i]? = some (xs[i]'(by omega)) := List.getElem?_eq_getElem (by omega)
    obtain ⟨k, e1, e2, _⟩ := DataW.trod_int Tryz.underlying108 ((hel i hi).trans hxi)
    have hk : (xs.map (fun x => x.fst))[i]? = some (.lit (.int .u32 k)) := by rw [List.getElem?_map, hxi, e2]; rfl
    rw [← hx1.1] at hk
    have hcell : cs0.toList[i]? = some (.int .u32 k) := by
      have := congrArg (fun l => l[0]?) e1
      simp only [c1, List.getElem?_take, List.getElem?_drop] at this
      simpa using this
    have hv := World.var?_cell hg0 hv0 i
    rw [hv, ← Array.getElem?_toList, hcell]
    have hkt : k = u32 (tbl i) := by
      match i, hi, hk with
      | 0, _, hk | 1, _, hk | 2, _, hk | 3, _, hk | 4, _, hk | 5, _, hk | 6, _, hk | 7, _, hk | 8, _, hk | 9, _, hk | 10, _, hk | 11, _, hk | 12, _, hk | 13, _, hk | 14, _, hk | 15, _, hk =>
        simp only [List.getElem?_cons_zero, List.getElem?_cons_succ, Option.some.injEq, DataW.lit.injEq, Lit.int.injEq, true_and] at hk
        rw [← hk]
        decide +kernel
    rw [hkt]
  exact ⟨key, World.block_lt_of_cell? W _ (key 0 (by decide))⟩
end Go.Proofs.YtnbpkignkfabkaaGreatDoor
