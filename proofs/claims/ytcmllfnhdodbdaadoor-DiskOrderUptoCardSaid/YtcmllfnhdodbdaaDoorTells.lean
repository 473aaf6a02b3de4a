/- posternlaw9: sum, tells. -/
import Derived.Test.YtcmllfnhdodbdaaDoorFiles
import Derived.Test.YtcmllfnhdodbdaaDoorOps9
import Derived.Laws.Cover1
/- disk.Names. -/
namespace Go.Proofs.YtcmllfnhdodbdaaDoor
set_option linter.unusedVariables false
set_option linter.unusedSimpArgs false
open Go.RowKit Go.Maps Go.MuLone
/-- What Names comes to. -/
def NamesQ (o : Bool) (w w' : World) (base db mb : Nat) (k : DkV) (L : List Fl) (D : DataW Value) (C : Con) (r : Ending) : Prop :=
  ∃ v l, r = .returned (.tuple #[v, .int .i64 (if o = true then 94 else 0)]) ∧ l = (if o = true then [] else nmsC C) ∧ Own w' w.heap.size 9 1 v l.length (strs l) ∧ Dsk w' base db mb 0 k L D ∧ Upd (fun i => i = db) w w'
end Go.Proofs.YtcmllfnhdodbdaaDoor
namespace Go.Proofs.YtcmllfnhdodbdaaDoor
open Go.RowKit Go.Maps
end Go.Proofs.YtcmllfnhdodbdaaDoor
namespace Go.Proofs.YtcmllfnhdodbdaaDoor
open Go.RowKit Go.Maps
theorem bytesLess_lt : ∀ {a b : List UInt8}, a < b → Op.bytesLess a b = true
  | _, [], h => absurd h (List.not_lt_nil _)
  | [], _ :: _, _ => rfl
  | a :: x, b :: y, h => by
    rw [List.cons_lt_cons_iff] at h
    rcases h with h | ⟨rfl, h⟩
    · simp [Op.bytesLess, h]
    · simp [Op.bytesLess, bytesLess_lt h]
theorem sumC_take (C : Con) (i : Nat) (h : i < C.length) : sumC (C.take (i + 1)) = sumC (C.take i) + C[i].2.length := by
  have e : ([C[i]].map fun p => p.2.length).sum = C[i].2.length := by simp
  unfold sumC
  rw [List.take_succ_eq_append_getElem h, List.map_append, List.sum_append, e]
theorem sumC_take_le (C : Con) (i : Nat) : sumC (C.take i) ≤ sumC C := by
  have h : sumC C = sumC (C.take i) + sumC (C.drop i) := by
    unfold sumC
    rw [← List.sum_append, ← List.map_append, List.take_append_drop]
  omega
/-- What tells leaves. -/
def TellsP (w w' : World) (B db : Nat) (F : Nat → Prop) (s : DS) (r : Ending) : Prop := r = .returned (.bool true) ∧ DkS w' B db F s ∧ Upd (fun i => i = db) w w' ∧ Below B w w'
end Go.Proofs.YtcmllfnhdodbdaaDoor
