/- record.Unframe. -/
import Derived.Test.YtcmllfnhdodbdaaDoorFrame
namespace Go.Proofs.YtcmllfnhdodbdaaDoor
set_option linter.unusedVariables false
set_option linter.unusedSimpArgs false
open Go.RowKit
/-- A callee that leaves the world alone, in a region that draws; and in one behind another. -/
theorem qone {P : Program} {f : FuncId} {args : Array Value} {w : World} {n : Nat} {v : Value} (h : Calls P f args (w.drewN n) fun e w' => e = .returned v ∧ w.drewN n = w') :
    Calls P f args (w.drewN n) fun e w'' => e = .returned v ∧ ∃ m, w'' = w.drewN m := h.mono fun _ _ ⟨he, hm⟩ => ⟨he, n, hm.symm⟩
theorem qtwo {P : Program} {f : FuncId} {args : Array Value} {w : World} {a n : Nat} {v : Value} (h : Calls P f args (w.drewN (a + n)) fun e w' => e = .returned v ∧ w.drewN (a + n) = w') :
    Calls P f args (w.drewN (a + n)) fun e w'' => e = .returned v ∧ ∃ m, w'' = w.drewN (a + m) := h.mono fun _ _ ⟨he, hm⟩ => ⟨he, n, hm.symm⟩
theorem Byt.drewN {w : World} {a : Option Addr} {l : List UInt8} (h : Byt w a l) (n : Nat) : Byt (w.drewN n) a l := h
theorem Byt.sub {w : World} {b o : Nat} {l : List UInt8} (h : Byt w (some ⟨b, o, none⟩) l) (i j : Nat) (hj : i + j ≤ l.length) : Byt w (some ⟨b, o + i, none⟩) ((l.drop i).take j) ∧ ((l.drop i).take j).length = j := by
  refine ⟨fun k hk => ?_, by rw [List.length_take, List.length_drop]; omega⟩
  rw [List.length_take, List.length_drop] at hk
  refine ⟨b, o + i, rfl, ?_⟩
  rw [Nat.add_assoc, h.at_ (by omega)]
  simp

def UnframeR (b : List UInt8) : List UInt8 × Nat × Int :=
  if b.length = 0 then ([], 0, 30) else if b.getD 0 0 ≠ 201 then ([], 0, 34) else if b.length < 9 then ([], 0, 30) else
  if sumN (b.take 5) ≠ ofBe ((b.drop 5).take 4) then ([], 0, 32) else
  if 16777216 < ofBe ((b.drop 1).take 4) then ([], 0, 31) else if b.length < ofBe ((b.drop 1).take 4) + 13 then ([], 0, 30) else
  if sumN ((b.drop 9).take (ofBe ((b.drop 1).take 4))) ≠ ofBe ((b.drop (9 + ofBe ((b.drop 1).take 4))).take 4) then ([], 0, 32) else
  ((b.drop 9).take (ofBe ((b.drop 1).take 4)), ofBe ((b.drop 1).take 4) + 13, 0)
def OwnNErr (w w' : World) (r : Ending) (q : List UInt8 × Nat × Int) : Prop := ∃ v, r = .returned (.tuple #[v, .int .i64 q.2.1, .int .i64 q.2.2]) ∧ Own w' w.heap.size 5 1 v q.1.length (bys q.1) ∧ Below w.heap.size w w'

theorem Clone_q {w : World} {a : Option Addr} {l : List UInt8} {k c : Nat} (h : Byt w a l) (hl : l.length = k) (hs : k ≤ 140737488355328) (n : Nat) : Calls Tryd.prog 37 #[.slice a k c] (w.drewN n) fun r w' => ∃ v', r = .returned v' ∧ Own w' w.heap.size 5 1 v' l.length (bys l) ∧ Below w.heap.size (w.drewN n) w' := by
  subst hl
  exact Clone_calls a c l (w.drewN n) (h.drewN n) hs
end Go.Proofs.YtcmllfnhdodbdaaDoor
