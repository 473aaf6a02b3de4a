/- A Book as it is made. -/
import Derived.Test.YtnbpkignkfabkaaGreatDoorLendO
import Derived.Test.YtnbpkignkfabkaaGreatDoorApp2
import Derived.Laws.Tables
/- posternlaw1.Book: the lists that nobody fills: nothing to look at, nothing to grow. -/
namespace Go.Proofs.YtnbpkignkfabkaaGreatDoor
set_option linter.unusedVariables false
set_option linter.unusedSimpArgs false
open Go.RowKit
/-- What stands at place k of a Book, from the second list on. -/
def nilAt (k : Nat) : Value := if k % 3 = 2 then .int .i64 0 else .slice none 0 0
/-- All lists but the first are empty; nothing of the book is frozen. -/
structure NilB (w : World) (bb : Nat) : Prop where
  cell : ∀ k, 3 ≤ k → k < 72 → w.cell? ⟨bb, k, none⟩ = some (nilAt k)
  froz : ∀ k, k < 75 → w.frozen? ⟨bb, k, none⟩ = false
theorem setSame (c : Array Value) (o : Nat) (v : Value) (h : c[o]? = some v) : c.setIfInBounds o v = c := by
  apply Array.ext_getElem?
  intro i
  rw [Array.getElem?_setIfInBounds]
  split
  · next e => subst e; split; exact h.symm; rw [Array.getElem?_eq_none (by omega)]
  · rfl
theorem setCell_same {w : World} {b o : Nat} {v : Value} (h : w.cell? ⟨b, o, none⟩ = some v) : w.setCell ⟨b, o, none⟩ v = w := by
  have e : (w.setCell ⟨b, o, none⟩ v).heap = w.heap := by
    apply Array.ext_getElem?
    intro i
    show (w.heap.modify b _)[i]? = _
    rw [Array.getElem?_modify]
    split
    · next e =>
      subst e
      unfold World.cell? at h
      cases hh : w.heap[b]? with
      | none => rfl
      | some x =>
        rw [hh] at h
        cases x with
        | cells c e f =>
          have h' : c[o]? = some v := by simpa using h
          simp [setSame c o v h']
        | _ => rfl
    · rfl
  have : ∀ a b : World, a.heap = b.heap → a.tape = b.tape → a.drawn = b.drawn → a.os = b.os → a.output = b.output → a = b := by
    intro a b h1 h2 h3 h4 h5
    cases a; cases b
    simp_all
  exact this _ _ e rfl rfl rfl rfl
set_option maxRecDepth 100000 in
set_option maxHeartbeats 1000000 in
theorem kept_calls (bb : Nat) (w : World) (h : NilB w bb) : Calls Tryz.prog 70 #[.pointer (some ⟨bb, 0, none⟩)] w fun r w' => r = .returned (.bool true) ∧ w = w' := by
  have c6 : w.cell? ⟨bb, 6, none⟩ = some (.slice none 0 0) := h.cell 6 (by decide) (by decide)
  have c9 : w.cell? ⟨bb, 9, none⟩ = some (.slice none 0 0) := h.cell 9 (by decide) (by decide)
  have c12 : w.cell? ⟨bb, 12, none⟩ = some (.slice none 0 0) := h.cell 12 (by decide) (by decide)
  have c15 : w.cell? ⟨bb, 15, none⟩ = some (.slice none 0 0) := h.cell 15 (by decide) (by decide)
  have t0 : decide ((0 : Int) < 0) = false := by decide
  clear h
  go_enter Tryz.func70, Tryz.ntmps70
  go_wp2
  go_loop [3] (fun i => i = .int .i64 0) (fun _ => 0)
  case atStart => rfl
  case round =>
  obtain rfl := hrel
  go_wp2
  go_loop [5] (fun i => i = .int .i64 0) (fun _ => 0)
  case atStart => rfl
  case round =>
  obtain rfl := hrel
  go_wp2
  go_loop [7] (fun i => i = .int .i64 0) (fun _ => 0)
  case atStart => rfl
  case round =>
  obtain rfl := hrel
  go_wp2
  go_loop [9] (fun i => i = .int .i64 0) (fun _ => 0)
  case atStart => rfl
  case round =>
  obtain rfl := hrel
  go_wp2
  go_ret
  exact ⟨rfl, rfl⟩
set_option maxRecDepth 100000 in
set_option maxHeartbeats 1000000 in
theorem told_calls (bb : Nat) (w : World) (h : NilB w bb) : Calls Tryz.prog 71 #[.pointer (some ⟨bb, 0, none⟩)] w fun r w' => r = .returned (.bool true) ∧ w = w' := by
  have c18 : w.cell? ⟨bb, 18, none⟩ = some (.slice none 0 0) := h.cell 18 (by decide) (by decide)
  have c21 : w.cell? ⟨bb, 21, none⟩ = some (.slice none 0 0) := h.cell 21 (by decide) (by decide)
  have c24 : w.cell? ⟨bb, 24, none⟩ = some (.slice none 0 0) := h.cell 24 (by decide) (by decide)
  have c27 : w.cell? ⟨bb, 27, none⟩ = some (.slice none 0 0) := h.cell 27 (by decide) (by decide)
  have t0 : decide ((0 : Int) < 0) = false := by decide
  clear h
  go_enter Tryz.func71, Tryz.ntmps71
  go_wp2
  go_loop [3] (fun i => i = .int .i64 0) (fun _ => 0)
  case atStart => rfl
  case round =>
  obtain rfl := hrel
  go_wp2
  go_loop [5] (fun i => i = .int .i64 0) (fun _ => 0)
  case atStart => rfl
  case round =>
  obtain rfl := hrel
  go_wp2
  go_loop [7] (fun i => i = .int .i64 0) (fun _ => 0)
  case atStart => rfl
  case round =>
  obtain rfl := hrel
  go_wp2
  go_loop [9] (fun i => i = .int .i64 0) (fun _ => 0)
  case atStart => rfl
  case round =>
  obtain rfl := hrel
  go_wp2
  go_ret
  exact ⟨rfl, rfl⟩
set_option maxRecDepth 100000 in
set_option maxHeartbeats 1000000 in
theorem held_calls (bb : Nat) (w : World) (h : NilB w bb) : Calls Tryz.prog 72 #[.pointer (some ⟨bb, 0, none⟩)] w fun r w' => r = .returned (.bool true) ∧ w = w' := by
  have c30 : w.cell? ⟨bb, 30, none⟩ = some (.slice none 0 0) := h.cell 30 (by decide) (by decide)
  have c33 : w.cell? ⟨bb, 33, none⟩ = some (.slice none 0 0) := h.cell 33 (by decide) (by decide)
  have c36 : w.cell? ⟨bb, 36, none⟩ = some (.slice none 0 0) := h.cell 36 (by decide) (by decide)
  have c39 : w.cell? ⟨bb, 39, none⟩ = some (.slice none 0 0) := h.cell 39 (by decide) (by decide)
  have t0 : decide ((0 : Int) < 0) = false := by decide
  clear h
  go_enter Tryz.func72, Tryz.ntmps72
  go_wp2
  go_loop [3] (fun i => i = .int .i64 0) (fun _ => 0)
  case atStart => rfl
  case round =>
  obtain rfl := hrel
  go_wp2
  go_loop [5] (fun i => i = .int .i64 0) (fun _ => 0)
  case atStart => rfl
  case round =>
  obtain rfl := hrel
  go_wp2
  go_loop [7] (fun i => i = .int .i64 0) (fun _ => 0)
  case atStart => rfl
  case round =>
  obtain rfl := hrel
  go_wp2
  go_loop [11] (fun i => i = .int .i64 0) (fun _ => 0)
  case atStart => rfl
  case round =>
  obtain rfl := hrel
  go_wp2
  go_ret
  exact ⟨rfl, rfl⟩
set_option maxRecDepth 100000 in
set_option maxHeartbeats 1000000 in
theorem sent_calls (bb : Nat) (w : World) (h : NilB w bb) : Calls Tryz.prog 73 #[.pointer (some ⟨bb, 0, none⟩)] w fun r w' => r = .returned (.bool true) ∧ w = w' := by
  have c42 : w.cell? ⟨bb, 42, none⟩ = some (.slice none 0 0) := h.cell 42 (by decide) (by decide)
  have c45 : w.cell? ⟨bb, 45, none⟩ = some (.slice none 0 0) := h.cell 45 (by decide) (by decide)
  have c48 : w.cell? ⟨bb, 48, none⟩ = some (.slice none 0 0) := h.cell 48 (by decide) (by decide)
  have c51 : w.cell? ⟨bb, 51, none⟩ = some (.slice none 0 0) := h.cell 51 (by decide) (by decide)
  have t0 : decide ((0 : Int) < 0) = false := by decide
  clear h
  go_enter Tryz.func73, Tryz.ntmps73
  go_wp2
  go_loop [3] (fun i => i = .int .i64 0) (fun _ => 0)
  case atStart => rfl
  case round =>
  obtain rfl := hrel
  go_wp2
  go_loop [7] (fun i => i = .int .i64 0) (fun _ => 0)
  case atStart => rfl
  case round =>
  obtain rfl := hrel
  go_wp2
  go_loop [11] (fun i => i = .int .i64 0) (fun _ => 0)
  case atStart => rfl
  case round =>
  obtain rfl := hrel
  go_wp2
  go_loop [15] (fun i => i = .int .i64 0) (fun _ => 0)
  case atStart => rfl
  case round =>
  obtain rfl := hrel
  go_wp2
  go_ret
  exact ⟨rfl, rfl⟩
set_option maxRecDepth 100000 in
set_option maxHeartbeats 1000000 in
theorem given_calls (bb : Nat) (w : World) (h : NilB w bb) : Calls Tryz.prog 74 #[.pointer (some ⟨bb, 0, none⟩)] w fun r w' => r = .returned (.bool true) ∧ w = w' := by
  have c54 : w.cell? ⟨bb, 54, none⟩ = some (.slice none 0 0) := h.cell 54 (by decide) (by decide)
  have c57 : w.cell? ⟨bb, 57, none⟩ = some (.slice none 0 0) := h.cell 57 (by decide) (by decide)
  have c60 : w.cell? ⟨bb, 60, none⟩ = some (.slice none 0 0) := h.cell 60 (by decide) (by decide)
  have c63 : w.cell? ⟨bb, 63, none⟩ = some (.slice none 0 0) := h.cell 63 (by decide) (by decide)
  have t0 : decide ((0 : Int) < 0) = false := by decide
  clear h
  go_enter Tryz.func74, Tryz.ntmps74
  go_wp2
  go_loop [3] (fun i => i = .int .i64 0) (fun _ => 0)
  case atStart => rfl
  case round =>
  obtain rfl := hrel
  go_wp2
  go_loop [7] (fun i => i = .int .i64 0) (fun _ => 0)
  case atStart => rfl
  case round =>
  obtain rfl := hrel
  go_wp2
  go_loop [11] (fun i => i = .int .i64 0) (fun _ => 0)
  case atStart => rfl
  case round =>
  obtain rfl := hrel
  go_wp2
  go_loop [15] (fun i => i = .int .i64 0) (fun _ => 0)
  case atStart => rfl
  case round =>
  obtain rfl := hrel
  go_wp2
  go_ret
  exact ⟨rfl, rfl⟩
set_option maxRecDepth 100000 in
set_option maxHeartbeats 1000000 in
theorem seen_calls (bb : Nat) (w : World) (h : NilB w bb) : Calls Tryz.prog 75 #[.pointer (some ⟨bb, 0, none⟩)] w fun r w' => r = .returned (.bool true) ∧ w = w' := by
  have c66 : w.cell? ⟨bb, 66, none⟩ = some (.slice none 0 0) := h.cell 66 (by decide) (by decide)
  have c69 : w.cell? ⟨bb, 69, none⟩ = some (.slice none 0 0) := h.cell 69 (by decide) (by decide)
  have t0 : decide ((0 : Int) < 0) = false := by decide
  clear h
  go_enter Tryz.func75, Tryz.ntmps75
  go_wp2
  go_loop [3] (fun i => i = .int .i64 0) (fun _ => 0)
  case atStart => rfl
  case round =>
  obtain rfl := hrel
  go_wp2
  go_loop [7] (fun i => i = .int .i64 0) (fun _ => 0)
  case atStart => rfl
  case round =>
  obtain rfl := hrel
  go_wp2
  go_ret
  exact ⟨rfl, rfl⟩
set_option maxRecDepth 100000 in
set_option maxHeartbeats 1000000 in
theorem growRows_calls (bb : Nat) (w : World) (h : NilB w bb) : Calls Tryz.prog 77 #[.pointer (some ⟨bb, 0, none⟩)] w fun r w' => r = .returned (.tuple #[]) ∧ w = w' := by
  have c0 : w.cell? ⟨bb, 3, none⟩ = some (.slice none 0 0) := h.cell 3 (by decide) (by decide)
  have c2 : w.cell? ⟨bb, 5, none⟩ = some (.int .i64 0) := h.cell 5 (by decide) (by decide)
  have f2 : w.frozen? ⟨bb, 5, none⟩ = false := h.froz 5 (by decide)
  have t0 : decide ((0 : Int) < 0) = false := by decide
  have E := Lib.hid (setCell_same c2)
  clear h
  go_enter Tryz.func77, Tryz.ntmps77
  go_wp2
  go_loop [3] (fun i => i = .int .i64 0) (fun _ => 0)
  case atStart => rfl
  case round =>
  obtain rfl := hrel
  go_wp2
  go_end0
  exact ⟨rfl, E.out.symm⟩
set_option maxRecDepth 100000 in
set_option maxHeartbeats 1000000 in
theorem growTexts_calls (bb : Nat) (w : World) (h : NilB w bb) : Calls Tryz.prog 78 #[.pointer (some ⟨bb, 0, none⟩)] w fun r w' => r = .returned (.tuple #[]) ∧ w = w' := by
  have c0 : w.cell? ⟨bb, 6, none⟩ = some (.slice none 0 0) := h.cell 6 (by decide) (by decide)
  have c2 : w.cell? ⟨bb, 8, none⟩ = some (.int .i64 0) := h.cell 8 (by decide) (by decide)
  have f2 : w.frozen? ⟨bb, 8, none⟩ = false := h.froz 8 (by decide)
  have t0 : decide ((0 : Int) < 0) = false := by decide
  have E := Lib.hid (setCell_same c2)
  clear h
  go_enter Tryz.func78, Tryz.ntmps78
  go_wp2
  go_loop [3] (fun i => i = .int .i64 0) (fun _ => 0)
  case atStart => rfl
  case round =>
  obtain rfl := hrel
  go_wp2
  go_end0
  exact ⟨rfl, E.out.symm⟩
set_option maxRecDepth 100000 in
set_option maxHeartbeats 1000000 in
theorem growInts_calls (bb : Nat) (w : World) (h : NilB w bb) : Calls Tryz.prog 79 #[.pointer (some ⟨bb, 0, none⟩)] w fun r w' => r = .returned (.tuple #[]) ∧ w = w' := by
  have c0 : w.cell? ⟨bb, 9, none⟩ = some (.slice none 0 0) := h.cell 9 (by decide) (by decide)
  have c2 : w.cell? ⟨bb, 11, none⟩ = some (.int .i64 0) := h.cell 11 (by decide) (by decide)
  have f2 : w.frozen? ⟨bb, 11, none⟩ = false := h.froz 11 (by decide)
  have t0 : decide ((0 : Int) < 0) = false := by decide
  have E := Lib.hid (setCell_same c2)
  clear h
  go_enter Tryz.func79, Tryz.ntmps79
  go_wp2
  go_loop [3] (fun i => i = .int .i64 0) (fun _ => 0)
  case atStart => rfl
  case round =>
  obtain rfl := hrel
  go_wp2
  go_end0
  exact ⟨rfl, E.out.symm⟩
set_option maxRecDepth 100000 in
set_option maxHeartbeats 1000000 in
theorem growWords_calls (bb : Nat) (w : World) (h : NilB w bb) : Calls Tryz.prog 80 #[.pointer (some ⟨bb, 0, none⟩)] w fun r w' => r = .returned (.tuple #[]) ∧ w = w' := by
  have c0 : w.cell? ⟨bb, 12, none⟩ = some (.slice none 0 0) := h.cell 12 (by decide) (by decide)
  have c2 : w.cell? ⟨bb, 14, none⟩ = some (.int .i64 0) := h.cell 14 (by decide) (by decide)
  have f2 : w.frozen? ⟨bb, 14, none⟩ = false := h.froz 14 (by decide)
  have t0 : decide ((0 : Int) < 0) = false := by decide
  have E := Lib.hid (setCell_same c2)
  clear h
  go_enter Tryz.func80, Tryz.ntmps80
  go_wp2
  go_loop [3] (fun i => i = .int .i64 0) (fun _ => 0)
  case atStart => rfl
  case round =>
  obtain rfl := hrel
  go_wp2
  go_end0
  exact ⟨rfl, E.out.symm⟩
set_option maxRecDepth 100000 in
set_option maxHeartbeats 1000000 in
theorem growIds_calls (bb : Nat) (w : World) (h : NilB w bb) : Calls Tryz.prog 81 #[.pointer (some ⟨bb, 0, none⟩)] w fun r w' => r = .returned (.tuple #[]) ∧ w = w' := by
  have c0 : w.cell? ⟨bb, 15, none⟩ = some (.slice none 0 0) := h.cell 15 (by decide) (by decide)
  have c2 : w.cell? ⟨bb, 17, none⟩ = some (.int .i64 0) := h.cell 17 (by decide) (by decide)
  have f2 : w.frozen? ⟨bb, 17, none⟩ = false := h.froz 17 (by decide)
  have t0 : decide ((0 : Int) < 0) = false := by decide
  have E := Lib.hid (setCell_same c2)
  clear h
  go_enter Tryz.func81, Tryz.ntmps81
  go_wp2
  go_loop [3] (fun i => i = .int .i64 0) (fun _ => 0)
  case atStart => rfl
  case round =>
  obtain rfl := hrel
  go_wp2
  go_end0
  exact ⟨rfl, E.out.symm⟩
set_option maxRecDepth 100000 in
set_option maxHeartbeats 1000000 in
theorem growKeys_calls (bb : Nat) (w : World) (h : NilB w bb) : Calls Tryz.prog 82 #[.pointer (some ⟨bb, 0, none⟩)] w fun r w' => r = .returned (.tuple #[]) ∧ w = w' := by
  have c0 : w.cell? ⟨bb, 18, none⟩ = some (.slice none 0 0) := h.cell 18 (by decide) (by decide)
  have c2 : w.cell? ⟨bb, 20, none⟩ = some (.int .i64 0) := h.cell 20 (by decide) (by decide)
  have f2 : w.frozen? ⟨bb, 20, none⟩ = false := h.froz 20 (by decide)
  have t0 : decide ((0 : Int) < 0) = false := by decide
  have E := Lib.hid (setCell_same c2)
  clear h
  go_enter Tryz.func82, Tryz.ntmps82
  go_wp2
  go_loop [3] (fun i => i = .int .i64 0) (fun _ => 0)
  case atStart => rfl
  case round =>
  obtain rfl := hrel
  go_wp2
  go_end0
  exact ⟨rfl, E.out.symm⟩
set_option maxRecDepth 100000 in
set_option maxHeartbeats 1000000 in
theorem growUsers_calls (bb : Nat) (w : World) (h : NilB w bb) : Calls Tryz.prog 83 #[.pointer (some ⟨bb, 0, none⟩)] w fun r w' => r = .returned (.tuple #[]) ∧ w = w' := by
  have c0 : w.cell? ⟨bb, 21, none⟩ = some (.slice none 0 0) := h.cell 21 (by decide) (by decide)
  have c2 : w.cell? ⟨bb, 23, none⟩ = some (.int .i64 0) := h.cell 23 (by decide) (by decide)
  have f2 : w.frozen? ⟨bb, 23, none⟩ = false := h.froz 23 (by decide)
  have t0 : decide ((0 : Int) < 0) = false := by decide
  have E := Lib.hid (setCell_same c2)
  clear h
  go_enter Tryz.func83, Tryz.ntmps83
  go_wp2
  go_loop [3] (fun i => i = .int .i64 0) (fun _ => 0)
  case atStart => rfl
  case round =>
  obtain rfl := hrel
  go_wp2
  go_end0
  exact ⟨rfl, E.out.symm⟩
set_option maxRecDepth 100000 in
set_option maxHeartbeats 1000000 in
theorem growSessions_calls (bb : Nat) (w : World) (h : NilB w bb) : Calls Tryz.prog 84 #[.pointer (some ⟨bb, 0, none⟩)] w fun r w' => r = .returned (.tuple #[]) ∧ w = w' := by
  have c0 : w.cell? ⟨bb, 24, none⟩ = some (.slice none 0 0) := h.cell 24 (by decide) (by decide)
  have c2 : w.cell? ⟨bb, 26, none⟩ = some (.int .i64 0) := h.cell 26 (by decide) (by decide)
  have f2 : w.frozen? ⟨bb, 26, none⟩ = false := h.froz 26 (by decide)
  have t0 : decide ((0 : Int) < 0) = false := by decide
  have E := Lib.hid (setCell_same c2)
  clear h
  go_enter Tryz.func84, Tryz.ntmps84
  go_wp2
  go_loop [3] (fun i => i = .int .i64 0) (fun _ => 0)
  case atStart => rfl
  case round =>
  obtain rfl := hrel
  go_wp2
  go_end0
  exact ⟨rfl, E.out.symm⟩
set_option maxRecDepth 100000 in
set_option maxHeartbeats 1000000 in
theorem growRefreshes_calls (bb : Nat) (w : World) (h : NilB w bb) : Calls Tryz.prog 85 #[.pointer (some ⟨bb, 0, none⟩)] w fun r w' => r = .returned (.tuple #[]) ∧ w = w' := by
  have c0 : w.cell? ⟨bb, 27, none⟩ = some (.slice none 0 0) := h.cell 27 (by decide) (by decide)
  have c2 : w.cell? ⟨bb, 29, none⟩ = some (.int .i64 0) := h.cell 29 (by decide) (by decide)
  have f2 : w.frozen? ⟨bb, 29, none⟩ = false := h.froz 29 (by decide)
  have t0 : decide ((0 : Int) < 0) = false := by decide
  have E := Lib.hid (setCell_same c2)
  clear h
  go_enter Tryz.func85, Tryz.ntmps85
  go_wp2
  go_loop [3] (fun i => i = .int .i64 0) (fun _ => 0)
  case atStart => rfl
  case round =>
  obtain rfl := hrel
  go_wp2
  go_end0
  exact ⟨rfl, E.out.symm⟩
set_option maxRecDepth 100000 in
set_option maxHeartbeats 1000000 in
theorem growRevokeds_calls (bb : Nat) (w : World) (h : NilB w bb) : Calls Tryz.prog 86 #[.pointer (some ⟨bb, 0, none⟩)] w fun r w' => r = .returned (.tuple #[]) ∧ w = w' := by
  have c0 : w.cell? ⟨bb, 30, none⟩ = some (.slice none 0 0) := h.cell 30 (by decide) (by decide)
  have c2 : w.cell? ⟨bb, 32, none⟩ = some (.int .i64 0) := h.cell 32 (by decide) (by decide)
  have f2 : w.frozen? ⟨bb, 32, none⟩ = false := h.froz 32 (by decide)
  have t0 : decide ((0 : Int) < 0) = false := by decide
  have E := Lib.hid (setCell_same c2)
  clear h
  go_enter Tryz.func86, Tryz.ntmps86
  go_wp2
  go_loop [3] (fun i => i = .int .i64 0) (fun _ => 0)
  case atStart => rfl
  case round =>
  obtain rfl := hrel
  go_wp2
  go_end0
  exact ⟨rfl, E.out.symm⟩
set_option maxRecDepth 100000 in
set_option maxHeartbeats 1000000 in
theorem growFields_calls (bb : Nat) (w : World) (h : NilB w bb) : Calls Tryz.prog 87 #[.pointer (some ⟨bb, 0, none⟩)] w fun r w' => r = .returned (.tuple #[]) ∧ w = w' := by
  have c0 : w.cell? ⟨bb, 33, none⟩ = some (.slice none 0 0) := h.cell 33 (by decide) (by decide)
  have c2 : w.cell? ⟨bb, 35, none⟩ = some (.int .i64 0) := h.cell 35 (by decide) (by decide)
  have f2 : w.frozen? ⟨bb, 35, none⟩ = false := h.froz 35 (by decide)
  have t0 : decide ((0 : Int) < 0) = false := by decide
  have E := Lib.hid (setCell_same c2)
  clear h
  go_enter Tryz.func87, Tryz.ntmps87
  go_wp2
  go_loop [3] (fun i => i = .int .i64 0) (fun _ => 0)
  case atStart => rfl
  case round =>
  obtain rfl := hrel
  go_wp2
  go_end0
  exact ⟨rfl, E.out.symm⟩
set_option maxRecDepth 100000 in
set_option maxHeartbeats 1000000 in
theorem growFiles_calls (bb : Nat) (w : World) (h : NilB w bb) : Calls Tryz.prog 88 #[.pointer (some ⟨bb, 0, none⟩)] w fun r w' => r = .returned (.tuple #[]) ∧ w = w' := by
  have c0 : w.cell? ⟨bb, 36, none⟩ = some (.slice none 0 0) := h.cell 36 (by decide) (by decide)
  have c2 : w.cell? ⟨bb, 38, none⟩ = some (.int .i64 0) := h.cell 38 (by decide) (by decide)
  have f2 : w.frozen? ⟨bb, 38, none⟩ = false := h.froz 38 (by decide)
  have t0 : decide ((0 : Int) < 0) = false := by decide
  have E := Lib.hid (setCell_same c2)
  clear h
  go_enter Tryz.func88, Tryz.ntmps88
  go_wp2
  go_loop [3] (fun i => i = .int .i64 0) (fun _ => 0)
  case atStart => rfl
  case round =>
  obtain rfl := hrel
  go_wp2
  go_end0
  exact ⟨rfl, E.out.symm⟩
set_option maxRecDepth 100000 in
set_option maxHeartbeats 1000000 in
theorem growPairs_calls (bb : Nat) (w : World) (h : NilB w bb) : Calls Tryz.prog 89 #[.pointer (some ⟨bb, 0, none⟩)] w fun r w' => r = .returned (.tuple #[]) ∧ w = w' := by
  have c0 : w.cell? ⟨bb, 39, none⟩ = some (.slice none 0 0) := h.cell 39 (by decide) (by decide)
  have c2 : w.cell? ⟨bb, 41, none⟩ = some (.int .i64 0) := h.cell 41 (by decide) (by decide)
  have f2 : w.frozen? ⟨bb, 41, none⟩ = false := h.froz 41 (by decide)
  have t0 : decide ((0 : Int) < 0) = false := by decide
  have E := Lib.hid (setCell_same c2)
  clear h
  go_enter Tryz.func89, Tryz.ntmps89
  go_wp2
  go_loop [3] (fun i => i = .int .i64 0) (fun _ => 0)
  case atStart => rfl
  case round =>
  obtain rfl := hrel
  go_wp2
  go_end0
  exact ⟨rfl, E.out.symm⟩
set_option maxRecDepth 100000 in
set_option maxHeartbeats 1000000 in
theorem growChanges_calls (bb : Nat) (w : World) (h : NilB w bb) : Calls Tryz.prog 90 #[.pointer (some ⟨bb, 0, none⟩)] w fun r w' => r = .returned (.tuple #[]) ∧ w = w' := by
  have c0 : w.cell? ⟨bb, 42, none⟩ = some (.slice none 0 0) := h.cell 42 (by decide) (by decide)
  have c2 : w.cell? ⟨bb, 44, none⟩ = some (.int .i64 0) := h.cell 44 (by decide) (by decide)
  have f2 : w.frozen? ⟨bb, 44, none⟩ = false := h.froz 44 (by decide)
  have t0 : decide ((0 : Int) < 0) = false := by decide
  have E := Lib.hid (setCell_same c2)
  clear h
  go_enter Tryz.func90, Tryz.ntmps90
  go_wp2
  go_loop [3] (fun i => i = .int .i64 0) (fun _ => 0)
  case atStart => rfl
  case round =>
  obtain rfl := hrel
  go_wp2
  go_end0
  exact ⟨rfl, E.out.symm⟩
set_option maxRecDepth 100000 in
set_option maxHeartbeats 1000000 in
theorem growValues_calls (bb : Nat) (w : World) (h : NilB w bb) : Calls Tryz.prog 91 #[.pointer (some ⟨bb, 0, none⟩)] w fun r w' => r = .returned (.tuple #[]) ∧ w = w' := by
  have c0 : w.cell? ⟨bb, 45, none⟩ = some (.slice none 0 0) := h.cell 45 (by decide) (by decide)
  have c2 : w.cell? ⟨bb, 47, none⟩ = some (.int .i64 0) := h.cell 47 (by decide) (by decide)
  have f2 : w.frozen? ⟨bb, 47, none⟩ = false := h.froz 47 (by decide)
  have t0 : decide ((0 : Int) < 0) = false := by decide
  have E := Lib.hid (setCell_same c2)
  clear h
  go_enter Tryz.func91, Tryz.ntmps91
  go_wp2
  go_loop [3] (fun i => i = .int .i64 0) (fun _ => 0)
  case atStart => rfl
  case round =>
  obtain rfl := hrel
  go_wp2
  go_end0
  exact ⟨rfl, E.out.symm⟩
set_option maxRecDepth 100000 in
set_option maxHeartbeats 1000000 in
theorem growClients_calls (bb : Nat) (w : World) (h : NilB w bb) : Calls Tryz.prog 92 #[.pointer (some ⟨bb, 0, none⟩)] w fun r w' => r = .returned (.tuple #[]) ∧ w = w' := by
  have c0 : w.cell? ⟨bb, 48, none⟩ = some (.slice none 0 0) := h.cell 48 (by decide) (by decide)
  have c2 : w.cell? ⟨bb, 50, none⟩ = some (.int .i64 0) := h.cell 50 (by decide) (by decide)
  have f2 : w.frozen? ⟨bb, 50, none⟩ = false := h.froz 50 (by decide)
  have t0 : decide ((0 : Int) < 0) = false := by decide
  have E := Lib.hid (setCell_same c2)
  clear h
  go_enter Tryz.func92, Tryz.ntmps92
  go_wp2
  go_loop [3] (fun i => i = .int .i64 0) (fun _ => 0)
  case atStart => rfl
  case round =>
  obtain rfl := hrel
  go_wp2
  go_end0
  exact ⟨rfl, E.out.symm⟩
set_option maxRecDepth 100000 in
set_option maxHeartbeats 1000000 in
theorem growConsents_calls (bb : Nat) (w : World) (h : NilB w bb) : Calls Tryz.prog 93 #[.pointer (some ⟨bb, 0, none⟩)] w fun r w' => r = .returned (.tuple #[]) ∧ w = w' := by
  have c0 : w.cell? ⟨bb, 51, none⟩ = some (.slice none 0 0) := h.cell 51 (by decide) (by decide)
  have c2 : w.cell? ⟨bb, 53, none⟩ = some (.int .i64 0) := h.cell 53 (by decide) (by decide)
  have f2 : w.frozen? ⟨bb, 53, none⟩ = false := h.froz 53 (by decide)
  have t0 : decide ((0 : Int) < 0) = false := by decide
  have E := Lib.hid (setCell_same c2)
  clear h
  go_enter Tryz.func93, Tryz.ntmps93
  go_wp2
  go_loop [3] (fun i => i = .int .i64 0) (fun _ => 0)
  case atStart => rfl
  case round =>
  obtain rfl := hrel
  go_wp2
  go_end0
  exact ⟨rfl, E.out.symm⟩
set_option maxRecDepth 100000 in
set_option maxHeartbeats 1000000 in
theorem growCodes_calls (bb : Nat) (w : World) (h : NilB w bb) : Calls Tryz.prog 94 #[.pointer (some ⟨bb, 0, none⟩)] w fun r w' => r = .returned (.tuple #[]) ∧ w = w' := by
  have c0 : w.cell? ⟨bb, 54, none⟩ = some (.slice none 0 0) := h.cell 54 (by decide) (by decide)
  have c2 : w.cell? ⟨bb, 56, none⟩ = some (.int .i64 0) := h.cell 56 (by decide) (by decide)
  have f2 : w.frozen? ⟨bb, 56, none⟩ = false := h.froz 56 (by decide)
  have t0 : decide ((0 : Int) < 0) = false := by decide
  have E := Lib.hid (setCell_same c2)
  clear h
  go_enter Tryz.func94, Tryz.ntmps94
  go_wp2
  go_loop [3] (fun i => i = .int .i64 0) (fun _ => 0)
  case atStart => rfl
  case round =>
  obtain rfl := hrel
  go_wp2
  go_end0
  exact ⟨rfl, E.out.symm⟩
set_option maxRecDepth 100000 in
set_option maxHeartbeats 1000000 in
theorem growGrants_calls (bb : Nat) (w : World) (h : NilB w bb) : Calls Tryz.prog 95 #[.pointer (some ⟨bb, 0, none⟩)] w fun r w' => r = .returned (.tuple #[]) ∧ w = w' := by
  have c0 : w.cell? ⟨bb, 57, none⟩ = some (.slice none 0 0) := h.cell 57 (by decide) (by decide)
  have c2 : w.cell? ⟨bb, 59, none⟩ = some (.int .i64 0) := h.cell 59 (by decide) (by decide)
  have f2 : w.frozen? ⟨bb, 59, none⟩ = false := h.froz 59 (by decide)
  have t0 : decide ((0 : Int) < 0) = false := by decide
  have E := Lib.hid (setCell_same c2)
  clear h
  go_enter Tryz.func95, Tryz.ntmps95
  go_wp2
  go_loop [3] (fun i => i = .int .i64 0) (fun _ => 0)
  case atStart => rfl
  case round =>
  obtain rfl := hrel
  go_wp2
  go_end0
  exact ⟨rfl, E.out.symm⟩
set_option maxRecDepth 100000 in
set_option maxHeartbeats 1000000 in
theorem growClaims_calls (bb : Nat) (w : World) (h : NilB w bb) : Calls Tryz.prog 96 #[.pointer (some ⟨bb, 0, none⟩)] w fun r w' => r = .returned (.tuple #[]) ∧ w = w' := by
  have c0 : w.cell? ⟨bb, 60, none⟩ = some (.slice none 0 0) := h.cell 60 (by decide) (by decide)
  have c2 : w.cell? ⟨bb, 62, none⟩ = some (.int .i64 0) := h.cell 62 (by decide) (by decide)
  have f2 : w.frozen? ⟨bb, 62, none⟩ = false := h.froz 62 (by decide)
  have t0 : decide ((0 : Int) < 0) = false := by decide
  have E := Lib.hid (setCell_same c2)
  clear h
  go_enter Tryz.func96, Tryz.ntmps96
  go_wp2
  go_loop [3] (fun i => i = .int .i64 0) (fun _ => 0)
  case atStart => rfl
  case round =>
  obtain rfl := hrel
  go_wp2
  go_end0
  exact ⟨rfl, E.out.symm⟩
set_option maxRecDepth 100000 in
set_option maxHeartbeats 1000000 in
theorem growRoutes_calls (bb : Nat) (w : World) (h : NilB w bb) : Calls Tryz.prog 97 #[.pointer (some ⟨bb, 0, none⟩)] w fun r w' => r = .returned (.tuple #[]) ∧ w = w' := by
  have c0 : w.cell? ⟨bb, 63, none⟩ = some (.slice none 0 0) := h.cell 63 (by decide) (by decide)
  have c2 : w.cell? ⟨bb, 65, none⟩ = some (.int .i64 0) := h.cell 65 (by decide) (by decide)
  have f2 : w.frozen? ⟨bb, 65, none⟩ = false := h.froz 65 (by decide)
  have t0 : decide ((0 : Int) < 0) = false := by decide
  have E := Lib.hid (setCell_same c2)
  clear h
  go_enter Tryz.func97, Tryz.ntmps97
  go_wp2
  go_loop [3] (fun i => i = .int .i64 0) (fun _ => 0)
  case atStart => rfl
  case round =>
  obtain rfl := hrel
  go_wp2
  go_end0
  exact ⟨rfl, E.out.symm⟩
set_option maxRecDepth 100000 in
set_option maxHeartbeats 1000000 in
theorem growAnswers_calls (bb : Nat) (w : World) (h : NilB w bb) : Calls Tryz.prog 98 #[.pointer (some ⟨bb, 0, none⟩)] w fun r w' => r = .returned (.tuple #[]) ∧ w = w' := by
  have c0 : w.cell? ⟨bb, 66, none⟩ = some (.slice none 0 0) := h.cell 66 (by decide) (by decide)
  have c2 : w.cell? ⟨bb, 68, none⟩ = some (.int .i64 0) := h.cell 68 (by decide) (by decide)
  have f2 : w.frozen? ⟨bb, 68, none⟩ = false := h.froz 68 (by decide)
  have t0 : decide ((0 : Int) < 0) = false := by decide
  have E := Lib.hid (setCell_same c2)
  clear h
  go_enter Tryz.func98, Tryz.ntmps98
  go_wp2
  go_loop [3] (fun i => i = .int .i64 0) (fun _ => 0)
  case atStart => rfl
  case round =>
  obtain rfl := hrel
  go_wp2
  go_end0
  exact ⟨rfl, E.out.symm⟩
set_option maxRecDepth 100000 in
set_option maxHeartbeats 1000000 in
theorem growHelds_calls (bb : Nat) (w : World) (h : NilB w bb) : Calls Tryz.prog 99 #[.pointer (some ⟨bb, 0, none⟩)] w fun r w' => r = .returned (.tuple #[]) ∧ w = w' := by
  have c0 : w.cell? ⟨bb, 69, none⟩ = some (.slice none 0 0) := h.cell 69 (by decide) (by decide)
  have c2 : w.cell? ⟨bb, 71, none⟩ = some (.int .i64 0) := h.cell 71 (by decide) (by decide)
  have f2 : w.frozen? ⟨bb, 71, none⟩ = false := h.froz 71 (by decide)
  have t0 : decide ((0 : Int) < 0) = false := by decide
  have E := Lib.hid (setCell_same c2)
  clear h
  go_enter Tryz.func99, Tryz.ntmps99
  go_wp2
  go_loop [3] (fun i => i = .int .i64 0) (fun _ => 0)
  case atStart => rfl
  case round =>
  obtain rfl := hrel
  go_wp2
  go_end0
  exact ⟨rfl, E.out.symm⟩
end Go.Proofs.YtnbpkignkfabkaaGreatDoor
/- posternlaw1.Book: what it keeps, and how it takes a list of bytes. -/
namespace Go.Proofs.YtnbpkignkfabkaaGreatDoor
set_option linter.unusedVariables false
set_option linter.unusedSimpArgs false
open Go.RowKit
def atE (m : Int) (k : Nat) : Int := if k % 2 = 0 then wrap64 (1 + m.tmod 251) % 256 else wrap64 (1 + (wrap64 (wrap64 (7 * m) + wrap64 (m.tdiv 251))).tmod 251) % 256
/-- The mark's byte at a place. -/
def atB (m : Int) (k : Nat) : UInt8 := UInt8.ofNat (atE m k).toNat
theorem atB_val (m : Int) (k : Nat) : ((atB m k).toNat : Int) = atE m k := by
  have h : 0 ≤ atE m k ∧ atE m k < 256 := by
    unfold atE
    split <;> exact ⟨Int.emod_nonneg _ (by decide), Int.emod_lt_of_pos _ (by decide)⟩
  unfold atB
  rw [UInt8.toNat_ofNat']
  omega
def mks (m : Int) (n : Nat) : List UInt8 := (List.range n).map (atB m)
theorem mks_length (m : Int) (n : Nat) : (mks m n).length = n := by simp [mks]
theorem mks_succ (m : Int) (n : Nat) : mks m (n + 1) = mks m n ++ [atB m n] := by simp [mks, List.range_succ]
theorem mks_get (m : Int) (n i : Nat) (h : i < n) : (mks m n)[i]? = some (atB m i) := by simp [mks, h]
set_option maxRecDepth 100000 in
theorem at_calls (m : Int) (k : Nat) (w : World) (hk : k ≤ 1000000000000) : Calls Tryz.prog 67 #[.int .i64 m, .int .i64 k] w fun r w' => r = .returned (.int .u8 ((atB m k).toNat : Int)) ∧ w = w' := by
  by_cases h : k % 2 = 0
  · have t : (((k : Int) % 2) == 0) = true := by rw [beq_iff_eq]; omega
    have e : ((atB m k).toNat : Int) = wrap64 (1 + m.tmod 251) % 256 := by rw [atB_val]; exact if_pos h
    rw [e]
    clear h e
    go_enter Tryz.func67, Tryz.ntmps67
    go_wp2
    go_ret
    exact ⟨rfl, rfl⟩
  · have t : (((k : Int) % 2) == 0) = false := by rw [beq_eq_false_iff_ne]; omega
    have e : ((atB m k).toNat : Int) = wrap64 (1 + (wrap64 (wrap64 (7 * m) + wrap64 (m.tdiv 251))).tmod 251) % 256 := by rw [atB_val]; exact if_neg h
    rw [e]
    clear h e
    go_enter Tryz.func67, Tryz.ntmps67
    go_wp2
    go_ret
    exact ⟨rfl, rfl⟩
/-- A list that is kept, and its mark. -/
structure Ent where
  a : Option Addr
  n : Nat
  c : Nat
  m : Int
def Ent.val (e : Ent) : Value := .slice e.a e.n e.c
def Ent.mval (e : Ent) : Value := .int .i64 e.m
def Ent.at_ (e : Ent) (k : Nat) : Prop := e.val.ownBlock = some k
/-- What stands in a Book's cells. -/
structure BkC (cur : Array Value) (vb vo : Value) (bat : Nat) (tn dn : Int) (us : Nat) : Prop where
  size : cur.size = 75
  c0 : cur[0]? = some vb
  c1 : cur[1]? = some vo
  c2 : cur[2]? = some (.int .i64 bat)
  cn : ∀ k, 3 ≤ k → k < 72 → cur[k]? = some (nilAt k)
  c72 : cur[72]? = some (.int .i64 tn)
  c73 : cur[73]? = some (.int .i64 dn)
  c74 : cur[74]? = some (.int .i64 us)
section
variable {cur : Array Value} {vb vo : Value} {bat : Nat} {tn dn : Int} {us : Nat}
theorem other {cur : Array Value} {i j : Nat} (v : Value) (h : i ≠ j) : (cur.setIfInBounds i v)[j]? = cur[j]? := by rw [Array.getElem?_setIfInBounds, if_neg h]
theorem here {cur : Array Value} {i : Nat} (v : Value) (h : i < cur.size) : (cur.setIfInBounds i v)[i]? = some v := by rw [Array.getElem?_setIfInBounds, if_pos rfl, if_pos h]
theorem BkC.s0 (h : BkC cur vb vo bat tn dn us) (v : Value) : BkC (cur.setIfInBounds 0 v) v vo bat tn dn us :=
  ⟨by simpa using h.size, here v (by rw [h.size]; decide), (other v (by decide)).trans h.c1, (other v (by decide)).trans h.c2, fun k a b => (other v (by omega)).trans (h.cn k a b), (other v (by decide)).trans h.c72, (other v (by decide)).trans h.c73, (other v (by decide)).trans h.c74⟩
theorem BkC.s1 (h : BkC cur vb vo bat tn dn us) (v : Value) : BkC (cur.setIfInBounds 1 v) vb v bat tn dn us :=
  ⟨by simpa using h.size, (other v (by decide)).trans h.c0, here v (by rw [h.size]; decide), (other v (by decide)).trans h.c2, fun k a b => (other v (by omega)).trans (h.cn k a b), (other v (by decide)).trans h.c72, (other v (by decide)).trans h.c73, (other v (by decide)).trans h.c74⟩
theorem BkC.s2 (h : BkC cur vb vo bat tn dn us) (n : Nat) : BkC (cur.setIfInBounds 2 (.int .i64 n)) vb vo n tn dn us :=
  ⟨by simpa using h.size, (other _ (by decide)).trans h.c0, (other _ (by decide)).trans h.c1, here _ (by rw [h.size]; decide), fun k a b => (other _ (by omega)).trans (h.cn k a b), (other _ (by decide)).trans h.c72, (other _ (by decide)).trans h.c73, (other _ (by decide)).trans h.c74⟩
theorem BkC.s72 (h : BkC cur vb vo bat tn dn us) (n : Int) : BkC (cur.setIfInBounds 72 (.int .i64 n)) vb vo bat n dn us :=
  ⟨by simpa using h.size, (other _ (by decide)).trans h.c0, (other _ (by decide)).trans h.c1, (other _ (by decide)).trans h.c2, fun k a b => (other _ (by omega)).trans (h.cn k a b), here _ (by rw [h.size]; decide), (other _ (by decide)).trans h.c73, (other _ (by decide)).trans h.c74⟩
theorem BkC.s73 (h : BkC cur vb vo bat tn dn us) (n : Int) : BkC (cur.setIfInBounds 73 (.int .i64 n)) vb vo bat tn n us :=
  ⟨by simpa using h.size, (other _ (by decide)).trans h.c0, (other _ (by decide)).trans h.c1, (other _ (by decide)).trans h.c2, fun k a b => (other _ (by omega)).trans (h.cn k a b), (other _ (by decide)).trans h.c72, here _ (by rw [h.size]; decide), (other _ (by decide)).trans h.c74⟩
theorem BkC.s74 (h : BkC cur vb vo bat tn dn us) (n : Nat) : BkC (cur.setIfInBounds 74 (.int .i64 n)) vb vo bat tn dn n :=
  ⟨by simpa using h.size, (other _ (by decide)).trans h.c0, (other _ (by decide)).trans h.c1, (other _ (by decide)).trans h.c2, fun k a b => (other _ (by omega)).trans (h.cn k a b), (other _ (by decide)).trans h.c72, (other _ (by decide)).trans h.c73, here _ (by rw [h.size]; decide)⟩
end
/-- The book: its lists (E in its rows, E2 in its marks); those from lo to hi share their memory with no other; it touches nothing of Pr. -/
structure Bk (w : World) (base : Nat) (Pr : Nat → Prop) (bb : Nat) (E E2 : List Ent) (lo hi : Nat) (vb vo : Value) (bat : Nat) (tn dn : Int) (us : Nat) : Prop where
  blk : ∃ cur, w.heap[bb]? = some (.cells cur 63 (0, 0)) ∧ BkC cur vb vo bat tn dn us
  bbge : base ≤ bb
  rows : Own w base 74 1 vb E.length (E.map Ent.val)
  ofs : Own w base 3 1 vo E2.length (E2.map Ent.mval)
  ent : ∀ e ∈ E, Own w base 5 1 e.val e.n (bys (mks e.m e.n))
  ee : ∀ e ∈ E, ∀ f ∈ E, ∀ k, e.at_ k → f.at_ k → e.m = f.m
  uq : ∀ i j, lo ≤ i → i < hi → i ≠ j → ∀ e f, E[i]? = some e → E[j]? = some f → ∀ k, e.at_ k → ¬ f.at_ k
  pr : ∀ k, Pr k → k < w.heap.size ∧ k ≠ bb ∧ vb.ownBlock ≠ some k ∧ vo.ownBlock ≠ some k ∧ ∀ e ∈ E, ¬ e.at_ k
  en : ∀ i e, E[i]? = some e → e.n ≤ 16777312 ∧ (lo ≤ i → i < hi → e.n ≤ 16777216)
def BkF (bb : Nat) (vb vo : Value) (E : List Ent) (k : Nat) : Prop := k = bb ∨ vb.ownBlock = some k ∨ vo.ownBlock = some k ∨ ∃ e ∈ E, e.at_ k
theorem Own.not_at {w : World} {base : Nat} {e e' : TypeId} {size n : Nat} {v : Value} {xs : List Value} (h : Own w base e size v n xs) {b : Nat} {cur : Array Value} {fr : Nat × Nat} (hb : w.heap[b]? = some (.cells cur e' fr)) (hne : e' ≠ e) : v.ownBlock ≠ some b := by
  intro hv
  rcases h.2 with ⟨rfl, _⟩ | ⟨g, cap, cur', fr', rfl, _, hg, _⟩
  · cases hv
  · cases hv
    rw [hb] at hg
    injection hg with hg
    injection hg with _ hg _
    exact hne hg
section
variable {w w' : World} {base : Nat} {Pr : Nat → Prop} {bb : Nat} {E E2 : List Ent} {lo hi : Nat} {vb vo : Value} {bat : Nat} {tn dn : Int} {us : Nat}
theorem Bk.en1 (h : Bk w base Pr bb E E2 lo hi vb vo bat tn dn us) : ∀ e ∈ E, e.n ≤ 16777312 := fun e he => by obtain ⟨i, hi⟩ := List.getElem?_of_mem he; exact (h.en i e hi).1
theorem Bk.bblt (h : Bk w base Pr bb E E2 lo hi vb vo bat tn dn us) : bb < w.heap.size := by obtain ⟨cur, hc, _⟩ := h.blk; exact lt_of_block hc
theorem Bk.foot (h : Bk w base Pr bb E E2 lo hi vb vo bat tn dn us) : ∀ k, BkF bb vb vo E k → base ≤ k ∧ k < w.heap.size ∧ ¬ Pr k := by
  rintro k (rfl | hk | hk | ⟨e, he, hk⟩)
  · exact ⟨h.bbge, h.bblt, fun hp => (h.pr k hp).2.1 rfl⟩
  · exact ⟨(h.rows.lt k hk).1, (h.rows.lt k hk).2, fun hp => (h.pr k hp).2.2.1 hk⟩
  · exact ⟨(h.ofs.lt k hk).1, (h.ofs.lt k hk).2, fun hp => (h.pr k hp).2.2.2.1 hk⟩
  · exact ⟨((h.ent e he).lt k hk).1, ((h.ent e he).lt k hk).2, fun hp => (h.pr k hp).2.2.2.2 e he hk⟩
theorem Bk.upd {S : Nat → Prop} (h : Bk w base Pr bb E E2 lo hi vb vo bat tn dn us) (hu : Upd S w w') (hs : ∀ k, S k → ¬ BkF bb vb vo E k) : Bk w' base Pr bb E E2 lo hi vb vo bat tn dn us := by
  obtain ⟨cur, hc, hk⟩ := h.blk
  exact ⟨⟨cur, (hu.block bb h.bblt (fun s => hs _ s (.inl rfl))).trans hc, hk⟩, h.bbge, h.rows.upd hu (fun k e s => hs _ s (.inr (.inl e))), h.ofs.upd hu (fun k e s => hs _ s (.inr (.inr (.inl e)))),
    fun e he => (h.ent e he).upd hu (fun k hk s => hs _ s (.inr (.inr (.inr ⟨e, he, hk⟩)))), h.ee, h.uq, fun k hp => ⟨Nat.lt_of_lt_of_le (h.pr k hp).1 hu.size, (h.pr k hp).2⟩, h.en⟩
theorem Bk.cellAt (h : Bk w base Pr bb E E2 lo hi vb vo bat tn dn us) : ∃ cur, (∀ j, w.cell? ⟨bb, j, none⟩ = cur[j]?) ∧ BkC cur vb vo bat tn dn us := by
  obtain ⟨cur, hc, hk⟩ := h.blk
  exact ⟨cur, fun j => cell_of_row' hc, hk⟩
theorem Bk.froz (h : Bk w base Pr bb E E2 lo hi vb vo bat tn dn us) (j : Nat) : w.frozen? ⟨bb, j, none⟩ = false := by
  obtain ⟨cur, hc, _⟩ := h.blk
  exact frozen_of_row hc j
theorem Bk.nilB (h : Bk w base Pr bb E E2 lo hi vb vo bat tn dn us) : NilB w bb := by
  obtain ⟨cur, hc, hk⟩ := h.cellAt
  exact ⟨fun k a b => (hc k).trans (hk.cn k a b), fun k _ => h.froz k⟩
theorem Bk.k0 (h : Bk w base Pr bb E E2 lo hi vb vo bat tn dn us) : w.cell? ⟨bb, 0, none⟩ = some vb := by obtain ⟨cur, hc, hk⟩ := h.cellAt; exact (hc 0).trans hk.c0
theorem Bk.k1 (h : Bk w base Pr bb E E2 lo hi vb vo bat tn dn us) : w.cell? ⟨bb, 1, none⟩ = some vo := by obtain ⟨cur, hc, hk⟩ := h.cellAt; exact (hc 1).trans hk.c1
theorem Bk.k2 (h : Bk w base Pr bb E E2 lo hi vb vo bat tn dn us) : w.cell? ⟨bb, 2, none⟩ = some (.int .i64 bat) := by obtain ⟨cur, hc, hk⟩ := h.cellAt; exact (hc 2).trans hk.c2
theorem Bk.k72 (h : Bk w base Pr bb E E2 lo hi vb vo bat tn dn us) : w.cell? ⟨bb, 72, none⟩ = some (.int .i64 tn) := by obtain ⟨cur, hc, hk⟩ := h.cellAt; exact (hc 72).trans hk.c72
theorem Bk.k73 (h : Bk w base Pr bb E E2 lo hi vb vo bat tn dn us) : w.cell? ⟨bb, 73, none⟩ = some (.int .i64 dn) := by obtain ⟨cur, hc, hk⟩ := h.cellAt; exact (hc 73).trans hk.c73
theorem Bk.k74 (h : Bk w base Pr bb E E2 lo hi vb vo bat tn dn us) : w.cell? ⟨bb, 74, none⟩ = some (.int .i64 us) := by obtain ⟨cur, hc, hk⟩ := h.cellAt; exact (hc 74).trans hk.c74
theorem Bk.put (h : Bk w base Pr bb E E2 lo hi vb vo bat tn dn us) (j : Nat) (u : Value) {bat' : Nat} {tn' dn' : Int} {us' : Nat} (hc : ∀ cur, BkC cur vb vo bat tn dn us → BkC (cur.setIfInBounds j u) vb vo bat' tn' dn' us') :
    Bk (w.setCell ⟨bb, j, none⟩ u) base Pr bb E E2 lo hi vb vo bat' tn' dn' us' := by
  obtain ⟨cur, hh, hk⟩ := h.blk
  have hu : Upd (fun k => k = bb) w (w.setCell ⟨bb, j, none⟩ u) := (Upd.refl (fun k => k = bb) w).setCell (p := ⟨bb, j, none⟩) (fun _ => rfl) u
  have n1 : vb.ownBlock ≠ some bb := h.rows.not_at hh (by decide)
  have n2 : vo.ownBlock ≠ some bb := h.ofs.not_at hh (by decide)
  have n3 : ∀ e ∈ E, ¬ e.at_ bb := fun e he => (h.ent e he).not_at hh (by decide)
  refine ⟨⟨cur.setIfInBounds j u, ?_, hc cur hk⟩, h.bbge, h.rows.upd hu (fun k e s => n1 (by rw [e, s])), h.ofs.upd hu (fun k e s => n2 (by rw [e, s])),
    fun e he => (h.ent e he).upd hu (fun k hk s => n3 e he (by rw [← s]; exact hk)), h.ee, h.uq, fun k hp => ⟨Nat.lt_of_lt_of_le (h.pr k hp).1 hu.size, (h.pr k hp).2⟩, h.en⟩
  have hg : bb < w.heap.size := lt_of_block hh
  have hv : w.heap[bb] = .cells cur 63 (0, 0) := (Array.getElem?_eq_some_iff.1 hh).2
  show (w.heap.modify bb _)[bb]? = _
  rw [Array.getElem?_eq_getElem (by simpa using hg), Array.getElem_modify_self, hv]
  rfl
end
end Go.Proofs.YtnbpkignkfabkaaGreatDoor
namespace Go.Proofs.YtnbpkignkfabkaaGreatDoor
set_option linter.unusedVariables false
set_option linter.unusedSimpArgs false
open Go.RowKit
def zBook : Array Value := #[.slice none 0 0, .slice none 0 0, .int .i64 0, .slice none 0 0, .slice none 0 0, .int .i64 0, .slice none 0 0, .slice none 0 0, .int .i64 0, .slice none 0 0, .slice none 0 0, .int .i64 0, .slice none 0 0, .slice none 0 0, .int .i64 0, .slice none 0 0, .slice none 0 0, .int .i64 0, .slice none 0 0, .slice none 0 0, .int .i64 0, .slice none 0 0, .slice none 0 0, .int .i64 0, .slice none 0 0, .slice none 0 0, .int .i64 0, .slice none 0 0, .slice none 0 0, .int .i64 0, .slice none 0 0, .slice none 0 0, .int .i64 0, .slice none 0 0, .slice none 0 0, .int .i64 0, .slice none 0 0, .slice none 0 0, .int .i64 0, .slice none 0 0, .slice none 0 0, .int .i64 0, .slice none 0 0, .slice none 0 0, .int .i64 0, .slice none 0 0, .slice none 0 0, .int .i64 0, .slice none 0 0, .slice none 0 0, .int .i64 0, .slice none 0 0, .slice none 0 0, .int .i64 0, .slice none 0 0, .slice none 0 0, .int .i64 0, .slice none 0 0, .slice none 0 0, .int .i64 0, .slice none 0 0, .slice none 0 0, .int .i64 0, .slice none 0 0, .slice none 0 0, .int .i64 0, .slice none 0 0, .slice none 0 0, .int .i64 0, .slice none 0 0, .slice none 0 0, .int .i64 0, .int .i64 0, .int .i64 0, .int .i64 0]
theorem zBook_built : Tryz.prog.built 63 [] = some zBook := by kernel_rfl
theorem zBook_ok : BkC zBook (.slice none 0 0) (.slice none 0 0) 0 0 0 0 := by
  refine ⟨rfl, rfl, rfl, rfl, ?_, rfl, rfl, rfl⟩
  intro k h1 h2
  match k, h1, h2 with
  | 3, _, _ => rfl
  | 4, _, _ => rfl
  | 5, _, _ => rfl
  | 6, _, _ => rfl
  | 7, _, _ => rfl
  | 8, _, _ => rfl
  | 9, _, _ => rfl
  | 10, _, _ => rfl
  | 11, _, _ => rfl
  | 12, _, _ => rfl
  | 13, _, _ => rfl
  | 14, _, _ => rfl
  | 15, _, _ => rfl
  | 16, _, _ => rfl
  | 17, _, _ => rfl
  | 18, _, _ => rfl
  | 19, _, _ => rfl
  | 20, _, _ => rfl
  | 21, _, _ => rfl
  | 22, _, _ => rfl
  | 23, _, _ => rfl
  | 24, _, _ => rfl
  | 25, _, _ => rfl
  | 26, _, _ => rfl
  | 27, _, _ => rfl
  | 28, _, _ => rfl
  | 29, _, _ => rfl
  | 30, _, _ => rfl
  | 31, _, _ => rfl
  | 32, _, _ => rfl
  | 33, _, _ => rfl
  | 34, _, _ => rfl
  | 35, _, _ => rfl
  | 36, _, _ => rfl
  | 37, _, _ => rfl
  | 38, _, _ => rfl
  | 39, _, _ => rfl
  | 40, _, _ => rfl
  | 41, _, _ => rfl
  | 42, _, _ => rfl
  | 43, _, _ => rfl
  | 44, _, _ => rfl
  | 45, _, _ => rfl
  | 46, _, _ => rfl
  | 47, _, _ => rfl
  | 48, _, _ => rfl
  | 49, _, _ => rfl
  | 50, _, _ => rfl
  | 51, _, _ => rfl
  | 52, _, _ => rfl
  | 53, _, _ => rfl
  | 54, _, _ => rfl
  | 55, _, _ => rfl
  | 56, _, _ => rfl
  | 57, _, _ => rfl
  | 58, _, _ => rfl
  | 59, _, _ => rfl
  | 60, _, _ => rfl
  | 61, _, _ => rfl
  | 62, _, _ => rfl
  | 63, _, _ => rfl
  | 64, _, _ => rfl
  | 65, _, _ => rfl
  | 66, _, _ => rfl
  | 67, _, _ => rfl
  | 68, _, _ => rfl
  | 69, _, _ => rfl
  | 70, _, _ => rfl
  | 71, _, _ => rfl
  | k + 72, _, h => exact absurd h (by omega)
end Go.Proofs.YtnbpkignkfabkaaGreatDoor
