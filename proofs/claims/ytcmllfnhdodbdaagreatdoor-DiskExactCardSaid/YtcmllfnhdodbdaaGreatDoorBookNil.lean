/- posternlaw1.Book: the lists that nobody fills: nothing to look at, nothing to grow. -/
import Derived.Test.YtcmllfnhdodbdaaGreatDoorLend
namespace Go.Proofs.YtcmllfnhdodbdaaGreatDoor
set_option linter.unusedVariables false
set_option linter.unusedSimpArgs false
open Go.RowKit
/-- What stands at place k of a Book, from the second list on. -/
def nilAt (k : Nat) : Value := if k % 3 = 2 then .int .i64 0 else .slice none 0 0
/-- All lists but the first are empty; nothing of the book is frozen. -/
structure NilB (w : World) (bb : Nat) : Prop where
  cell : ∀ k, 3 ≤ k → k < 72 → w.cell? ⟨bb, k, none⟩ = some (nilAt k)
  froz : ∀ k, k < 75 → w.frozen? ⟨bb, k, none⟩ = false
theorem setSame (c : Array Value) (o : Nat) (v : Value) (h : c[o]? = some v) : c.setIfInBounds o v = c := by
  apply Array.ext_getElem?
  intro i
  rw [Array.getElem?_setIfInBounds]
  split
  · next e => subst e; split; exact h.symm; rw [Array.getElem?_eq_none (by omega)]
  · rfl
theorem setCell_same {w : World} {b o : Nat} {v : Value} (h : w.cell? ⟨b, o, none⟩ = some v) : w.setCell ⟨b, o, none⟩ v = w := by
  have e : (w.setCell ⟨b, o, none⟩ v).heap = w.heap := by
    apply Array.ext_getElem?
    intro i
    show (w.heap.modify b _)[i]? = _
    rw [Array.getElem?_modify]
    split
    · next e =>
      subst e
      unfold World.cell? at h
      cases hh : w.heap[b]? with
      | none => rfl
      | some x =>
        rw [hh] at h
        cases x with
        | cells c e f =>
          have h' : c[o]? = some v := by simpa using h
          simp [setSame c o v h']
        | _ => rfl
    · rfl
  have : ∀ a b : World, a.heap = b.heap → a.tape = b.tape → a.drawn = b.drawn → a.os = b.os → a.output = b.output → a = b := by
    intro a b h1 h2 h3 h4 h5
    cases a; cases b
    simp_all
  exact this _ _ e rfl rfl rfl rfl
set_option maxRecDepth 100000 in
set_option maxHeartbeats 1000000 in
theorem kept_calls (bb : Nat) (w : World) (h : NilB w bb) : Calls Tryz.prog 121 #[.pointer (some ⟨bb, 0, none⟩)] w fun r w' => r = .returned (.bool true) ∧ w = w' := by
  have c6 : w.cell? ⟨bb, 6, none⟩ = some (.slice none 0 0) := h.cell 6 (by decide) (by decide)
  have c9 : w.cell? ⟨bb, 9, none⟩ = some (.slice none 0 0) := h.cell 9 (by decide) (by decide)
  have c12 : w.cell? ⟨bb, 12, none⟩ = some (.slice none 0 0) := h.cell 12 (by decide) (by decide)
  have c15 : w.cell? ⟨bb, 15, none⟩ = some (.slice none 0 0) := h.cell 15 (by decide) (by decide)
  have t0 : decide ((0 : Int) < 0) = false := by decide
  clear h
  go_enter Tryz.func121, Tryz.ntmps121
  go_wp2
  go_loop [3] (fun i => i = .int .i64 0) (fun _ => 0)
  case atStart => rfl
  case round =>
  obtain rfl := hrel
  go_wp2
  go_loop [5] (fun i => i = .int .i64 0) (fun _ => 0)
  case atStart => rfl
  case round =>
  obtain rfl := hrel
  go_wp2
  go_loop [7] (fun i => i = .int .i64 0) (fun _ => 0)
  case atStart => rfl
  case round =>
  obtain rfl := hrel
  go_wp2
  go_loop [9] (fun i => i = .int .i64 0) (fun _ => 0)
  case atStart => rfl
  case round =>
  obtain rfl := hrel
  go_wp2
  go_ret
  exact ⟨rfl, rfl⟩
set_option maxRecDepth 100000 in
set_option maxHeartbeats 1000000 in
theorem told_calls (bb : Nat) (w : World) (h : NilB w bb) : Calls Tryz.prog 122 #[.pointer (some ⟨bb, 0, none⟩)] w fun r w' => r = .returned (.bool true) ∧ w = w' := by
  have c18 : w.cell? ⟨bb, 18, none⟩ = some (.slice none 0 0) := h.cell 18 (by decide) (by decide)
  have c21 : w.cell? ⟨bb, 21, none⟩ = some (.slice none 0 0) := h.cell 21 (by decide) (by decide)
  have c24 : w.cell? ⟨bb, 24, none⟩ = some (.slice none 0 0) := h.cell 24 (by decide) (by decide)
  have c27 : w.cell? ⟨bb, 27, none⟩ = some (.slice none 0 0) := h.cell 27 (by decide) (by decide)
  have t0 : decide ((0 : Int) < 0) = false := by decide
  clear h
  go_enter Tryz.func122, Tryz.ntmps122
  go_wp2
  go_loop [3] (fun i => i = .int .i64 0) (fun _ => 0)
  case atStart => rfl
  case round =>
  obtain rfl := hrel
  go_wp2
  go_loop [5] (fun i => i = .int .i64 0) (fun _ => 0)
  case atStart => rfl
  case round =>
  obtain rfl := hrel
  go_wp2
  go_loop [7] (fun i => i = .int .i64 0) (fun _ => 0)
  case atStart => rfl
  case round =>
  obtain rfl := hrel
  go_wp2
  go_loop [9] (fun i => i = .int .i64 0) (fun _ => 0)
  case atStart => rfl
  case round =>
  obtain rfl := hrel
  go_wp2
  go_ret
  exact ⟨rfl, rfl⟩
set_option maxRecDepth 100000 in
set_option maxHeartbeats 1000000 in
theorem held_calls (bb : Nat) (w : World) (h : NilB w bb) : Calls Tryz.prog 123 #[.pointer (some ⟨bb, 0, none⟩)] w fun r w' => r = .returned (.bool true) ∧ w = w' := by
  have c30 : w.cell? ⟨bb, 30, none⟩ = some (.slice none 0 0) := h.cell 30 (by decide) (by decide)
  have c33 : w.cell? ⟨bb, 33, none⟩ = some (.slice none 0 0) := h.cell 33 (by decide) (by decide)
  have c36 : w.cell? ⟨bb, 36, none⟩ = some (.slice none 0 0) := h.cell 36 (by decide) (by decide)
  have c39 : w.cell? ⟨bb, 39, none⟩ = some (.slice none 0 0) := h.cell 39 (by decide) (by decide)
  have t0 : decide ((0 : Int) < 0) = false := by decide
  clear h
  go_enter Tryz.func123, Tryz.ntmps123
  go_wp2
  go_loop [3] (fun i => i = .int .i64 0) (fun _ => 0)
  case atStart => rfl
  case round =>
  obtain rfl := hrel
  go_wp2
  go_loop [5] (fun i => i = .int .i64 0) (fun _ => 0)
  case atStart => rfl
  case round =>
  obtain rfl := hrel
  go_wp2
  go_loop [7] (fun i => i = .int .i64 0) (fun _ => 0)
  case atStart => rfl
  case round =>
  obtain rfl := hrel
  go_wp2
  go_loop [11] (fun i => i = .int .i64 0) (fun _ => 0)
  case atStart => rfl
  case round =>
  obtain rfl := hrel
  go_wp2
  go_ret
  exact ⟨rfl, rfl⟩
set_option maxRecDepth 100000 in
set_option maxHeartbeats 1000000 in
theorem sent_calls (bb : Nat) (w : World) (h : NilB w bb) : Calls Tryz.prog 124 #[.pointer (some ⟨bb, 0, none⟩)] w fun r w' => r = .returned (.bool true) ∧ w = w' := by
  have c42 : w.cell? ⟨bb, 42, none⟩ = some (.slice none 0 0) := h.cell 42 (by decide) (by decide)
  have c45 : w.cell? ⟨bb, 45, none⟩ = some (.slice none 0 0) := h.cell 45 (by decide) (by decide)
  have c48 : w.cell? ⟨bb, 48, none⟩ = some (.slice none 0 0) := h.cell 48 (by decide) (by decide)
  have c51 : w.cell? ⟨bb, 51, none⟩ = some (.slice none 0 0) := h.cell 51 (by decide) (by decide)
  have t0 : decide ((0 : Int) < 0) = false := by decide
  clear h
  go_enter Tryz.func124, Tryz.ntmps124
  go_wp2
  go_loop [3] (fun i => i = .int .i64 0) (fun _ => 0)
  case atStart => rfl
  case round =>
  obtain rfl := hrel
  go_wp2
  go_loop [7] (fun i => i = .int .i64 0) (fun _ => 0)
  case atStart => rfl
  case round =>
  obtain rfl := hrel
  go_wp2
  go_loop [11] (fun i => i = .int .i64 0) (fun _ => 0)
  case atStart => rfl
  case round =>
  obtain rfl := hrel
  go_wp2
  go_loop [15] (fun i => i = .int .i64 0) (fun _ => 0)
  case atStart => rfl
  case round =>
  obtain rfl := hrel
  go_wp2
  go_ret
  exact ⟨rfl, rfl⟩
set_option maxRecDepth 100000 in
set_option maxHeartbeats 1000000 in
theorem given_calls (bb : Nat) (w : World) (h : NilB w bb) : Calls Tryz.prog 125 #[.pointer (some ⟨bb, 0, none⟩)] w fun r w' => r = .returned (.bool true) ∧ w = w' := by
  have c54 : w.cell? ⟨bb, 54, none⟩ = some (.slice none 0 0) := h.cell 54 (by decide) (by decide)
  have c57 : w.cell? ⟨bb, 57, none⟩ = some (.slice none 0 0) := h.cell 57 (by decide) (by decide)
  have c60 : w.cell? ⟨bb, 60, none⟩ = some (.slice none 0 0) := h.cell 60 (by decide) (by decide)
  have c63 : w.cell? ⟨bb, 63, none⟩ = some (.slice none 0 0) := h.cell 63 (by decide) (by decide)
  have t0 : decide ((0 : Int) < 0) = false := by decide
  clear h
  go_enter Tryz.func125, Tryz.ntmps125
  go_wp2
  go_loop [3] (fun i => i = .int .i64 0) (fun _ => 0)
  case atStart => rfl
  case round =>
  obtain rfl := hrel
  go_wp2
  go_loop [7] (fun i => i = .int .i64 0) (fun _ => 0)
  case atStart => rfl
  case round =>
  obtain rfl := hrel
  go_wp2
  go_loop [11] (fun i => i = .int .i64 0) (fun _ => 0)
  case atStart => rfl
  case round =>
  obtain rfl := hrel
  go_wp2
  go_loop [15] (fun i => i = .int .i64 0) (fun _ => 0)
  case atStart => rfl
  case round =>
  obtain rfl := hrel
  go_wp2
  go_ret
  exact ⟨rfl, rfl⟩
set_option maxRecDepth 100000 in
set_option maxHeartbeats 1000000 in
theorem seen_calls (bb : Nat) (w : World) (h : NilB w bb) : Calls Tryz.prog 126 #[.pointer (some ⟨bb, 0, none⟩)] w fun r w' => r = .returned (.bool true) ∧ w = w' := by
  have c66 : w.cell? ⟨bb, 66, none⟩ = some (.slice none 0 0) := h.cell 66 (by decide) (by decide)
  have c69 : w.cell? ⟨bb, 69, none⟩ = some (.slice none 0 0) := h.cell 69 (by decide) (by decide)
  have t0 : decide ((0 : Int) < 0) = false := by decide
  clear h
  go_enter Tryz.func126, Tryz.ntmps126
  go_wp2
  go_loop [3] (fun i => i = .int .i64 0) (fun _ => 0)
  case atStart => rfl
  case round =>
  obtain rfl := hrel
  go_wp2
  go_loop [7] (fun i => i = .int .i64 0) (fun _ => 0)
  case atStart => rfl
  case round =>
  obtain rfl := hrel
  go_wp2
  go_ret
  exact ⟨rfl, rfl⟩
set_option maxRecDepth 100000 in
set_option maxHeartbeats 1000000 in
theorem growRows_calls (bb : Nat) (w : World) (h : NilB w bb) : Calls Tryz.prog 128 #[.pointer (some ⟨bb, 0, none⟩)] w fun r w' => r = .returned (.tuple #[]) ∧ w = w' := by
  have c0 : w.cell? ⟨bb, 3, none⟩ = some (.slice none 0 0) := h.cell 3 (by decide) (by decide)
  have c2 : w.cell? ⟨bb, 5, none⟩ = some (.int .i64 0) := h.cell 5 (by decide) (by decide)
  have f2 : w.frozen? ⟨bb, 5, none⟩ = false := h.froz 5 (by decide)
  have t0 : decide ((0 : Int) < 0) = false := by decide
  have E := Lib.hid (setCell_same c2)
  clear h
  go_enter Tryz.func128, Tryz.ntmps128
  go_wp2
  go_loop [3] (fun i => i = .int .i64 0) (fun _ => 0)
  case atStart => rfl
  case round =>
  obtain rfl := hrel
  go_wp2
  go_end0
  exact ⟨rfl, E.out.symm⟩
set_option maxRecDepth 100000 in
set_option maxHeartbeats 1000000 in
theorem growTexts_calls (bb : Nat) (w : World) (h : NilB w bb) : Calls Tryz.prog 129 #[.pointer (some ⟨bb, 0, none⟩)] w fun r w' => r = .returned (.tuple #[]) ∧ w = w' := by
  have c0 : w.cell? ⟨bb, 6, none⟩ = some (.slice none 0 0) := h.cell 6 (by decide) (by decide)
  have c2 : w.cell? ⟨bb, 8, none⟩ = some (.int .i64 0) := h.cell 8 (by decide) (by decide)
  have f2 : w.frozen? ⟨bb, 8, none⟩ = false := h.froz 8 (by decide)
  have t0 : decide ((0 : Int) < 0) = false := by decide
  have E := Lib.hid (setCell_same c2)
  clear h
  go_enter Tryz.func129, Tryz.ntmps129
  go_wp2
  go_loop [3] (fun i => i = .int .i64 0) (fun _ => 0)
  case atStart => rfl
  case round =>
  obtain rfl := hrel
  go_wp2
  go_end0
  exact ⟨rfl, E.out.symm⟩
set_option maxRecDepth 100000 in
set_option maxHeartbeats 1000000 in
theorem growInts_calls (bb : Nat) (w : World) (h : NilB w bb) : Calls Tryz.prog 130 #[.pointer (some ⟨bb, 0, none⟩)] w fun r w' => r = .returned (.tuple #[]) ∧ w = w' := by
  have c0 : w.cell? ⟨bb, 9, none⟩ = some (.slice none 0 0) := h.cell 9 (by decide) (by decide)
  have c2 : w.cell? ⟨bb, 11, none⟩ = some (.int .i64 0) := h.cell 11 (by decide) (by decide)
  have f2 : w.frozen? ⟨bb, 11, none⟩ = false := h.froz 11 (by decide)
  have t0 : decide ((0 : Int) < 0) = false := by decide
  have E := Lib.hid (setCell_same c2)
  clear h
  go_enter Tryz.func130, Tryz.ntmps130
  go_wp2
  go_loop [3] (fun i => i = .int .i64 0) (fun _ => 0)
  case atStart => rfl
  case round =>
  obtain rfl := hrel
  go_wp2
  go_end0
  exact ⟨rfl, E.out.symm⟩
set_option maxRecDepth 100000 in
set_option maxHeartbeats 1000000 in
theorem growWords_calls (bb : Nat) (w : World) (h : NilB w bb) : Calls Tryz.prog 131 #[.pointer (some ⟨bb, 0, none⟩)] w fun r w' => r = .returned (.tuple #[]) ∧ w = w' := by
  have c0 : w.cell? ⟨bb, 12, none⟩ = some (.slice none 0 0) := h.cell 12 (by decide) (by decide)
  have c2 : w.cell? ⟨bb, 14, none⟩ = some (.int .i64 0) := h.cell 14 (by decide) (by decide)
  have f2 : w.frozen? ⟨bb, 14, none⟩ = false := h.froz 14 (by decide)
  have t0 : decide ((0 : Int) < 0) = false := by decide
  have E := Lib.hid (setCell_same c2)
  clear h
  go_enter Tryz.func131, Tryz.ntmps131
  go_wp2
  go_loop [3] (fun i => i = .int .i64 0) (fun _ => 0)
  case atStart => rfl
  case round =>
  obtain rfl := hrel
  go_wp2
  go_end0
  exact ⟨rfl, E.out.symm⟩
set_option maxRecDepth 100000 in
set_option maxHeartbeats 1000000 in
theorem growIds_calls (bb : Nat) (w : World) (h : NilB w bb) : Calls Tryz.prog 132 #[.pointer (some ⟨bb, 0, none⟩)] w fun r w' => r = .returned (.tuple #[]) ∧ w = w' := by
  have c0 : w.cell? ⟨bb, 15, none⟩ = some (.slice none 0 0) := h.cell 15 (by decide) (by decide)
  have c2 : w.cell? ⟨bb, 17, none⟩ = some (.int .i64 0) := h.cell 17 (by decide) (by decide)
  have f2 : w.frozen? ⟨bb, 17, none⟩ = false := h.froz 17 (by decide)
  have t0 : decide ((0 : Int) < 0) = false := by decide
  have E := Lib.hid (setCell_same c2)
  clear h
  go_enter Tryz.func132, Tryz.ntmps132
  go_wp2
  go_loop [3] (fun i => i = .int .i64 0) (fun _ => 0)
  case atStart => rfl
  case round =>
  obtain rfl := hrel
  go_wp2
  go_end0
  exact ⟨rfl, E.out.symm⟩
set_option maxRecDepth 100000 in
set_option maxHeartbeats 1000000 in
theorem growKeys_calls (bb : Nat) (w : World) (h : NilB w bb) : Calls Tryz.prog 133 #[.pointer (some ⟨bb, 0, none⟩)] w fun r w' => r = .returned (.tuple #[]) ∧ w = w' := by
  have c0 : w.cell? ⟨bb, 18, none⟩ = some (.slice none 0 0) := h.cell 18 (by decide) (by decide)
  have c2 : w.cell? ⟨bb, 20, none⟩ = some (.int .i64 0) := h.cell 20 (by decide) (by decide)
  have f2 : w.frozen? ⟨bb, 20, none⟩ = false := h.froz 20 (by decide)
  have t0 : decide ((0 : Int) < 0) = false := by decide
  have E := Lib.hid (setCell_same c2)
  clear h
  go_enter Tryz.func133, Tryz.ntmps133
  go_wp2
  go_loop [3] (fun i => i = .int .i64 0) (fun _ => 0)
  case atStart => rfl
  case round =>
  obtain rfl := hrel
  go_wp2
  go_end0
  exact ⟨rfl, E.out.symm⟩
set_option maxRecDepth 100000 in
set_option maxHeartbeats 1000000 in
theorem growUsers_calls (bb : Nat) (w : World) (h : NilB w bb) : Calls Tryz.prog 134 #[.pointer (some ⟨bb, 0, none⟩)] w fun r w' => r = .returned (.tuple #[]) ∧ w = w' := by
  have c0 : w.cell? ⟨bb, 21, none⟩ = some (.slice none 0 0) := h.cell 21 (by decide) (by decide)
  have c2 : w.cell? ⟨bb, 23, none⟩ = some (.int .i64 0) := h.cell 23 (by decide) (by decide)
  have f2 : w.frozen? ⟨bb, 23, none⟩ = false := h.froz 23 (by decide)
  have t0 : decide ((0 : Int) < 0) = false := by decide
  have E := Lib.hid (setCell_same c2)
  clear h
  go_enter Tryz.func134, Tryz.ntmps134
  go_wp2
  go_loop [3] (fun i => i = .int .i64 0) (fun _ => 0)
  case atStart => rfl
  case round =>
  obtain rfl := hrel
  go_wp2
  go_end0
  exact ⟨rfl, E.out.symm⟩
set_option maxRecDepth 100000 in
set_option maxHeartbeats 1000000 in
theorem growSessions_calls (bb : Nat) (w : World) (h : NilB w bb) : Calls Tryz.prog 135 #[.pointer (some ⟨bb, 0, none⟩)] w fun r w' => r = .returned (.tuple #[]) ∧ w = w' := by
  have c0 : w.cell? ⟨bb, 24, none⟩ = some (.slice none 0 0) := h.cell 24 (by decide) (by decide)
  have c2 : w.cell? ⟨bb, 26, none⟩ = some (.int .i64 0) := h.cell 26 (by decide) (by decide)
  have f2 : w.frozen? ⟨bb, 26, none⟩ = false := h.froz 26 (by decide)
  have t0 : decide ((0 : Int) < 0) = false := by decide
  have E := Lib.hid (setCell_same c2)
  clear h
  go_enter Tryz.func135, Tryz.ntmps135
  go_wp2
  go_loop [3] (fun i => i = .int .i64 0) (fun _ => 0)
  case atStart => rfl
  case round =>
  obtain rfl := hrel
  go_wp2
  go_end0
  exact ⟨rfl, E.out.symm⟩
set_option maxRecDepth 100000 in
set_option maxHeartbeats 1000000 in
theorem growRefreshes_calls (bb : Nat) (w : World) (h : NilB w bb) : Calls Tryz.prog 136 #[.pointer (some ⟨bb, 0, none⟩)] w fun r w' => r = .returned (.tuple #[]) ∧ w = w' := by
  have c0 : w.cell? ⟨bb, 27, none⟩ = some (.slice none 0 0) := h.cell 27 (by decide) (by decide)
  have c2 : w.cell? ⟨bb, 29, none⟩ = some (.int .i64 0) := h.cell 29 (by decide) (by decide)
  have f2 : w.frozen? ⟨bb, 29, none⟩ = false := h.froz 29 (by decide)
  have t0 : decide ((0 : Int) < 0) = false := by decide
  have E := Lib.hid (setCell_same c2)
  clear h
  go_enter Tryz.func136, Tryz.ntmps136
  go_wp2
  go_loop [3] (fun i => i = .int .i64 0) (fun _ => 0)
  case atStart => rfl
  case round =>
  obtain rfl := hrel
  go_wp2
  go_end0
  exact ⟨rfl, E.out.symm⟩
set_option maxRecDepth 100000 in
set_option maxHeartbeats 1000000 in
theorem growRevokeds_calls (bb : Nat) (w : World) (h : NilB w bb) : Calls Tryz.prog 137 #[.pointer (some ⟨bb, 0, none⟩)] w fun r w' => r = .returned (.tuple #[]) ∧ w = w' := by
  have c0 : w.cell? ⟨bb, 30, none⟩ = some (.slice none 0 0) := h.cell 30 (by decide) (by decide)
  have c2 : w.cell? ⟨bb, 32, none⟩ = some (.int .i64 0) := h.cell 32 (by decide) (by decide)
  have f2 : w.frozen? ⟨bb, 32, none⟩ = false := h.froz 32 (by decide)
  have t0 : decide ((0 : Int) < 0) = false := by decide
  have E := Lib.hid (setCell_same c2)
  clear h
  go_enter Tryz.func137, Tryz.ntmps137
  go_wp2
  go_loop [3] (fun i => i = .int .i64 0) (fun _ => 0)
  case atStart => rfl
  case round =>
  obtain rfl := hrel
  go_wp2
  go_end0
  exact ⟨rfl, E.out.symm⟩
set_option maxRecDepth 100000 in
set_option maxHeartbeats 1000000 in
theorem growFields_calls (bb : Nat) (w : World) (h : NilB w bb) : Calls Tryz.prog 138 #[.pointer (some ⟨bb, 0, none⟩)] w fun r w' => r = .returned (.tuple #[]) ∧ w = w' := by
  have c0 : w.cell? ⟨bb, 33, none⟩ = some (.slice none 0 0) := h.cell 33 (by decide) (by decide)
  have c2 : w.cell? ⟨bb, 35, none⟩ = some (.int .i64 0) := h.cell 35 (by decide) (by decide)
  have f2 : w.frozen? ⟨bb, 35, none⟩ = false := h.froz 35 (by decide)
  have t0 : decide ((0 : Int) < 0) = false := by decide
  have E := Lib.hid (setCell_same c2)
  clear h
  go_enter Tryz.func138, Tryz.ntmps138
  go_wp2
  go_loop [3] (fun i => i = .int .i64 0) (fun _ => 0)
  case atStart => rfl
  case round =>
  obtain rfl := hrel
  go_wp2
  go_end0
  exact ⟨rfl, E.out.symm⟩
set_option maxRecDepth 100000 in
set_option maxHeartbeats 1000000 in
theorem growFiles_calls (bb : Nat) (w : World) (h : NilB w bb) : Calls Tryz.prog 139 #[.pointer (some ⟨bb, 0, none⟩)] w fun r w' => r = .returned (.tuple #[]) ∧ w = w' := by
  have c0 : w.cell? ⟨bb, 36, none⟩ = some (.slice none 0 0) := h.cell 36 (by decide) (by decide)
  have c2 : w.cell? ⟨bb, 38, none⟩ = some (.int .i64 0) := h.cell 38 (by decide) (by decide)
  have f2 : w.frozen? ⟨bb, 38, none⟩ = false := h.froz 38 (by decide)
  have t0 : decide ((0 : Int) < 0) = false := by decide
  have E := Lib.hid (setCell_same c2)
  clear h
  go_enter Tryz.func139, Tryz.ntmps139
  go_wp2
  go_loop [3] (fun i => i = .int .i64 0) (fun _ => 0)
  case atStart => rfl
  case round =>
  obtain rfl := hrel
  go_wp2
  go_end0
  exact ⟨rfl, E.out.symm⟩
set_option maxRecDepth 100000 in
set_option maxHeartbeats 1000000 in
theorem growPairs_calls (bb : Nat) (w : World) (h : NilB w bb) : Calls Tryz.prog 140 #[.pointer (some ⟨bb, 0, none⟩)] w fun r w' => r = .returned (.tuple #[]) ∧ w = w' := by
  have c0 : w.cell? ⟨bb, 39, none⟩ = some (.slice none 0 0) := h.cell 39 (by decide) (by decide)
  have c2 : w.cell? ⟨bb, 41, none⟩ = some (.int .i64 0) := h.cell 41 (by decide) (by decide)
  have f2 : w.frozen? ⟨bb, 41, none⟩ = false := h.froz 41 (by decide)
  have t0 : decide ((0 : Int) < 0) = false := by decide
  have E := Lib.hid (setCell_same c2)
  clear h
  go_enter Tryz.func140, Tryz.ntmps140
  go_wp2
  go_loop [3] (fun i => i = .int .i64 0) (fun _ => 0)
  case atStart => rfl
  case round =>
  obtain rfl := hrel
  go_wp2
  go_end0
  exact ⟨rfl, E.out.symm⟩
set_option maxRecDepth 100000 in
set_option maxHeartbeats 1000000 in
theorem growChanges_calls (bb : Nat) (w : World) (h : NilB w bb) : Calls Tryz.prog 141 #[.pointer (some ⟨bb, 0, none⟩)] w fun r w' => r = .returned (.tuple #[]) ∧ w = w' := by
  have c0 : w.cell? ⟨bb, 42, none⟩ = some (.slice none 0 0) := h.cell 42 (by decide) (by decide)
  have c2 : w.cell? ⟨bb, 44, none⟩ = some (.int .i64 0) := h.cell 44 (by decide) (by decide)
  have f2 : w.frozen? ⟨bb, 44, none⟩ = false := h.froz 44 (by decide)
  have t0 : decide ((0 : Int) < 0) = false := by decide
  have E := Lib.hid (setCell_same c2)
  clear h
  go_enter Tryz.func141, Tryz.ntmps141
  go_wp2
  go_loop [3] (fun i => i = .int .i64 0) (fun _ => 0)
  case atStart => rfl
  case round =>
  obtain rfl := hrel
  go_wp2
  go_end0
  exact ⟨rfl, E.out.symm⟩
set_option maxRecDepth 100000 in
set_option maxHeartbeats 1000000 in
theorem growValues_calls (bb : Nat) (w : World) (h : NilB w bb) : Calls Tryz.prog 142 #[.pointer (some ⟨bb, 0, none⟩)] w fun r w' => r = .returned (.tuple #[]) ∧ w = w' := by
  have c0 : w.cell? ⟨bb, 45, none⟩ = some (.slice none 0 0) := h.cell 45 (by decide) (by decide)
  have c2 : w.cell? ⟨bb, 47, none⟩ = some (.int .i64 0) := h.cell 47 (by decide) (by decide)
  have f2 : w.frozen? ⟨bb, 47, none⟩ = false := h.froz 47 (by decide)
  have t0 : decide ((0 : Int) < 0) = false := by decide
  have E := Lib.hid (setCell_same c2)
  clear h
  go_enter Tryz.func142, Tryz.ntmps142
  go_wp2
  go_loop [3] (fun i => i = .int .i64 0) (fun _ => 0)
  case atStart => rfl
  case round =>
  obtain rfl := hrel
  go_wp2
  go_end0
  exact ⟨rfl, E.out.symm⟩
set_option maxRecDepth 100000 in
set_option maxHeartbeats 1000000 in
theorem growClients_calls (bb : Nat) (w : World) (h : NilB w bb) : Calls Tryz.prog 143 #[.pointer (some ⟨bb, 0, none⟩)] w fun r w' => r = .returned (.tuple #[]) ∧ w = w' := by
  have c0 : w.cell? ⟨bb, 48, none⟩ = some (.slice none 0 0) := h.cell 48 (by decide) (by decide)
  have c2 : w.cell? ⟨bb, 50, none⟩ = some (.int .i64 0) := h.cell 50 (by decide) (by decide)
  have f2 : w.frozen? ⟨bb, 50, none⟩ = false := h.froz 50 (by decide)
  have t0 : decide ((0 : Int) < 0) = false := by decide
  have E := Lib.hid (setCell_same c2)
  clear h
  go_enter Tryz.func143, Tryz.ntmps143
  go_wp2
  go_loop [3] (fun i => i = .int .i64 0) (fun _ => 0)
  case atStart => rfl
  case round =>
  obtain rfl := hrel
  go_wp2
  go_end0
  exact ⟨rfl, E.out.symm⟩
set_option maxRecDepth 100000 in
set_option maxHeartbeats 1000000 in
theorem growConsents_calls (bb : Nat) (w : World) (h : NilB w bb) : Calls Tryz.prog 144 #[.pointer (some ⟨bb, 0, none⟩)] w fun r w' => r = .returned (.tuple #[]) ∧ w = w' := by
  have c0 : w.cell? ⟨bb, 51, none⟩ = some (.slice none 0 0) := h.cell 51 (by decide) (by decide)
  have c2 : w.cell? ⟨bb, 53, none⟩ = some (.int .i64 0) := h.cell 53 (by decide) (by decide)
  have f2 : w.frozen? ⟨bb, 53, none⟩ = false := h.froz 53 (by decide)
  have t0 : decide ((0 : Int) < 0) = false := by decide
  have E := Lib.hid (setCell_same c2)
  clear h
  go_enter Tryz.func144, Tryz.ntmps144
  go_wp2
  go_loop [3] (fun i => i = .int .i64 0) (fun _ => 0)
  case atStart => rfl
  case round =>
  obtain rfl := hrel
  go_wp2
  go_end0
  exact ⟨rfl, E.out.symm⟩
set_option maxRecDepth 100000 in
set_option maxHeartbeats 1000000 in
theorem growCodes_calls (bb : Nat) (w : World) (h : NilB w bb) : Calls Tryz.prog 145 #[.pointer (some ⟨bb, 0, none⟩)] w fun r w' => r = .returned (.tuple #[]) ∧ w = w' := by
  have c0 : w.cell? ⟨bb, 54, none⟩ = some (.slice none 0 0) := h.cell 54 (by decide) (by decide)
  have c2 : w.cell? ⟨bb, 56, none⟩ = some (.int .i64 0) := h.cell 56 (by decide) (by decide)
  have f2 : w.frozen? ⟨bb, 56, none⟩ = false := h.froz 56 (by decide)
  have t0 : decide ((0 : Int) < 0) = false := by decide
  have E := Lib.hid (setCell_same c2)
  clear h
  go_enter Tryz.func145, Tryz.ntmps145
  go_wp2
  go_loop [3] (fun i => i = .int .i64 0) (fun _ => 0)
  case atStart => rfl
  case round =>
  obtain rfl := hrel
  go_wp2
  go_end0
  exact ⟨rfl, E.out.symm⟩
set_option maxRecDepth 100000 in
set_option maxHeartbeats 1000000 in
theorem growGrants_calls (bb : Nat) (w : World) (h : NilB w bb) : Calls Tryz.prog 146 #[.pointer (some ⟨bb, 0, none⟩)] w fun r w' => r = .returned (.tuple #[]) ∧ w = w' := by
  have c0 : w.cell? ⟨bb, 57, none⟩ = some (.slice none 0 0) := h.cell 57 (by decide) (by decide)
  have c2 : w.cell? ⟨bb, 59, none⟩ = some (.int .i64 0) := h.cell 59 (by decide) (by decide)
  have f2 : w.frozen? ⟨bb, 59, none⟩ = false := h.froz 59 (by decide)
  have t0 : decide ((0 : Int) < 0) = false := by decide
  have E := Lib.hid (setCell_same c2)
  clear h
  go_enter Tryz.func146, Tryz.ntmps146
  go_wp2
  go_loop [3] (fun i => i = .int .i64 0) (fun _ => 0)
  case atStart => rfl
  case round =>
  obtain rfl := hrel
  go_wp2
  go_end0
  exact ⟨rfl, E.out.symm⟩
set_option maxRecDepth 100000 in
set_option maxHeartbeats 1000000 in
theorem growClaims_calls (bb : Nat) (w : World) (h : NilB w bb) : Calls Tryz.prog 147 #[.pointer (some ⟨bb, 0, none⟩)] w fun r w' => r = .returned (.tuple #[]) ∧ w = w' := by
  have c0 : w.cell? ⟨bb, 60, none⟩ = some (.slice none 0 0) := h.cell 60 (by decide) (by decide)
  have c2 : w.cell? ⟨bb, 62, none⟩ = some (.int .i64 0) := h.cell 62 (by decide) (by decide)
  have f2 : w.frozen? ⟨bb, 62, none⟩ = false := h.froz 62 (by decide)
  have t0 : decide ((0 : Int) < 0) = false := by decide
  have E := Lib.hid (setCell_same c2)
  clear h
  go_enter Tryz.func147, Tryz.ntmps147
  go_wp2
  go_loop [3] (fun i => i = .int .i64 0) (fun _ => 0)
  case atStart => rfl
  case round =>
  obtain rfl := hrel
  go_wp2
  go_end0
  exact ⟨rfl, E.out.symm⟩
set_option maxRecDepth 100000 in
set_option maxHeartbeats 1000000 in
theorem growRoutes_calls (bb : Nat) (w : World) (h : NilB w bb) : Calls Tryz.prog 148 #[.pointer (some ⟨bb, 0, none⟩)] w fun r w' => r = .returned (.tuple #[]) ∧ w = w' := by
  have c0 : w.cell? ⟨bb, 63, none⟩ = some (.slice none 0 0) := h.cell 63 (by decide) (by decide)
  have c2 : w.cell? ⟨bb, 65, none⟩ = some (.int .i64 0) := h.cell 65 (by decide) (by decide)
  have f2 : w.frozen? ⟨bb, 65, none⟩ = false := h.froz 65 (by decide)
  have t0 : decide ((0 : Int) < 0) = false := by decide
  have E := Lib.hid (setCell_same c2)
  clear h
  go_enter Tryz.func148, Tryz.ntmps148
  go_wp2
  go_loop [3] (fun i => i = .int .i64 0) (fun _ => 0)
  case atStart => rfl
  case round =>
  obtain rfl := hrel
  go_wp2
  go_end0
  exact ⟨rfl, E.out.symm⟩
set_option maxRecDepth 100000 in
set_option maxHeartbeats 1000000 in
theorem growAnswers_calls (bb : Nat) (w : World) (h : NilB w bb) : Calls Tryz.prog 149 #[.pointer (some ⟨bb, 0, none⟩)] w fun r w' => r = .returned (.tuple #[]) ∧ w = w' := by
  have c0 : w.cell? ⟨bb, 66, none⟩ = some (.slice none 0 0) := h.cell 66 (by decide) (by decide)
  have c2 : w.cell? ⟨bb, 68, none⟩ = some (.int .i64 0) := h.cell 68 (by decide) (by decide)
  have f2 : w.frozen? ⟨bb, 68, none⟩ = false := h.froz 68 (by decide)
  have t0 : decide ((0 : Int) < 0) = false := by decide
  have E := Lib.hid (setCell_same c2)
  clear h
  go_enter Tryz.func149, Tryz.ntmps149
  go_wp2
  go_loop [3] (fun i => i = .int .i64 0) (fun _ => 0)
  case atStart => rfl
  case round =>
  obtain rfl := hrel
  go_wp2
  go_end0
  exact ⟨rfl, E.out.symm⟩
set_option maxRecDepth 100000 in
set_option maxHeartbeats 1000000 in
theorem growHelds_calls (bb : Nat) (w : World) (h : NilB w bb) : Calls Tryz.prog 150 #[.pointer (some ⟨bb, 0, none⟩)] w fun r w' => r = .returned (.tuple #[]) ∧ w = w' := by
  have c0 : w.cell? ⟨bb, 69, none⟩ = some (.slice none 0 0) := h.cell 69 (by decide) (by decide)
  have c2 : w.cell? ⟨bb, 71, none⟩ = some (.int .i64 0) := h.cell 71 (by decide) (by decide)
  have f2 : w.frozen? ⟨bb, 71, none⟩ = false := h.froz 71 (by decide)
  have t0 : decide ((0 : Int) < 0) = false := by decide
  have E := Lib.hid (setCell_same c2)
  clear h
  go_enter Tryz.func150, Tryz.ntmps150
  go_wp2
  go_loop [3] (fun i => i = .int .i64 0) (fun _ => 0)
  case atStart => rfl
  case round =>
  obtain rfl := hrel
  go_wp2
  go_end0
  exact ⟨rfl, E.out.symm⟩
end Go.Proofs.YtcmllfnhdodbdaaGreatDoor
