/- disk.New: an empty disk. -/
import Derived.Test.YtcmllfnhdodbdaaDoorDsk
namespace Go.Proofs.YtcmllfnhdodbdaaDoor
set_option linter.unusedVariables false
set_option linter.unusedSimpArgs false
open Go.RowKit Go.Maps
def dk0 (room : Int) : DkV := ⟨room, 0, 0, 0, false, 0⟩
def NewP (w w' : World) (room : Int) (r : Ending) : Prop := ∃ db mb, r = .returned (.tuple #[.pointer (some ⟨db, 0, none⟩), .int .i64 0]) ∧ Dsk w' w.heap.size db mb 0 (dk0 room) [] (.map []) ∧ Below w.heap.size w w'
def NewS (w w' : World) (room : Int) : Prop := Dsk w' w.heap.size (w.heap.size + 1) w.heap.size 0 (dk0 room) [] (.map []) ∧ Below w.heap.size w w'
set_option maxRecDepth 100000 in
set_option maxHeartbeats 2000000 in
theorem LoadNil_calls (room : Int) (w : World) (h1 : 1 ≤ room) (h2 : room ≤ 268435456) :
    Calls Tryd.prog 11 #[.slice none 0 0, .int .i64 room] w fun r w' => NewP w w' room r := by
  have t1 : decide (room < 1) = false := decide_eq_false (by omega)
  have t2 : decide (268435456 < room) = false := decide_eq_false (by omega)
  have hmm := @run_makeMap Tryd.prog
  have blk := heap_alloc_new (w.alloc (.map #[] 0)) (.cells (dcells 0 (dk0 room) w.heap.size) 73)
  rw [World.size_alloc] at blk
  have NS : Hid (NewS w ((w.alloc (.map #[] 0)).alloc (.cells (dcells 0 (dk0 room) w.heap.size) 73)) room) :=
    ⟨⟨blk, Nat.le_succ _, (Fls.made w w.heap.size (Nat.le_refl _)).upd ((Upd.refl (fun _ => False) _).alloc _) (fun _ s => s.elim)⟩, ((Below.refl _ w).alloc (Nat.le_refl _) _).alloc (by simp) _⟩
  clear blk
  go_enter Tryd.func11, Tryd.ntmps11
  go_wp2
  go_loopw [26] (fun vi wr => vi = .int .i64 0 ∧ NewS w wr room) (fun _ _ => 0)
  case atStart => exact ⟨rfl, NS.out⟩
  case round =>
    obtain ⟨rfl, hs⟩ := hrel
    have HS := Lib.hid hs
    clear hs
    go_wp2
    go_ret2
    exact ⟨w.heap.size + 1, w.heap.size, rfl, HS.out⟩
set_option maxRecDepth 100000 in
set_option maxHeartbeats 1000000 in
theorem New_calls (room : Int) (w : World) (h1 : 1 ≤ room) (h2 : room ≤ 268435456) :
    Calls Tryd.prog 7 #[.int .i64 room] w fun r w' => NewP w w' room r := by
  have LC := Lib.hid (LoadNil_calls room w h1 h2)
  go_enter Tryd.func7, Tryd.ntmps7
  go_wp2_with fail
  refine LC.out.mono ?_
  rintro r w1 ⟨db, mb, rfl, hd, hb⟩
  have HD := Lib.hid hd; have HB := Lib.hid hb
  clear hd hb
  go_wp2
  go_ret2
  exact ⟨db, mb, rfl, HD.out, HB.out⟩
end Go.Proofs.YtcmllfnhdodbdaaDoor
