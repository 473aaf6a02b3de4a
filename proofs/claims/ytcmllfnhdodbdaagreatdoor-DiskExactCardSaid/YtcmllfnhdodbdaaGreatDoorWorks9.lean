/- posternlaw9.works. -/
import Derived.Test.YtcmllfnhdodbdaaGreatDoorDkS
import Derived.Lib.SlBytesConst
namespace Go.Proofs.YtcmllfnhdodbdaaGreatDoor
set_option linter.unusedVariables false
set_option linter.unusedSimpArgs false
open Go.RowKit Go.Maps
set_option maxRecDepth 100000 in
theorem num9_calls (n : Int) (w : World) : Calls Tryz.prog 9 #[.int .i64 n] w fun r w' => r = .returned (.int .i64 n) ∧ w = w' := by
  go_enter Tryz.func9, Tryz.ntmps9
  go_wp2
  go_ret
  exact ⟨rfl, rfl⟩
/-- An answer of New where the room may be. -/
theorem new_dk {w w' : World} {room : Nat} {r : Ending} (h1 : 1 ≤ room) (h2 : room ≤ 268435456) (h : LoadP w w' (room : Int) [] r) : ∃ db, r = .returned (.tuple #[.pointer (some ⟨db, 0, none⟩), .int .i64 0]) ∧ DkN w' w.heap.size db (DS.new room) ∧ Below w.heap.size w w' := by
  have e : loadR (room : Int) [] = (0, some (DS.new room)) := by
    unfold loadR
    rw [if_neg (by omega), if_neg (by simp)]
    rw [Int.toNat_natCast]
    rfl
  unfold LoadP at h
  rw [e] at h
  obtain ⟨db, g1, g2, g3⟩ := h
  exact ⟨db, g1, ⟨g2, g3.size⟩, g3⟩
def W9a : DS := ⟨10, [([97], [120, 121])], 0, 0, false, 1⟩
def W9b : DS := ⟨10, [([97], [120, 121])], 1, 1, false, 1⟩
def W9c : DS := ⟨10, [([97], [120, 121, 122])], 0, 1, true, 2⟩
def W9d : DS := ⟨10, [([97], [120, 121, 122])], 0, 1, false, 2⟩
theorem w9a : (DS.new 10).append [97] [120, 121] = (0, W9a) := by rfl
theorem w9b : W9a.arm 1 1 = W9b := by rfl
theorem w9c : W9b.append [97] [122, 122] = (94, W9c) := by rfl
theorem w9d : W9c.on = W9d := by rfl
theorem w9e : W9d.may true [[97]] = 0 := by rfl
theorem w9f : readB W9d [97] = [120, 121, 122] := by rfl
/-- Bytes that were just written out. -/
theorem Byt.lit (w : World) (l : List UInt8) (fr : Nat × Nat) : Byt (w.alloc (.cells (bys l).toArray 5 fr)) (some ⟨w.heap.size, 0, none⟩) l := by
  intro i hi
  refine ⟨_, 0, rfl, ?_⟩
  rw [cell_of_row' (heap_alloc_new w _), Nat.zero_add, List.getElem?_toArray]
  exact bys_get hi
set_option maxRecDepth 100000 in
set_option maxHeartbeats 4000000 in
theorem works9_calls (w : World) : Calls Tryz.prog 10 #[] w fun r w' => r = .returned (.bool true) ∧ Below w.heap.size w w' := by
  have NC := Lib.hid (NewK_calls 10 w)
  go_enter Tryz.func10, Tryz.ntmps10
  go_wp2_with fail
  refine NC.out.mono ?_
  rintro r w1 hr
  obtain ⟨db, rfl, hd, hb⟩ := new_dk (room := 10) (by decide) (by decide) hr
  have B1 := Lib.hid hb
  have D1 := Lib.hid hd
  clear hb hd hr
  -- Append
  have A1 := Lib.hid (show Calls Tryz.prog 26 #[.pointer (some ⟨db, 0, none⟩), .string ⟨#[97]⟩, .slice (some ⟨w1.heap.size, 0, none⟩) 2 2] (w1.alloc (.cells #[.int .u8 120, .int .u8 121] 5 (2, 3))) (fun r w' => DkR (w1.alloc (.cells #[.int .u8 120, .int .u8 121] 5 (2, 3))) w' w.heap.size db (fun i => w.heap.size ≤ i) ((DS.new 10).append [97] [120, 121]) r) from
    Append_dk w.heap.size db _ (DS.new 10) [97] [120, 121] (some ⟨w1.heap.size, 0, none⟩) 2 _ (D1.out.below ((Below.refl _ _).alloc (Nat.le_refl _) _)).1 (Byt.lit w1 [120, 121] (2, 3)) (by decide) (by decide) (by decide))
  rw [w9a] at A1
  have kc := fun (w : World) (C : Array Value) (n c : Nat) => Lib.run_convert_bytes_const (P := Tryz.prog) w 33 5 C n c Tryz.underlying33 Tryz.underlying5
  go_wp2_with ((go_at_call 9; refine (num9_calls _ _).mono ?_; rintro r wx ⟨rfl, rfl⟩))
  refine A1.out.mono ?_
  rintro r w2 ⟨rfl, h2⟩
  obtain ⟨d2, b2⟩ := h2.new (Nat.le_trans D1.out.2 ((Below.refl _ _).alloc (Nat.le_refl _) _).size)
  have D2 := Lib.hid d2
  have B2 := Lib.hid ((B1.out.alloc D1.out.2 (.cells #[.int .u8 120, .int .u8 121] 5 (2, 3))).trans b2)
  clear A1 d2 b2 h2
  -- Arm
  have A2 := Arm_dk 1 1 D2.out.1 (by decide)
  rw [w9b] at A2
  have A2H := Lib.hid A2
  clear A2
  go_wp2_with fail
  refine A2H.out.mono ?_
  rintro r w3 ⟨rfl, h3⟩
  obtain ⟨d3, b3⟩ := h3.new D2.out.2
  have D3 := Lib.hid d3
  have B3 := Lib.hid (B2.out.trans b3)
  clear A2H d3 b3 h3
  -- Append, torn
  have A3 := Lib.hid (show Calls Tryz.prog 26 #[.pointer (some ⟨db, 0, none⟩), .string ⟨#[97]⟩, .slice (some ⟨w3.heap.size, 0, none⟩) 2 2] (w3.alloc (.cells #[.int .u8 122, .int .u8 122] 5 (2, 3))) (fun r w' => DkR (w3.alloc (.cells #[.int .u8 122, .int .u8 122] 5 (2, 3))) w' w.heap.size db (fun i => w.heap.size ≤ i) (W9b.append [97] [122, 122]) r) from
    Append_dk w.heap.size db _ W9b [97] [122, 122] (some ⟨w3.heap.size, 0, none⟩) 2 _ (D3.out.below ((Below.refl _ _).alloc (Nat.le_refl _) _)).1 (Byt.lit w3 [122, 122] (2, 3)) (by decide) (by decide) (by decide))
  rw [w9c] at A3
  go_wp2_with fail
  refine A3.out.mono ?_
  rintro r w4 ⟨rfl, h4⟩
  obtain ⟨d4, b4⟩ := h4.new (Nat.le_trans D3.out.2 ((Below.refl _ _).alloc (Nat.le_refl _) _).size)
  have D4 := Lib.hid d4
  have B4 := Lib.hid ((B3.out.alloc D3.out.2 (.cells #[.int .u8 122, .int .u8 122] 5 (2, 3))).trans b4)
  clear A3 d4 b4 h4
  -- Off
  have A4 := Lib.hid (Off_dk D4.out.1)
  go_wp2_with fail
  refine A4.out.mono ?_
  rintro r w5 ⟨rfl, h5⟩
  obtain ⟨d5, b5⟩ := h5.new D4.out.2
  have D5 := Lib.hid d5
  have B5 := Lib.hid (B4.out.trans b5)
  clear A4 d5 b5 h5
  -- On
  have A5 := On_dk D5.out.1
  rw [w9d] at A5
  have A5H := Lib.hid A5
  clear A5
  go_wp2_with fail
  refine A5H.out.mono ?_
  rintro r w6 ⟨rfl, h6⟩
  obtain ⟨d6, b6⟩ := h6.new D5.out.2
  have D6 := Lib.hid d6
  have B6 := Lib.hid (B5.out.trans b6)
  clear A5H d6 b6 h6
  -- Read
  have A6 := Read_dk [97] D6.out.1 (by decide)
  rw [w9e, w9f] at A6
  have A6H := Lib.hid A6
  clear A6
  go_wp2_with fail
  refine A6H.out.mono ?_
  rintro r w7 ⟨v7, rfl, o7, d7, u7⟩
  obtain ⟨d7', b7⟩ := D6.out.upd d7 u7
  have D7 := Lib.hid d7'
  have B7 := Lib.hid (B6.out.trans b7)
  obtain ⟨a7, c7, rfl, -, -, y7, -, -⟩ := own_val o7
  have x7 : (convert 33 9 (.slice a7 3 c7)).run Tryz.prog w7 = .ok (.string ⟨#[120, 121, 122]⟩) w7 := conv_bytes (t := [120, 121, 122]) Tryz.underlying33 Tryz.underlying5 Tryz.underlying9 y7
  have A7 := Lib.hid (Writes_dk D7.out.1)
  clear A6H d7 d7' b7 o7 u7 y7
  go_wp2_with ((go_at_call 9; refine (num9_calls _ _).mono ?_; rintro r wx ⟨rfl, rfl⟩))
  refine A7.out.mono ?_
  rintro r w8 ⟨rfl, h8⟩
  obtain ⟨d8, b8⟩ := h8.new D7.out.2
  have B8 := Lib.hid (B7.out.trans b8)
  clear A7 d8 b8 h8
  go_wp2
  go_ret
  exact ⟨rfl, B8.out⟩
end Go.Proofs.YtcmllfnhdodbdaaGreatDoor
