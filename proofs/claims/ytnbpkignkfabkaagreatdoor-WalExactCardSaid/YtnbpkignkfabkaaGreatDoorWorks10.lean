/- posternlaw10.works. -/
import Derived.Test.YtnbpkignkfabkaaGreatDoorWalH
import Derived.Test.YtnbpkignkfabkaaGreatDoorDkS
import Derived.Lib.SlBytesConst
namespace Go.Proofs.YtnbpkignkfabkaaGreatDoor
set_option linter.unusedVariables false
set_option linter.unusedSimpArgs false
open Go.RowKit Go.Maps
theorem Byt.lit (w : World) (l : List UInt8) (fr : Nat × Nat) : Byt (w.alloc (.cells (bys l).toArray 5 fr)) (some ⟨w.heap.size, 0, none⟩) l := by
  intro i hi
  refine ⟨_, 0, rfl, ?_⟩
  rw [cell_of_row' (heap_alloc_new w _), Nat.zero_add, List.getElem?_toArray]
  exact bys_get hi
theorem flen_sum (xs : List (List UInt8)) : flen xs = (xs.map List.length).sum + 13 * xs.length := by
  induction xs with
  | nil => rfl
  | cons x xs ih => simp [flen] at ih ⊢; omega
theorem le_sum_mem : ∀ {l : List Nat} {a : Nat}, a ∈ l → a ≤ l.sum
  | x :: l, a, h => by
    rcases List.mem_cons.1 h with rfl | h
    · simp
    · have := le_sum_mem h
      simp; omega
def X10 : List UInt8 := [120]
theorem x10_ok : nmOk X10 = true := by rfl
theorem rec_torn1 (a b : List UInt8) (ha : a.length ≤ 16777216) (hb : b.length ≤ 16777216) (k : Nat) (h0 : 0 < k) (hk : k < b.length + 13) : recOf (frm a ++ keptB (frm b) (k : Int)) = ([a], a.length + 13, 30) := by
  rw [keptB_nat _ _ (by rw [frm_length]; omega), recOf_frm a _ ha, recOf_torn b k hb (by rw [frm_length]; exact hk) h0]
  simp
set_option maxRecDepth 100000 in
set_option maxHeartbeats 8000000 in
theorem works10_calls (w : World) (ht : Tab w) (hg : 0 < w.heap.size) : Calls Tryz.prog 8 #[] w fun r w' => r = .returned (.bool true) ∧ Below w.heap.size w w' := by
  have NC := Lib.hid (NewK_calls 1000 w)
  have TB := Lib.hid ht; have HG := Lib.hid hg
  have kc := fun (w : World) (C : Array Value) (n c : Nat) => Lib.run_convert_bytes_const (P := Tryz.prog) w 74 5 C n c Tryz.underlying74 Tryz.underlying5
  clear ht hg
  go_enter Tryz.func8, Tryz.ntmps8
  go_wp2_with fail
  refine NC.out.mono ?_
  rintro r w1 hr
  obtain ⟨db, F1, rfl, d1, b1⟩ := new_s (room := 1000) (by decide) (by decide) hr
  have D1 := Lib.hid d1; have B1 := Lib.hid b1
  clear d1 b1 hr NC
  -- Open
  have O1 := Open_s X10 D1.out (TB.out.bel B1.out HG.out) HG.out (by decide) (Nat.zero_le _)
  rw [ds_new, open_new x10_ok] at O1
  have O1H := Lib.hid O1
  clear O1
  go_wp2_with (go_at_call 7; refine (num10_calls _ _).mono ?_; rintro r wx ⟨rfl, rfl⟩)
  refine O1H.out.mono ?_
  rintro r w2 ⟨F2, d2, u2, b2, f2, lb, a2, c2, Af2, Cf2, rfl, l2, g2, n2, -, -⟩
  have D2 := Lib.hid d2; have B2 := Lib.hid (B1.out.trans b2); have L2 := Lib.hid l2; have N2 := Lib.hid n2
  have LB := Lib.hid (show w.heap.size ≤ lb from Nat.le_trans D1.out.bw g2)
  clear d2 u2 b2 f2 l2 g2 n2 O1H
  -- Append a
  have BA : Below w2.heap.size w2 (w2.alloc (.cells #[.int .u8 97] 5 (1, 2))) := (Below.refl _ _).alloc (Nat.le_refl _) _
  have A3 := WalAppend_s [97] (some ⟨w2.heap.size, 0, none⟩) 1 (D2.out.below BA) (L2.out.below BA) LB.out N2.out ((TB.out.bel B2.out HG.out).below BA) HG.out (Byt.lit w2 [97] (1, 2)) (by decide) (by decide) (Nat.zero_le _) (Nat.zero_le _)
  rw [walA_new x10_ok (by decide) (by decide)] at A3
  have A3H := Lib.hid A3
  have B2a := Lib.hid (B2.out.trans (BA.mono D2.out.bw))
  clear A3 BA
  go_wp2_with (go_at_call 7; refine (num10_calls _ _).mono ?_; rintro r wx ⟨rfl, rfl⟩)
  refine A3H.out.mono ?_
  rintro r w3 ⟨rfl, F3, d3, l3, n3, u3', b3, f3⟩
  have D3 := Lib.hid d3; have B3 := Lib.hid (B2a.out.trans b3); have L3 := Lib.hid l3; have N3 := Lib.hid n3
  clear d3 u3' b3 f3 l3 n3 A3H
  -- Arm
  have A4 := Lib.hid (D3.out.arm 1 5 (by decide))
  go_wp2_with fail
  refine A4.out.mono ?_
  rintro r w4 ⟨rfl, F4, d4, u4', b4, f4⟩
  have D4 := Lib.hid (show DkS w4 w.heap.size db F4 (S1 1000 X10 (frm [97]) 1 5 false 1) from d4); have B4 := Lib.hid (B3.out.trans b4)
  have L4 := Lib.hid (L3.out.upd u4' N3.out)
  have N4 := Lib.hid (show ¬ F4 lb from fun hf => (f4 lb hf).elim N3.out (fun h9 => by have := L3.out.lt; omega))
  clear d4 u4' b4 f4 A4
  -- Append b
  have BA : Below w4.heap.size w4 (w4.alloc (.cells #[.int .u8 98] 5 (1, 2))) := (Below.refl _ _).alloc (Nat.le_refl _) _
  have A5 := WalAppend_s [98] (some ⟨w4.heap.size, 0, none⟩) 1 (D4.out.below BA) (L4.out.below BA) LB.out N4.out ((TB.out.bel B4.out HG.out).below BA) HG.out (Byt.lit w4 [98] (1, 2)) (by decide) (by decide) (show 1 ≤ 4611686018427387904 by decide) (by decide)
  rw [walA_tear x10_ok (by decide) (by rw [frm_length]; decide)] at A5
  have A5H := Lib.hid A5
  have B4a := Lib.hid (B4.out.trans (BA.mono D4.out.bw))
  clear A5 BA
  go_wp2_with fail
  refine A5H.out.mono ?_
  rintro r w5 ⟨rfl, F5, d5, l5, n5, u5', b5, f5⟩
  have D5 := Lib.hid d5; have B5 := Lib.hid (B4a.out.trans b5)
  clear d5 u5' b5 f5 l5 n5 A5H
  -- On
  have A6 := Lib.hid D5.out.on
  go_wp2_with fail
  refine A6.out.mono ?_
  rintro r w6 ⟨rfl, F6, d6, u6', b6, f6⟩
  have D6 := Lib.hid (show DkS w6 w.heap.size db F6 (S1 1000 X10 (frm [97] ++ keptB (frm [98]) (5 : Nat)) 0 5 false 2) from d6); have B6 := Lib.hid (B5.out.trans b6)
  clear d6 u6' b6 f6 A6
  -- Open
  have O7 := Open_s X10 D6.out (TB.out.bel B6.out HG.out) HG.out (by decide) (show 2 ≤ 4611686018427387904 by decide)
  rw [open_torn x10_ok 5 2 (rec_torn1 [97] [98] (by decide) (by decide) 5 (by decide) (by decide))] at O7
  have O7H := Lib.hid O7
  clear O7
  go_wp2_with fail
  refine O7H.out.mono ?_
  rintro r w7 ⟨F7, d7, u7', b7, f7, lb7, a7, c7, Af7, Cf7, rfl, l7, g7, n7, hrd, -⟩
  have B7 := Lib.hid (B6.out.trans b7); have L7 := Lib.hid l7
  obtain ⟨rb, ro, rfl, hcell⟩ := hrd.cell 0 (by simp)
  have hbyt := hrd.byt 0 (by simp)
  have x7 : (convert 74 9 (.slice (Af7 0) 1 (Cf7 0))).run Tryz.prog w7 = .ok (.string ⟨#[97]⟩) w7 := conv_bytes (t := [97]) Tryz.underlying74 Tryz.underlying5 Tryz.underlying9 hbyt
  have SC := Lib.hid (WalSize_calls lb7 db X10 14 false w7 L7.out)
  have q1 : w7.cell? ⟨rb, ro, none⟩ = some (.slice (Af7 0) 1 (Cf7 0)) := hcell
  clear d7 u7' b7 f7 l7 g7 n7 hrd O7H hcell hbyt
  go_wp2_with (first | (go_at_call 7; refine (num10_calls _ _).mono ?_; rintro r wx ⟨rfl, rfl⟩) | (go_at_call 20; refine SC.out.mono ?_; rintro r wx ⟨rfl, rfl⟩))
  go_ret
  exact ⟨rfl, B7.out⟩
end Go.Proofs.YtnbpkignkfabkaaGreatDoor
