/- law3.gets where it takes an ID; gets in all cases. -/
import Derived.Test.YtjiciklnhcmfaaaDoorGets
import Derived.Test.YtjiciklnhcmfaaaDoorEqId
namespace Go.Proofs.YtjiciklnhcmfaaaDoor
set_option linter.unusedVariables false
set_option linter.unusedSimpArgs false
open Go.RowKit
theorem rID_len (l : List UInt8) (e : Int) : (rID l e).1.length = 16 := by
  unfold rID
  split
  · split
    · rw [List.length_take]; omega
    · simp
  · simp
set_option maxRecDepth 100000 in
set_option maxHeartbeats 8000000 in
theorem gets_id (rb ro B : Nat) (o : OpD) (w : World) (l : List UInt8) (e : Int) (a : Option Addr) (cap : Nat) (h : Rdr w rb ro B l e a cap) (hB : B < w.heap.size) (hl : l.length ≤ 140737488355328) (hk : OpOk o) (D1 : o.doo ≠ 1) (D2 : o.doo ≠ 2) (D3 : o.doo ≠ 3) (D4 : o.doo ≠ 4) (D5 : o.doo ≠ 5) :
    Calls Tryd.prog 35 #[.pointer (some ⟨rb, ro, none⟩), .agg (opv o)] w fun r w' => RPost w w' rb ro B r (.bool (gOp l e o).1) (gOp l e o).2.1 (gOp l e o).2.2 := by
  have hg : gOp l e o = (((rID l e).1 == o.d), (rID l e).2.1, (rID l e).2.2) := by unfold gOp; rw [if_neg D1, if_neg D2, if_neg D3, if_neg D4, if_neg D5]
  rw [hg]
  clear hg
  obtain ⟨w1, hw1⟩ : ∃ q, w.alloc (.cells (opv o) 99) = q := ⟨_, rfl⟩
  have U1 : Upd (fun _ => False) w w1 := by rw [← hw1]; exact (Upd.refl _ w).alloc _
  have hrb := h.lt
  have h1 := h.upd U1 (fun s => s) (fun s => s)
  have hq := heap_alloc_new w (.cells (opv o) 99)
  rw [hw1] at hq
  have HW := Lib.hid hw1
  obtain ⟨n0, n1, n2, n3, n4, n5, n6, n7, n8, n9, n10, n11, n12, n13, n14, n15, hn⟩ := list16 (rID_len l e)
  obtain ⟨d0, d1, d2, d3, d4, d5, d6, d7, d8, d9, d10, d11, d12, d13, d14, d15, hd⟩ := list16 hk.dn
  have e0 : w1.cell? ⟨w.heap.size, 0, none⟩ = some (.int .i64 o.doo) := by rw [cell_of_row' hq, opv_lo o 0 (by decide)]; rfl
  have e7 : w1.cell? ⟨w.heap.size, 7, none⟩ = some (.int .u8 (d0.toNat : Int)) := by rw [cell_of_row' hq, show (7 : Nat) = 7 + 0 from rfl, opv_hi, hd]; rfl
  have e8 : w1.cell? ⟨w.heap.size, 8, none⟩ = some (.int .u8 (d1.toNat : Int)) := by rw [cell_of_row' hq, show (8 : Nat) = 7 + 1 from rfl, opv_hi, hd]; rfl
  have e9 : w1.cell? ⟨w.heap.size, 9, none⟩ = some (.int .u8 (d2.toNat : Int)) := by rw [cell_of_row' hq, show (9 : Nat) = 7 + 2 from rfl, opv_hi, hd]; rfl
  have e10 : w1.cell? ⟨w.heap.size, 10, none⟩ = some (.int .u8 (d3.toNat : Int)) := by rw [cell_of_row' hq, show (10 : Nat) = 7 + 3 from rfl, opv_hi, hd]; rfl
  have e11 : w1.cell? ⟨w.heap.size, 11, none⟩ = some (.int .u8 (d4.toNat : Int)) := by rw [cell_of_row' hq, show (11 : Nat) = 7 + 4 from rfl, opv_hi, hd]; rfl
  have e12 : w1.cell? ⟨w.heap.size, 12, none⟩ = some (.int .u8 (d5.toNat : Int)) := by rw [cell_of_row' hq, show (12 : Nat) = 7 + 5 from rfl, opv_hi, hd]; rfl
  have e13 : w1.cell? ⟨w.heap.size, 13, none⟩ = some (.int .u8 (d6.toNat : Int)) := by rw [cell_of_row' hq, show (13 : Nat) = 7 + 6 from rfl, opv_hi, hd]; rfl
  have e14 : w1.cell? ⟨w.heap.size, 14, none⟩ = some (.int .u8 (d7.toNat : Int)) := by rw [cell_of_row' hq, show (14 : Nat) = 7 + 7 from rfl, opv_hi, hd]; rfl
  have e15 : w1.cell? ⟨w.heap.size, 15, none⟩ = some (.int .u8 (d8.toNat : Int)) := by rw [cell_of_row' hq, show (15 : Nat) = 7 + 8 from rfl, opv_hi, hd]; rfl
  have e16 : w1.cell? ⟨w.heap.size, 16, none⟩ = some (.int .u8 (d9.toNat : Int)) := by rw [cell_of_row' hq, show (16 : Nat) = 7 + 9 from rfl, opv_hi, hd]; rfl
  have e17 : w1.cell? ⟨w.heap.size, 17, none⟩ = some (.int .u8 (d10.toNat : Int)) := by rw [cell_of_row' hq, show (17 : Nat) = 7 + 10 from rfl, opv_hi, hd]; rfl
  have e18 : w1.cell? ⟨w.heap.size, 18, none⟩ = some (.int .u8 (d11.toNat : Int)) := by rw [cell_of_row' hq, show (18 : Nat) = 7 + 11 from rfl, opv_hi, hd]; rfl
  have e19 : w1.cell? ⟨w.heap.size, 19, none⟩ = some (.int .u8 (d12.toNat : Int)) := by rw [cell_of_row' hq, show (19 : Nat) = 7 + 12 from rfl, opv_hi, hd]; rfl
  have e20 : w1.cell? ⟨w.heap.size, 20, none⟩ = some (.int .u8 (d13.toNat : Int)) := by rw [cell_of_row' hq, show (20 : Nat) = 7 + 13 from rfl, opv_hi, hd]; rfl
  have e21 : w1.cell? ⟨w.heap.size, 21, none⟩ = some (.int .u8 (d14.toNat : Int)) := by rw [cell_of_row' hq, show (21 : Nat) = 7 + 14 from rfl, opv_hi, hd]; rfl
  have e22 : w1.cell? ⟨w.heap.size, 22, none⟩ = some (.int .u8 (d15.toNat : Int)) := by rw [cell_of_row' hq, show (22 : Nat) = 7 + 15 from rfl, opv_hi, hd]; rfl
  have NC := RID_calls rb ro B w1.drew l e a cap h1.drew (Nat.lt_of_lt_of_le hB U1.size) hl
  rw [hn] at NC
  have NC' : Hid (Calls Tryd.prog 40 #[.pointer (some ⟨rb, ro, none⟩)] w1.drew fun r w' => r = .returned (.agg #[.int .u8 (n0.toNat : Int), .int .u8 (n1.toNat : Int), .int .u8 (n2.toNat : Int), .int .u8 (n3.toNat : Int), .int .u8 (n4.toNat : Int), .int .u8 (n5.toNat : Int), .int .u8 (n6.toNat : Int), .int .u8 (n7.toNat : Int), .int .u8 (n8.toNat : Int), .int .u8 (n9.toNat : Int), .int .u8 (n10.toNat : Int), .int .u8 (n11.toNat : Int), .int .u8 (n12.toNat : Int), .int .u8 (n13.toNat : Int), .int .u8 (n14.toNat : Int), .int .u8 (n15.toNat : Int)]) ∧ ∃ a cap, Rdr w' rb ro B (rID l e).2.1 (rID l e).2.2 a cap ∧ RUpd w1.drew w' rb ro) := NC
  have K2 := Lib.hid (fun (w4 : World) (hu : RUpd w1.drew w4 rb ro) (k : Nat) (v : Value) (hv : w1.cell? ⟨w.heap.size, k, none⟩ = some v) => show w4.cell? ⟨w.heap.size, k, none⟩ = some v from (hu.upd.cell (p := ⟨w.heap.size, k, none⟩) (lt_of_block hq) (fun s => by have s' : w.heap.size = rb := s; omega)).trans hv)
  have UX := Lib.hid (fun (w4 : World) (hu : RUpd w1.drew w4 rb ro) => rupd_gets hrb U1 hu)
  rw [hn, hd]
  obtain ⟨b, hb⟩ : ∃ b, ([n0, n1, n2, n3, n4, n5, n6, n7, n8, n9, n10, n11, n12, n13, n14, n15] == [d0, d1, d2, d3, d4, d5, d6, d7, d8, d9, d10, d11, d12, d13, d14, d15]) = b := ⟨_, rfl⟩
  have eqz : ∀ w, (Op.equalIn 10000 97 (.agg #[.int .u8 (n0.toNat : Int), .int .u8 (n1.toNat : Int), .int .u8 (n2.toNat : Int), .int .u8 (n3.toNat : Int), .int .u8 (n4.toNat : Int), .int .u8 (n5.toNat : Int), .int .u8 (n6.toNat : Int), .int .u8 (n7.toNat : Int), .int .u8 (n8.toNat : Int), .int .u8 (n9.toNat : Int), .int .u8 (n10.toNat : Int), .int .u8 (n11.toNat : Int), .int .u8 (n12.toNat : Int), .int .u8 (n13.toNat : Int), .int .u8 (n14.toNat : Int), .int .u8 (n15.toNat : Int)]) (.agg #[.int .u8 (d0.toNat : Int), .int .u8 (d1.toNat : Int), .int .u8 (d2.toNat : Int), .int .u8 (d3.toNat : Int), .int .u8 (d4.toNat : Int), .int .u8 (d5.toNat : Int), .int .u8 (d6.toNat : Int), .int .u8 (d7.toNat : Int), .int .u8 (d8.toNat : Int), .int .u8 (d9.toNat : Int), .int .u8 (d10.toNat : Int), .int .u8 (d11.toNat : Int), .int .u8 (d12.toNat : Int), .int .u8 (d13.toNat : Int), .int .u8 (d14.toNat : Int), .int .u8 (d15.toNat : Int)])).run Tryd.prog w = .ok b w := fun w => by rw [← hb]; exact eqId n0 n1 n2 n3 n4 n5 n6 n7 n8 n9 n10 n11 n12 n13 n14 n15 d0 d1 d2 d3 d4 d5 d6 d7 d8 d9 d10 d11 d12 d13 d14 d15 w
  rw [hb]
  obtain ⟨q1, hq1⟩ : ∃ q, (rID l e).2.1 = q := ⟨_, rfl⟩
  obtain ⟨q2, hq2⟩ : ∃ q, (rID l e).2.2 = q := ⟨_, rfl⟩
  rw [hq1, hq2] at NC' ⊢
  have t1 : (o.doo == 1) = false := beq_eq_false_iff_ne.2 D1
  have t2 : (o.doo == 2) = false := beq_eq_false_iff_ne.2 D2
  have t3 : (o.doo == 3) = false := beq_eq_false_iff_ne.2 D3
  have t4 : (o.doo == 4) = false := beq_eq_false_iff_ne.2 D4
  have t5 : (o.doo == 5) = false := beq_eq_false_iff_ne.2 D5
  clear D1 D2 D3 D4 D5 hn hd hb hq1 hq2 h h1 hq hw1 U1 hrb hk hl hB NC
  go_enter Tryd.func35, Tryd.ntmps35
  go_wp2_with (first | (with_reducible refine wpList_box_as (o := ⟨some 3, _, _, _, _, _⟩) rfl 99 (.tmp 1) rfl (opv o) rfl HW.out ?_))
  go_region_law (first
    | (refine step_call1 rfl (f := 40) (v := .pointer (some ⟨rb, ro, none⟩)) rfl rfl (Tryd.call40 _) NC'.out ?_; rintro e4 w4 ⟨rfl, a4, cap4, hr4, hu4⟩; refine ⟨_, rfl, ?_⟩; have z7 := K2.out w4 hu4 7 _ e7; have z8 := K2.out w4 hu4 8 _ e8; have z9 := K2.out w4 hu4 9 _ e9; have z10 := K2.out w4 hu4 10 _ e10; have z11 := K2.out w4 hu4 11 _ e11; have z12 := K2.out w4 hu4 12 _ e12; have z13 := K2.out w4 hu4 13 _ e13; have z14 := K2.out w4 hu4 14 _ e14; have z15 := K2.out w4 hu4 15 _ e15; have z16 := K2.out w4 hu4 16 _ e16; have z17 := K2.out w4 hu4 17 _ e17; have z18 := K2.out w4 hu4 18 _ e18; have z19 := K2.out w4 hu4 19 _ e19; have z20 := K2.out w4 hu4 20 _ e20; have z21 := K2.out w4 hu4 21 _ e21; have z22 := K2.out w4 hu4 22 _ e22; have R4 := Lib.hid hr4; have U4 := Lib.hid (UX.out w4 hu4); clear hr4 hu4))
  all_goals
    go_wp2
    go_ret
    exact ⟨rfl, a4, cap4, R4.out, U4.out⟩
/-- One field is taken and compared. -/
theorem gets_calls (rb ro B : Nat) (o : OpD) (w : World) (l : List UInt8) (e : Int) (a : Option Addr) (cap : Nat) (h : Rdr w rb ro B l e a cap) (hB : B < w.heap.size) (hl : l.length ≤ 140737488355328) (hk : OpOk o) (hy : Byt w o.ba o.b) (hyb : o.ba.map (·.block) ≠ some rb) :
    Calls Tryd.prog 35 #[.pointer (some ⟨rb, ro, none⟩), .agg (opv o)] w fun r w' => RPost w w' rb ro B r (.bool (gOp l e o).1) (gOp l e o).2.1 (gOp l e o).2.2 := by
  by_cases d1 : o.doo = 1
  · exact gets_num rb ro B o w l e a cap h hl hk d1
  by_cases d2 : o.doo = 2
  · exact gets_int rb ro B o w l e a cap h hl hk d2
  by_cases d3 : o.doo = 3
  · exact gets_flag rb ro B o w l e a cap h hl hk d3
  by_cases d4 : o.doo = 4
  · exact gets_bytes rb ro B o w l e a cap h hl hk hy hyb d4
  by_cases d5 : o.doo = 5
  · exact gets_text rb ro B o w l e a cap h hl hk hy hyb d5
  exact gets_id rb ro B o w l e a cap h hB hl hk d1 d2 d3 d4 d5
end Go.Proofs.YtjiciklnhcmfaaaDoor
