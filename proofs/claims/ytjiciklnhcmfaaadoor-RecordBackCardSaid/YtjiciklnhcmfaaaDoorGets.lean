/- law3.gets: one field is taken and compared. -/
import Derived.Test.YtjiciklnhcmfaaaDoorRid2
import Derived.Test.YtjiciklnhcmfaaaDoorStep
namespace Go.Proofs.YtjiciklnhcmfaaaDoor
set_option linter.unusedVariables false
set_option linter.unusedSimpArgs false
open Go.RowKit
/-- What gets answers, and what it leaves. -/
def gOp (l : List UInt8) (e : Int) (o : OpD) : Bool × List UInt8 × Int :=
  if o.doo = 1 then ((((rNum l e o.wd).1 : Int) == (o.n : Int)), (rNum l e o.wd).2.1, (rNum l e o.wd).2.2)
  else if o.doo = 2 then ((sgn (rNum l e 8).1 == o.i), (rNum l e 8).2.1, (rNum l e 8).2.2)
  else if o.doo = 3 then (((rFlag l e).1 == o.fl), (rFlag l e).2.1, (rFlag l e).2.2)
  else if o.doo = 4 then (((rBytes l e).1 == o.b), (rBytes l e).2.1, (rBytes l e).2.2)
  else if o.doo = 5 then (((rBytes l e).1 == o.b), (rBytes l e).2.1, (rBytes l e).2.2)
  else (((rID l e).1 == o.d), (rID l e).2.1, (rID l e).2.2)
theorem Rdr.drew {w : World} {rb ro B : Nat} {l : List UInt8} {e : Int} {a : Option Addr} {cap : Nat} (h : Rdr w rb ro B l e a cap) : Rdr w.drew rb ro B l e a cap := h.upd ((Upd.refl (fun _ => False) w).drew) (fun s => s) (fun s => s)
theorem rupd_gets {w w1 w4 : World} {rb ro : Nat} (hrb : rb < w.heap.size) (U1 : Upd (fun _ => False) w w1) (h : RUpd w1.drew w4 rb ro) : RUpd w w4 rb ro :=
  RUpd.trans ⟨U1.mono (fun _ s _ => s.elim), fun _ _ _ => ⟨U1.cell (p := ⟨rb, _, none⟩) hrb (fun s => s), U1.frozen (p := ⟨rb, _, none⟩) hrb (fun s => s)⟩⟩ (RUpd.trans ⟨(Upd.refl _ w1).drew, fun _ _ _ => ⟨rfl, rfl⟩⟩ h)
set_option maxRecDepth 100000 in
set_option maxHeartbeats 4000000 in
theorem gets_num (rb ro B : Nat) (o : OpD) (w : World) (l : List UInt8) (e : Int) (a : Option Addr) (cap : Nat) (h : Rdr w rb ro B l e a cap) (hl : l.length ≤ 140737488355328) (hk : OpOk o) (d1 : o.doo = 1) :
    Calls Tryd.prog 35 #[.pointer (some ⟨rb, ro, none⟩), .agg (opv o)] w fun r w' => RPost w w' rb ro B r (.bool (gOp l e o).1) (gOp l e o).2.1 (gOp l e o).2.2 := by
  have hg : gOp l e o = ((((rNum l e o.wd).1 : Int) == (o.n : Int)), (rNum l e o.wd).2.1, (rNum l e o.wd).2.2) := by unfold gOp; rw [if_pos d1]
  rw [hg]
  clear hg
  obtain ⟨w1, hw1⟩ : ∃ q, w.alloc (.cells (opv o) 99) = q := ⟨_, rfl⟩
  have U1 : Upd (fun _ => False) w w1 := by rw [← hw1]; exact (Upd.refl _ w).alloc _
  have hrb := h.lt
  have h1 := h.upd U1 (fun s => s) (fun s => s)
  have hq := heap_alloc_new w (.cells (opv o) 99)
  rw [hw1] at hq
  have HW := Lib.hid hw1
  have e0 : w1.cell? ⟨w.heap.size, 0, none⟩ = some (.int .i64 o.doo) := by rw [cell_of_row' hq, opv_lo o 0 (by decide)]; rfl
  have e2 : w1.cell? ⟨w.heap.size, 2, none⟩ = some (.int .u64 o.n) := by rw [cell_of_row' hq, opv_lo o 2 (by decide)]; rfl
  have e3 : w1.cell? ⟨w.heap.size, 3, none⟩ = some (.int .i64 o.wd) := by rw [cell_of_row' hq, opv_lo o 3 (by decide)]; rfl
  have NC := Lib.hid (RNum_calls rb ro B o.wd w1.drew l e a cap h1.drew hl)
  have K2 := Lib.hid (fun (w4 : World) (hu : RUpd w1.drew w4 rb ro) => show w4.cell? ⟨w.heap.size, 2, none⟩ = some (.int .u64 o.n) from (hu.upd.cell (p := ⟨w.heap.size, 2, none⟩) (lt_of_block hq) (fun s => by have s' : w.heap.size = rb := s; omega)).trans e2)
  have UX := Lib.hid (fun (w4 : World) (hu : RUpd w1.drew w4 rb ro) => rupd_gets hrb U1 hu)
  obtain ⟨n, hn⟩ : ∃ n, (rNum l e o.wd).1 = n := ⟨_, rfl⟩
  rw [hn] at NC ⊢
  have t1 : (o.doo == 1) = true := by rw [beq_iff_eq]; exact d1
  have OK := Lib.hid hk
  clear d1 hn h h1 hq hw1 U1 hrb hk hl
  go_enter Tryd.func35, Tryd.ntmps35
  go_wp2_with (first | (with_reducible refine wpList_box_as (o := ⟨some 3, _, _, _, _, _⟩) rfl 99 (.tmp 1) rfl (opv o) rfl HW.out ?_))
  go_region_law (first
    | (refine step_call2 rfl (f := 38) (v := .pointer (some ⟨rb, ro, none⟩)) (u := .int .i64 o.wd) rfl rfl rfl (Tryd.call38 _) NC.out ?_; rintro e4 w4 ⟨rfl, a4, cap4, hr4, hu4⟩; refine ⟨_, rfl, ?_⟩; have z2 := K2.out w4 hu4; have R4 := Lib.hid hr4; have U4 := Lib.hid (UX.out w4 hu4); clear hr4 hu4))
  all_goals
    go_wp2
    go_ret
    exact ⟨rfl, a4, cap4, R4.out, U4.out⟩
set_option maxRecDepth 100000 in
set_option maxHeartbeats 4000000 in
theorem gets_int (rb ro B : Nat) (o : OpD) (w : World) (l : List UInt8) (e : Int) (a : Option Addr) (cap : Nat) (h : Rdr w rb ro B l e a cap) (hl : l.length ≤ 140737488355328) (hk : OpOk o) (d1 : o.doo = 2) :
    Calls Tryd.prog 35 #[.pointer (some ⟨rb, ro, none⟩), .agg (opv o)] w fun r w' => RPost w w' rb ro B r (.bool (gOp l e o).1) (gOp l e o).2.1 (gOp l e o).2.2 := by
  have hg : gOp l e o = ((sgn (rNum l e 8).1 == o.i), (rNum l e 8).2.1, (rNum l e 8).2.2) := by unfold gOp; rw [if_neg (by omega), if_pos d1]
  rw [hg]
  clear hg
  obtain ⟨w1, hw1⟩ : ∃ q, w.alloc (.cells (opv o) 99) = q := ⟨_, rfl⟩
  have U1 : Upd (fun _ => False) w w1 := by rw [← hw1]; exact (Upd.refl _ w).alloc _
  have hrb := h.lt
  have h1 := h.upd U1 (fun s => s) (fun s => s)
  have hq := heap_alloc_new w (.cells (opv o) 99)
  rw [hw1] at hq
  have HW := Lib.hid hw1
  have e0 : w1.cell? ⟨w.heap.size, 0, none⟩ = some (.int .i64 o.doo) := by rw [cell_of_row' hq, opv_lo o 0 (by decide)]; rfl
  have e4 : w1.cell? ⟨w.heap.size, 4, none⟩ = some (.int .i64 o.i) := by rw [cell_of_row' hq, opv_lo o 4 (by decide)]; rfl
  have NC := Lib.hid (RInt_calls rb ro B w1.drew l e a cap h1.drew hl)
  have K2 := Lib.hid (fun (w4 : World) (hu : RUpd w1.drew w4 rb ro) => show w4.cell? ⟨w.heap.size, 4, none⟩ = some (.int .i64 o.i) from (hu.upd.cell (p := ⟨w.heap.size, 4, none⟩) (lt_of_block hq) (fun s => by have s' : w.heap.size = rb := s; omega)).trans e4)
  have UX := Lib.hid (fun (w4 : World) (hu : RUpd w1.drew w4 rb ro) => rupd_gets hrb U1 hu)
  obtain ⟨n, hn⟩ : ∃ n, sgn (rNum l e 8).1 = n := ⟨_, rfl⟩
  rw [hn] at NC ⊢
  have t1 : (o.doo == 1) = false := by rw [beq_eq_false_iff_ne]; omega
  have t2 : (o.doo == 2) = true := by rw [beq_iff_eq]; exact d1
  have OK := Lib.hid hk
  clear d1 hn h h1 hq hw1 U1 hrb hk hl
  go_enter Tryd.func35, Tryd.ntmps35
  go_wp2_with (first | (with_reducible refine wpList_box_as (o := ⟨some 3, _, _, _, _, _⟩) rfl 99 (.tmp 1) rfl (opv o) rfl HW.out ?_))
  go_region_law (first
    | (refine step_call1 rfl (f := 39) (v := .pointer (some ⟨rb, ro, none⟩)) rfl rfl (Tryd.call39 _) NC.out ?_; rintro e4 w4 ⟨rfl, a4, cap4, hr4, hu4⟩; refine ⟨_, rfl, ?_⟩; have z2 := K2.out w4 hu4; have R4 := Lib.hid hr4; have U4 := Lib.hid (UX.out w4 hu4); clear hr4 hu4))
  all_goals
    go_wp2
    go_ret
    exact ⟨rfl, a4, cap4, R4.out, U4.out⟩
set_option maxRecDepth 100000 in
set_option maxHeartbeats 4000000 in
theorem gets_flag (rb ro B : Nat) (o : OpD) (w : World) (l : List UInt8) (e : Int) (a : Option Addr) (cap : Nat) (h : Rdr w rb ro B l e a cap) (hl : l.length ≤ 140737488355328) (hk : OpOk o) (d1 : o.doo = 3) :
    Calls Tryd.prog 35 #[.pointer (some ⟨rb, ro, none⟩), .agg (opv o)] w fun r w' => RPost w w' rb ro B r (.bool (gOp l e o).1) (gOp l e o).2.1 (gOp l e o).2.2 := by
  have hg : gOp l e o = (((rFlag l e).1 == o.fl), (rFlag l e).2.1, (rFlag l e).2.2) := by unfold gOp; rw [if_neg (by omega), if_neg (by omega), if_pos d1]
  rw [hg]
  clear hg
  obtain ⟨w1, hw1⟩ : ∃ q, w.alloc (.cells (opv o) 99) = q := ⟨_, rfl⟩
  have U1 : Upd (fun _ => False) w w1 := by rw [← hw1]; exact (Upd.refl _ w).alloc _
  have hrb := h.lt
  have h1 := h.upd U1 (fun s => s) (fun s => s)
  have hq := heap_alloc_new w (.cells (opv o) 99)
  rw [hw1] at hq
  have HW := Lib.hid hw1
  have e0 : w1.cell? ⟨w.heap.size, 0, none⟩ = some (.int .i64 o.doo) := by rw [cell_of_row' hq, opv_lo o 0 (by decide)]; rfl
  have e5 : w1.cell? ⟨w.heap.size, 5, none⟩ = some (.bool o.fl) := by rw [cell_of_row' hq, opv_lo o 5 (by decide)]; rfl
  have NC := Lib.hid (RFlag_calls rb ro B w1.drew l e a cap h1.drew hl)
  have K2 := Lib.hid (fun (w4 : World) (hu : RUpd w1.drew w4 rb ro) => show w4.cell? ⟨w.heap.size, 5, none⟩ = some (.bool o.fl) from (hu.upd.cell (p := ⟨w.heap.size, 5, none⟩) (lt_of_block hq) (fun s => by have s' : w.heap.size = rb := s; omega)).trans e5)
  have UX := Lib.hid (fun (w4 : World) (hu : RUpd w1.drew w4 rb ro) => rupd_gets hrb U1 hu)
  obtain ⟨n, hn⟩ : ∃ n, (rFlag l e).1 = n := ⟨_, rfl⟩
  rw [hn] at NC ⊢
  have t1 : (o.doo == 1) = false := by rw [beq_eq_false_iff_ne]; omega
  have t2 : (o.doo == 2) = false := by rw [beq_eq_false_iff_ne]; omega
  have t3 : (o.doo == 3) = true := by rw [beq_iff_eq]; exact d1
  have OK := Lib.hid hk
  clear d1 hn h h1 hq hw1 U1 hrb hk hl
  go_enter Tryd.func35, Tryd.ntmps35
  go_wp2_with (first | (with_reducible refine wpList_box_as (o := ⟨some 3, _, _, _, _, _⟩) rfl 99 (.tmp 1) rfl (opv o) rfl HW.out ?_))
  go_region_law (first
    | (refine step_call1 rfl (f := 36) (v := .pointer (some ⟨rb, ro, none⟩)) rfl rfl (Tryd.call36 _) NC.out ?_; rintro e4 w4 ⟨rfl, a4, cap4, hr4, hu4⟩; refine ⟨_, rfl, ?_⟩; have z2 := K2.out w4 hu4; have R4 := Lib.hid hr4; have U4 := Lib.hid (UX.out w4 hu4); clear hr4 hu4))
  all_goals
    go_wp2
    go_ret
    exact ⟨rfl, a4, cap4, R4.out, U4.out⟩
set_option maxRecDepth 100000 in
set_option maxHeartbeats 4000000 in
theorem gets_bytes (rb ro B : Nat) (o : OpD) (w : World) (l : List UInt8) (e : Int) (a : Option Addr) (cap : Nat) (h : Rdr w rb ro B l e a cap) (hl : l.length ≤ 140737488355328) (hk : OpOk o) (hy : Byt w o.ba o.b) (hyb : o.ba.map (·.block) ≠ some rb) (d1 : o.doo = 4) :
    Calls Tryd.prog 35 #[.pointer (some ⟨rb, ro, none⟩), .agg (opv o)] w fun r w' => RPost w w' rb ro B r (.bool (gOp l e o).1) (gOp l e o).2.1 (gOp l e o).2.2 := by
  have hg : gOp l e o = (((rBytes l e).1 == o.b), (rBytes l e).2.1, (rBytes l e).2.2) := by unfold gOp; rw [if_neg (by omega), if_neg (by omega), if_neg (by omega), if_pos d1]
  rw [hg]
  clear hg
  obtain ⟨w1, hw1⟩ : ∃ q, w.alloc (.cells (opv o) 99) = q := ⟨_, rfl⟩
  have U1 : Upd (fun _ => False) w w1 := by rw [← hw1]; exact (Upd.refl _ w).alloc _
  have hrb := h.lt
  have h1 := h.upd U1 (fun s => s) (fun s => s)
  have hq := heap_alloc_new w (.cells (opv o) 99)
  rw [hw1] at hq
  have HW := Lib.hid hw1
  have e0 : w1.cell? ⟨w.heap.size, 0, none⟩ = some (.int .i64 o.doo) := by rw [cell_of_row' hq, opv_lo o 0 (by decide)]; rfl
  have e6 : w1.cell? ⟨w.heap.size, 6, none⟩ = some (.slice o.ba o.b.length o.bc) := by rw [cell_of_row' hq, opv_lo o 6 (by decide)]; rfl
  have NC := Lib.hid (RBytes_calls rb ro B w1.drew l e a cap h1.drew hl)
  have K2 := Lib.hid (fun (w4 : World) (hu : RUpd w1.drew w4 rb ro) => show w4.cell? ⟨w.heap.size, 6, none⟩ = some (.slice o.ba o.b.length o.bc) from (hu.upd.cell (p := ⟨w.heap.size, 6, none⟩) (lt_of_block hq) (fun s => by have s' : w.heap.size = rb := s; omega)).trans e6)
  have UX := Lib.hid (fun (w4 : World) (hu : RUpd w1.drew w4 rb ro) => rupd_gets hrb U1 hu)
  have y1 : Byt w1.drew o.ba o.b := (hy.upd U1 (fun _ _ _ s => s)).upd ((Upd.refl (fun _ => False) w1).drew) (fun _ _ _ s => s)
  have YX := Lib.hid (fun (w4 : World) (hu : RUpd w1.drew w4 rb ro) => show Byt w4 o.ba o.b from y1.upd hu.upd (fun ad had _ s => hyb (by rw [had]; exact congrArg some s)))
  have x2 : (convert 55 9 (.slice o.ba o.b.length o.bc)).run Tryd.prog w1.drew = .ok (.string ⟨o.b.toArray⟩) w1.drew := conv_bytes Tryd.underlying55 Tryd.underlying5 Tryd.underlying9 y1
  obtain ⟨n, hn⟩ : ∃ n, (rBytes l e).1 = n := ⟨_, rfl⟩
  rw [hn] at NC ⊢
  have t1 : (o.doo == 1) = false := by rw [beq_eq_false_iff_ne]; omega
  have t2 : (o.doo == 2) = false := by rw [beq_eq_false_iff_ne]; omega
  have t3 : (o.doo == 3) = false := by rw [beq_eq_false_iff_ne]; omega
  have t4 : (o.doo == 4) = true := by rw [beq_iff_eq]; exact d1
  have OK := Lib.hid hk
  clear d1 hn h h1 hq hw1 U1 hrb hk hl hy hyb y1
  go_enter Tryd.func35, Tryd.ntmps35
  go_wp2_with (first | (with_reducible refine wpList_box_as (o := ⟨some 3, _, _, _, _, _⟩) rfl 99 (.tmp 1) rfl (opv o) rfl HW.out ?_))
  go_region_law (first
    | (refine step_call1 rfl (f := 31) (v := .pointer (some ⟨rb, ro, none⟩)) rfl rfl (Tryd.call31 _) NC.out ?_; rintro e4 w4 ⟨v4, rfl, ho4, a4, cap4, hr4, hu4⟩; obtain ⟨a5, c5, rfl, _, _, _, _⟩ := own_vn ho4; refine ⟨_, rfl, ?_⟩; have z2 := K2.out w4 hu4; have R4 := Lib.hid hr4; have U4 := Lib.hid (UX.out w4 hu4); have x1 : (convert 55 9 (.slice a5 n.length c5)).run Tryd.prog w4 = .ok (.string ⟨n.toArray⟩) w4 := conv_bytes Tryd.underlying55 Tryd.underlying5 Tryd.underlying9 (Own.byt ho4).1; have x2b : (convert 55 9 (.slice o.ba o.b.length o.bc)).run Tryd.prog w4 = .ok (.string ⟨o.b.toArray⟩) w4 := conv_bytes Tryd.underlying55 Tryd.underlying5 Tryd.underlying9 (YX.out w4 hu4); clear hr4 hu4 ho4))
  all_goals
    go_wp2
    go_ret
    exact ⟨rfl, a4, cap4, R4.out, U4.out⟩
set_option maxRecDepth 100000 in
set_option maxHeartbeats 4000000 in
theorem gets_text (rb ro B : Nat) (o : OpD) (w : World) (l : List UInt8) (e : Int) (a : Option Addr) (cap : Nat) (h : Rdr w rb ro B l e a cap) (hl : l.length ≤ 140737488355328) (hk : OpOk o) (hy : Byt w o.ba o.b) (hyb : o.ba.map (·.block) ≠ some rb) (d1 : o.doo = 5) :
    Calls Tryd.prog 35 #[.pointer (some ⟨rb, ro, none⟩), .agg (opv o)] w fun r w' => RPost w w' rb ro B r (.bool (gOp l e o).1) (gOp l e o).2.1 (gOp l e o).2.2 := by
  have hg : gOp l e o = (((rBytes l e).1 == o.b), (rBytes l e).2.1, (rBytes l e).2.2) := by unfold gOp; rw [if_neg (by omega), if_neg (by omega), if_neg (by omega), if_neg (by omega), if_pos d1]
  rw [hg]
  clear hg
  obtain ⟨w1, hw1⟩ : ∃ q, w.alloc (.cells (opv o) 99) = q := ⟨_, rfl⟩
  have U1 : Upd (fun _ => False) w w1 := by rw [← hw1]; exact (Upd.refl _ w).alloc _
  have hrb := h.lt
  have h1 := h.upd U1 (fun s => s) (fun s => s)
  have hq := heap_alloc_new w (.cells (opv o) 99)
  rw [hw1] at hq
  have HW := Lib.hid hw1
  have e0 : w1.cell? ⟨w.heap.size, 0, none⟩ = some (.int .i64 o.doo) := by rw [cell_of_row' hq, opv_lo o 0 (by decide)]; rfl
  have e6 : w1.cell? ⟨w.heap.size, 6, none⟩ = some (.slice o.ba o.b.length o.bc) := by rw [cell_of_row' hq, opv_lo o 6 (by decide)]; rfl
  have NC := Lib.hid (RText_calls rb ro B w1.drew l e a cap h1.drew hl)
  have K2 := Lib.hid (fun (w4 : World) (hu : RUpd w1.drew w4 rb ro) => show w4.cell? ⟨w.heap.size, 6, none⟩ = some (.slice o.ba o.b.length o.bc) from (hu.upd.cell (p := ⟨w.heap.size, 6, none⟩) (lt_of_block hq) (fun s => by have s' : w.heap.size = rb := s; omega)).trans e6)
  have UX := Lib.hid (fun (w4 : World) (hu : RUpd w1.drew w4 rb ro) => rupd_gets hrb U1 hu)
  have y1 : Byt w1.drew o.ba o.b := (hy.upd U1 (fun _ _ _ s => s)).upd ((Upd.refl (fun _ => False) w1).drew) (fun _ _ _ s => s)
  have YX := Lib.hid (fun (w4 : World) (hu : RUpd w1.drew w4 rb ro) => show Byt w4 o.ba o.b from y1.upd hu.upd (fun ad had _ s => hyb (by rw [had]; exact congrArg some s)))
  have x2 : (convert 55 9 (.slice o.ba o.b.length o.bc)).run Tryd.prog w1.drew = .ok (.string ⟨o.b.toArray⟩) w1.drew := conv_bytes Tryd.underlying55 Tryd.underlying5 Tryd.underlying9 y1
  obtain ⟨n, hn⟩ : ∃ n, (rBytes l e).1 = n := ⟨_, rfl⟩
  rw [hn] at NC ⊢
  have t1 : (o.doo == 1) = false := by rw [beq_eq_false_iff_ne]; omega
  have t2 : (o.doo == 2) = false := by rw [beq_eq_false_iff_ne]; omega
  have t3 : (o.doo == 3) = false := by rw [beq_eq_false_iff_ne]; omega
  have t4 : (o.doo == 4) = false := by rw [beq_eq_false_iff_ne]; omega
  have t5 : (o.doo == 5) = true := by rw [beq_iff_eq]; exact d1
  have OK := Lib.hid hk
  clear d1 hn h h1 hq hw1 U1 hrb hk hl hy hyb y1
  go_enter Tryd.func35, Tryd.ntmps35
  go_wp2_with (first | (with_reducible refine wpList_box_as (o := ⟨some 3, _, _, _, _, _⟩) rfl 99 (.tmp 1) rfl (opv o) rfl HW.out ?_))
  go_region_law (first
    | (refine step_call1 rfl (f := 41) (v := .pointer (some ⟨rb, ro, none⟩)) rfl rfl (Tryd.call41 _) NC.out ?_; rintro e4 w4 ⟨rfl, a4, cap4, hr4, hu4⟩; refine ⟨_, rfl, ?_⟩; have z2 := K2.out w4 hu4; have R4 := Lib.hid hr4; have U4 := Lib.hid (UX.out w4 hu4); have x2b : (convert 55 9 (.slice o.ba o.b.length o.bc)).run Tryd.prog w4 = .ok (.string ⟨o.b.toArray⟩) w4 := conv_bytes Tryd.underlying55 Tryd.underlying5 Tryd.underlying9 (YX.out w4 hu4); clear hr4 hu4))
  all_goals
    go_wp2
    go_ret
    exact ⟨rfl, a4, cap4, R4.out, U4.out⟩
end Go.Proofs.YtjiciklnhcmfaaaDoor
