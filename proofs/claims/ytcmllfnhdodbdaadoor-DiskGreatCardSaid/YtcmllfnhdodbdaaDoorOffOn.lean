/- disk: Off, Writes, On, Room. -/
import Derived.Test.YtcmllfnhdodbdaaDoorAppend
namespace Go.Proofs.YtcmllfnhdodbdaaDoor
set_option linter.unusedVariables false
set_option linter.unusedSimpArgs false
open Go.RowKit Go.Maps Go.MuLone
set_option maxRecDepth 100000 in
set_option maxHeartbeats 2000000 in
theorem Off_calls (base db mb : Nat) (k : DkV) (L : List Fl) (D : DataW Value) (w : World) (h : Dsk w base db mb 0 k L D) :
    Calls Tryd.prog 19 #[.pointer (some ⟨db, 0, none⟩)] w fun r w' => r = .returned (.bool k.off) ∧ Dsk w' base db mb 0 k L D ∧ Upd (fun i => i = db) w w' := by
  have H := Lib.hid h
  have H1 := Lib.hid (h.lock 1)
  have U1 := Lib.hid (upd_lock (db := db) (Below.refl w.heap.size w) (.int .i32 1))
  have c7 := (h.lock 1).cell 7
  rw [show (dcells 1 k mb)[7]? = some (.bool k.off) from rfl] at c7
  have c7' : w.cell? ⟨db, 7, none⟩ = some (.bool k.off) := h.cell 7
  clear h c7
  go_enter_defers Tryd.func19, Tryd.ntmps19
  go_wp2_with fail
  refine (lock_free muLib ⟨db, 0, none⟩ _ (H.out.cell 0) (H.out.froz 0)).mono ?_
  rintro r w1 ⟨rfl, rfl⟩
  go_wp2
  refine leaves_cons (f := 30) (args := #[.pointer (some ⟨db, 0, none⟩)]) (by simp) (by simp [go_sem]) ?_
  refine (unlock_deferred muLib ⟨db, 0, none⟩ .returning _ (H1.out.cell 0) (H1.out.froz 0)).mono ?_
  rintro r u' w4 ⟨rfl, rfl, rfl⟩
  exact ⟨_, results_tmp rfl _ _ _, rfl, H1.out.lock 0, U1.out.setCell (fun _ => rfl) _⟩
set_option maxRecDepth 100000 in
set_option maxHeartbeats 2000000 in
theorem Writes_calls (base db mb : Nat) (k : DkV) (L : List Fl) (D : DataW Value) (w : World) (h : Dsk w base db mb 0 k L D) :
    Calls Tryd.prog 18 #[.pointer (some ⟨db, 0, none⟩)] w fun r w' => r = .returned (.int .i64 k.writes) ∧ Dsk w' base db mb 0 k L D ∧ Upd (fun i => i = db) w w' := by
  have H := Lib.hid h
  have H1 := Lib.hid (h.lock 1)
  have U1 := Lib.hid (upd_lock (db := db) (Below.refl w.heap.size w) (.int .i32 1))
  have c8' : w.cell? ⟨db, 8, none⟩ = some (.int .i64 k.writes) := h.cell 8
  clear h
  go_enter_defers Tryd.func18, Tryd.ntmps18
  go_wp2_with fail
  refine (lock_free muLib ⟨db, 0, none⟩ _ (H.out.cell 0) (H.out.froz 0)).mono ?_
  rintro r w1 ⟨rfl, rfl⟩
  go_wp2
  refine leaves_cons (f := 30) (args := #[.pointer (some ⟨db, 0, none⟩)]) (by simp) (by simp [go_sem]) ?_
  refine (unlock_deferred muLib ⟨db, 0, none⟩ .returning _ (H1.out.cell 0) (H1.out.froz 0)).mono ?_
  rintro r u' w4 ⟨rfl, rfl, rfl⟩
  exact ⟨_, results_tmp rfl _ _ _, rfl, H1.out.lock 0, U1.out.setCell (fun _ => rfl) _⟩
set_option maxRecDepth 100000 in
set_option maxHeartbeats 2000000 in
theorem On_calls (base db mb : Nat) (k : DkV) (L : List Fl) (D : DataW Value) (w : World) (h : Dsk w base db mb 0 k L D) :
    Calls Tryd.prog 27 #[.pointer (some ⟨db, 0, none⟩)] w fun r w' => r = .returned (.tuple #[]) ∧ Dsk w' base db mb 0 { k with off := false } L D ∧ Upd (fun i => i = db) w w' := by
  have H := Lib.hid h
  have h1 := h.lock 1
  have h2 := Dsk.set (m := 1) (k := k) (mb := mb) 7 (.bool false) 1 { k with off := false } rfl h1.blk h1.dge h1.fls
  have H2 := Lib.hid h2
  have U2 := Lib.hid ((upd_lock (db := db) (Below.refl w.heap.size w) (.int .i32 1)).setCell (p := ⟨db, 7, none⟩) (fun _ => rfl) (.bool false))
  have c7' : w.cell? ⟨db, 7, none⟩ = some (.bool k.off) := h.cell 7
  have f7 := h.froz 7
  clear h h1 h2
  go_enter_defers Tryd.func27, Tryd.ntmps27
  go_wp2_with fail
  refine (lock_free muLib ⟨db, 0, none⟩ _ (H.out.cell 0) (H.out.froz 0)).mono ?_
  rintro r w1 ⟨rfl, rfl⟩
  go_wp2
  refine leaves_cons (f := 30) (args := #[.pointer (some ⟨db, 0, none⟩)]) (by simp) (by simp [go_sem]) ?_
  refine (unlock_deferred muLib ⟨db, 0, none⟩ .returning _ (H2.out.cell 0) (H2.out.froz 0)).mono ?_
  rintro r u' w4 ⟨rfl, rfl, rfl⟩
  exact ⟨_, results_none rfl _ _ _, rfl, H2.out.lock 0, U2.out.setCell (fun _ => rfl) _⟩
set_option maxRecDepth 100000 in
set_option maxHeartbeats 2000000 in
theorem Room_calls (base db mb : Nat) (m : Int) (k : DkV) (L : List Fl) (D : DataW Value) (w : World) (h : Dsk w base db mb m k L D) :
    Calls Tryd.prog 20 #[.pointer (some ⟨db, 0, none⟩)] w fun r w' => r = .returned (.int .i64 k.room) ∧ w = w' := by
  have c2 : w.cell? ⟨db, 2, none⟩ = some (.int .i64 k.room) := h.cell 2
  clear h
  go_enter Tryd.func20, Tryd.ntmps20
  go_wp2
  go_ret
  exact ⟨rfl, rfl⟩
end Go.Proofs.YtcmllfnhdodbdaaDoor
