/- disk: Arm. -/
import Derived.Test.YtcmllfnhdodbdaaDoorAppend
namespace Go.Proofs.YtcmllfnhdodbdaaDoor
set_option linter.unusedVariables false
set_option linter.unusedSimpArgs false
open Go.RowKit Go.Maps Go.MuLone
set_option maxRecDepth 100000 in
set_option maxHeartbeats 2000000 in
theorem Arm_calls (base db mb : Nat) (k : DkV) (L : List Fl) (D : DataW Value) (n keep : Int) (w : World) (h : Dsk w base db mb 0 k L D) :
    Calls Tryd.prog 26 #[.pointer (some ⟨db, 0, none⟩), .int .i64 n, .int .i64 keep] w fun r w' => r = .returned (.tuple #[]) ∧ Dsk w' base db mb 0 { k with armed := max 0 n, keep := keep } L D ∧ Upd (fun i => i = db) w w' := by
  have H := Lib.hid h
  have h1 := h.lock 1
  have h2 := Dsk.set (m := 1) (k := k) (mb := mb) 5 (.int .i64 (max 0 n)) 1 { k with armed := max 0 n } rfl h1.blk h1.dge h1.fls
  have h3 := Dsk.set (m := 1) (k := { k with armed := max 0 n }) (mb := mb) 6 (.int .i64 keep) 1 { k with armed := max 0 n, keep := keep } rfl h2.blk h2.dge h2.fls
  have H2 := Lib.hid h3
  have U2 := Lib.hid (((upd_lock (db := db) (Below.refl w.heap.size w) (.int .i32 1)).setCell (p := ⟨db, 5, none⟩) (fun _ => rfl) (.int .i64 (max 0 n))).setCell (p := ⟨db, 6, none⟩) (fun _ => rfl) (.int .i64 keep))
  have c5' : w.cell? ⟨db, 5, none⟩ = some (.int .i64 k.armed) := h.cell 5
  have f5 := h.froz 5
  have c6' : w.cell? ⟨db, 6, none⟩ = some (.int .i64 k.keep) := h.cell 6
  have f6 := h.froz 6
  clear h h1 h2 h3
  go_enter_defers Tryd.func26, Tryd.ntmps26
  go_wp2_with fail
  refine (lock_free muLib ⟨db, 0, none⟩ _ (H.out.cell 0) (H.out.froz 0)).mono ?_
  rintro r w1 ⟨rfl, rfl⟩
  go_wp2
  refine leaves_cons (f := 30) (args := #[.pointer (some ⟨db, 0, none⟩)]) (by simp) (by simp [go_sem]) ?_
  refine (unlock_deferred muLib ⟨db, 0, none⟩ .returning _ (H2.out.cell 0) (H2.out.froz 0)).mono ?_
  rintro r u' w4 ⟨rfl, rfl, rfl⟩
  exact ⟨_, results_none rfl _ _ _, rfl, H2.out.lock 0, U2.out.setCell (fun _ => rfl) _⟩
end Go.Proofs.YtcmllfnhdodbdaaDoor
