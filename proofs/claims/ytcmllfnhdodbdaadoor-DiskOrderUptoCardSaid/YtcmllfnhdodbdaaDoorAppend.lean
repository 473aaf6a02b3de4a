/- (*disk.Disk).Append. -/
import Derived.Test.YtcmllfnhdodbdaaDoorAppD
import Derived.Test.YtcmllfnhdodbdaaDoorWr
import Derived.Test.YtcmllfnhdodbdaaDoorNamed
import Derived.Conc.MuLone
import Derived.Defers
namespace Go.Proofs.YtcmllfnhdodbdaaDoor
set_option linter.unusedVariables false
set_option linter.unusedSimpArgs false
open Go.RowKit Go.Maps Go.MuLone
/-- Why an Append is refused; 0: it is not. -/
def appE (k : DkV) (L : List Fl) (nm b : List UInt8) : Int :=
  if mayR k.off L false [nm] ≠ 0 then mayR k.off L false [nm] else if (hasF L nm = false ∧ 64 ≤ L.length) ∨ k.room - k.used < b.length then 93 else 0
/-- The lock is taken, or let go. -/
theorem Dsk.lock {w : World} {base db mb : Nat} {m : Int} {k : DkV} {L : List Fl} {D : DataW Value} (h : Dsk w base db mb m k L D) (m' : Int) : Dsk (w.setCell ⟨db, 0, none⟩ (.int .i32 m')) base db mb m' k L D :=
  Dsk.set (m := m) (k := k) (mb := mb) 0 (.int .i32 m') m' k rfl h.blk h.dge h.fls
theorem upd_lock {w w' : World} {db : Nat} (h : Below w.heap.size w w') (u : Value) : Upd (fun i => i = db) w (w'.setCell ⟨db, 0, none⟩ u) :=
  (Upd.mono (S' := fun i => i = db) (Upd.ofBelow h) (fun _ s _ => s.elim)).setCell (p := ⟨db, 0, none⟩) (fun _ => rfl) u
set_option maxRecDepth 100000 in
set_option maxHeartbeats 4000000 in
theorem Append_off (base db mb : Nat) (k : DkV) (L : List Fl) (D : DataW Value) (nm b : List UInt8) (ba : Option Addr) (bc : Nat) (w : World) (h : Dsk w base db mb 0 k L D) (hnm : nm.length ≤ 140737488351232) (he : mayR k.off L false [nm] ≠ 0) :
    Calls Tryd.prog 10 #[.pointer (some ⟨db, 0, none⟩), .string ⟨nm.toArray⟩, .slice ba b.length bc] w fun r w' => r = .returned (.int .i64 (mayR k.off L false [nm])) ∧ Dsk w' base db mb 0 k L D ∧ Upd (fun i => i = db) w w' := by
  have hlt := h.lt
  obtain ⟨w0, hw0⟩ : ∃ q, ((w.alloc (.cells #[.pointer (some ⟨db, 0, none⟩)] 24)).alloc (.cells #[.string ⟨nm.toArray⟩] 9)).alloc (.cells #[.slice ba b.length bc] 23) = q := ⟨_, rfl⟩
  have b0 : Below w.heap.size w w0 := by rw [← hw0]; exact (((Below.refl _ w).alloc (Nat.le_refl _) _).alloc (by simp) _).alloc (by simp; omega) _
  have s0 : w0.heap.size = w.heap.size + 1 + 1 + 1 := by rw [← hw0, World.size_alloc, World.size_alloc, World.size_alloc]
  have h0 := h.below b0
  have q0 : w0.cell? ⟨w.heap.size, 0, none⟩ = some (.pointer (some ⟨db, 0, none⟩)) := by
    rw [← hw0, cell_of_row' ((Below.heap_alloc _ _ _ (by rw [World.size_alloc, World.size_alloc]; omega)).trans ((Below.heap_alloc _ _ _ (by rw [World.size_alloc]; omega)).trans (heap_alloc_new w _)))]; rfl
  have q1 : w0.cell? ⟨w.heap.size + 1, 0, none⟩ = some (.string ⟨nm.toArray⟩) := by
    have hh := heap_alloc_new (w.alloc (.cells #[.pointer (some ⟨db, 0, none⟩)] 24)) (.cells #[.string ⟨nm.toArray⟩] 9)
    rw [World.size_alloc] at hh
    rw [← hw0, cell_of_row' ((Below.heap_alloc _ _ _ (by rw [World.size_alloc, World.size_alloc]; omega)).trans hh)]; rfl
  have q2 : w0.cell? ⟨w.heap.size + 1 + 1, 0, none⟩ = some (.slice ba b.length bc) := by
    have hh := heap_alloc_new ((w.alloc (.cells #[.pointer (some ⟨db, 0, none⟩)] 24)).alloc (.cells #[.string ⟨nm.toArray⟩] 9)) (.cells #[.slice ba b.length bc] 23)
    rw [World.size_alloc, World.size_alloc] at hh
    rw [← hw0, cell_of_row' hh]; rfl
  have n0 : ¬ db = w.heap.size := by omega
  have n1 : ¬ db = w.heap.size + 1 := by omega
  have n2 : ¬ db = w.heap.size + 1 + 1 := by omega
  have SZ0 : Hid (w0.heap.size = w.heap.size + 1 + 1 + 1) := s0
  have h1 := h0.lock 1
  have z0 : (w0.setCell ⟨db, 0, none⟩ (.int .i32 1)).heap.size = w0.heap.size := by simp [World.setCell]
  have h2 := h1.below ((Below.refl _ _).alloc (Nat.le_refl _) (.cells #[.string ⟨nm.toArray⟩] 9))
  have MC := may_calls base db mb 1 k L D false w0.heap.size 1 [nm] _ h2 (fun i hi => by
    have hi' : i = 0 := by simp at hi; exact hi
    subst hi'
    have hh := heap_alloc_new (w0.setCell ⟨db, 0, none⟩ (.int .i32 1)) (.cells #[.string ⟨nm.toArray⟩] 9)
    rw [z0] at hh
    rw [cell_of_row' hh]; rfl) (by simp) (by simp) (fun x hx => by rw [List.mem_singleton] at hx; rw [hx]; exact hnm)
  rw [show [nm].length = 1 from rfl] at MC
  have MCH := Lib.hid MC
  have H0 := Lib.hid h0; have H2 := Lib.hid h2; have B0 := Lib.hid b0; have W0 := Lib.hid hw0
  have U2 := Lib.hid ((upd_lock (db := db) b0 (.int .i32 1)).alloc (.cells #[.string ⟨nm.toArray⟩] 9))
  have te : (mayR k.off L false [nm] != 0) = true := by rw [bne_iff_ne]; exact he
  generalize mayR k.off L false [nm] = e at *
  clear hnm he MC h0 h1 h2 b0 s0 hw0 h z0
  go_enter_defers Tryd.func10, Tryd.ntmps10
  go_wp2_with fail
  rw [W0.out]
  refine (lock_free muLib ⟨db, 0, none⟩ _ (H0.out.cell 0) (H0.out.froz 0)).mono ?_
  rintro r w1 ⟨rfl, rfl⟩
  go_wp2_with fail
  refine MCH.out.mono ?_
  rintro r w3 ⟨rfl, hb3⟩
  have H3 := Lib.hid (H2.out.below hb3)
  have U3 := Lib.hid (U2.out.same ((Upd.ofBelow hb3).mono (fun _ s _ => s.elim)))
  clear hb3
  go_wp2
  refine leaves_cons (f := 30) (args := #[.pointer (some ⟨db, 0, none⟩)]) (by simp) (by simp [go_sem]) ?_
  refine (unlock_deferred muLib ⟨db, 0, none⟩ .returning _ (H3.out.cell 0) (H3.out.froz 0)).mono ?_
  rintro r u' w4 ⟨rfl, rfl, rfl⟩
  exact ⟨_, results_tmp rfl _ _ _, rfl, H3.out.lock 0, U3.out.setCell (fun _ => rfl) _⟩
end Go.Proofs.YtcmllfnhdodbdaaDoor
