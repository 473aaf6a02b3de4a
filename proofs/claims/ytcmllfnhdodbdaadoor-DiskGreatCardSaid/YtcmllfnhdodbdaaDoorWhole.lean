/- disk.whole: a write that is done or not. -/
import Derived.Test.YtcmllfnhdodbdaaDoorWr
namespace Go.Proofs.YtcmllfnhdodbdaaDoor
set_option linter.unusedVariables false
set_option linter.unusedSimpArgs false
open Go.RowKit Go.Maps
/-- Torn, a whole write is done where something is kept. -/
def WhP (QA : World → World → Prop) (keep : Int) (a b : World) : Prop := (0 < keep → QA a b) ∧ (¬ 0 < keep → a = b)
set_option maxRecDepth 100000 in
set_option maxHeartbeats 1000000 in
theorem whole1_calls (keep : Int) (p : Nat) (fa : FuncId) (capA : Array Value) (QA : World → World → Prop) (w : World) (hc : w.cell? ⟨p, 0, none⟩ = some (.func (.func fa) #[] capA))
    (hfa : ∀ (xs : Array Value) (w' : World), (callFunc fa xs).run Tryd.prog w' = .ok (.enter fa xs) w')
    (hA : 0 < keep → Calls Tryd.prog fa capA w fun r w' => r = .returned (.tuple #[]) ∧ QA w w') :
    Calls Tryd.prog 50 #[.int .i64 keep, .pointer (some ⟨p, 0, none⟩)] w fun r w' => r = .returned (.tuple #[]) ∧ WhP QA keep w w' := by
  by_cases h1 : 0 < keep
  · have t1 : decide (0 < keep) = true := decide_eq_true h1
    have HA := Lib.hid (hA h1)
    have F1 := Lib.hid (fun (w' : World) (hq : QA w w') => show WhP QA keep w w' from ⟨fun _ => hq, fun hn => absurd h1 hn⟩)
    clear hA h1
    go_enter Tryd.func50, Tryd.ntmps50
    go_wp2_with fail
    refine HA.out.mono ?_
    rintro r w1 ⟨rfl, hq⟩
    have FI := Lib.hid (F1.out w1 hq)
    clear hq
    go_wp2
    go_end0
    exact ⟨rfl, FI.out⟩
  · have t1 : decide (0 < keep) = false := decide_eq_false h1
    have F1 := Lib.hid (show WhP QA keep w w from ⟨fun h => absurd h h1, fun _ => rfl⟩)
    clear hA h1
    go_enter Tryd.func50, Tryd.ntmps50
    go_wp2
    go_end0
    exact ⟨rfl, F1.out⟩
set_option maxRecDepth 100000 in
set_option maxHeartbeats 1000000 in
theorem whole_calls (base db mb : Nat) (k : DkV) (m : Int) (L : List Fl) (D : DataW Value) (fa : FuncId) (capA : Array Value) (QA : World → World → Prop) (w : World) (h : Dsk w base db mb m k L D)
    (hb : k.writes ≤ 4611686018427387904 ∧ -4611686018427387904 ≤ k.writes) (hb2 : k.armed ≤ 9223372036854775807 ∧ -9223372036854775808 ≤ k.armed)
    (hfa : ∀ (xs : Array Value) (w' : World), (callFunc fa xs).run Tryd.prog w' = .ok (.enter fa xs) w')
    (hA : ∀ w1, Dsk w1 base db mb m (wrK k) L D → Upd (fun i => i = db) w w1 → Calls Tryd.prog fa capA w1 fun r w' => r = .returned (.tuple #[]) ∧ QA w1 w') :
    Calls Tryd.prog 38 #[.pointer (some ⟨db, 0, none⟩), .func (.func fa) #[] capA] w fun r w' => WrP w w' base db mb m k L D QA (WhP QA k.keep) r := by
  have hlt := h.lt
  obtain ⟨w0, hw0⟩ : ∃ q, w.alloc (.cells #[.func (.func fa) #[] capA] 1) = q := ⟨_, rfl⟩
  have b0 : Below w.heap.size w w0 := by rw [← hw0]; exact (Below.refl _ w).alloc (Nat.le_refl _) _
  have q0 : w0.cell? ⟨w.heap.size, 0, none⟩ = some (.func (.func fa) #[] capA) := by rw [← hw0, cell_of_row' (heap_alloc_new w _)]; rfl
  have up : ∀ w1, Upd (fun i => i = db) w0 w1 → Upd (fun i => i = db) w w1 := fun w1 hu => (Upd.mono (S' := fun i => i = db) (Upd.ofBelow b0) (fun _ s _ => s.elim)).same hu
  have WC := write_calls base db mb m k L D fa 50 capA #[.pointer (some ⟨w.heap.size, 0, none⟩)] QA (WhP QA k.keep) w0 (h.below b0) hb hb2 hfa (fun xs w' => Tryd.call50 xs w') (fun _ w1 hd hu => hA w1 hd (up w1 hu))
    (fun _ w1 hd hu => whole1_calls k.keep w.heap.size fa capA QA w1 (hu.cell' q0 (fun s => by have s' : w.heap.size = db := s; omega)) hfa (fun _ => hA w1 hd (up w1 hu)))
  obtain ⟨ec, hec⟩ : ∃ q : Int, (if k.armed = 1 then 94 else 0) = q := ⟨_, rfl⟩
  have HEC := Lib.hid hec
  clear hec
  have WCH := Lib.hid WC
  have W0 := Lib.hid hw0
  have UP := Lib.hid up
  have q0' := Lib.hid q0
  have hmf : ∀ (fn : Fn) (first cap : Array Value) (w : World), (Instr.makeFunc fn first cap).run Tryd.prog w = .ok (.func fn first cap) w := fun _ _ _ _ => rfl
  clear WC hA up hw0 b0 h hb hb2 q0
  go_enter Tryd.func38, Tryd.ntmps38
  go_wp2_with fail
  rw [W0.out]
  refine WCH.out.mono ?_
  rintro r w2 ⟨hr, w1, hu, hd, hq⟩
  rw [HEC.out] at hr
  subst hr
  have HU := Lib.hid (UP.out w1 hu); have HD := Lib.hid hd; have HQ := Lib.hid hq
  clear hu hd hq
  go_wp2
  go_ret
  exact ⟨by rw [HEC.out]; rfl, w1, HU.out, HD.out, HQ.out⟩
end Go.Proofs.YtcmllfnhdodbdaaDoor
