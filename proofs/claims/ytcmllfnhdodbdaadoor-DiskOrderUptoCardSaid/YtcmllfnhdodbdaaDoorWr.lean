/- disk.write: a write that is carried out, unless it is torn. -/
import Derived.Test.YtcmllfnhdodbdaaDoorAppC
namespace Go.Proofs.YtcmllfnhdodbdaaDoor
set_option linter.unusedVariables false
set_option linter.unusedSimpArgs false
open Go.RowKit Go.Maps
/-- A disk's numbers behind a write's beginning. -/
def wrK (k : DkV) : DkV := { k with writes := k.writes + 1, armed := if 0 < k.armed then k.armed - 1 else k.armed, off := k.off || decide (k.armed = 1) }
def WrP (w w' : World) (base db mb : Nat) (m : Int) (k : DkV) (L : List Fl) (D : DataW Value) (QA QP : World → World → Prop) (r : Ending) : Prop :=
  r = .returned (.int .i64 (if k.armed = 1 then 94 else 0)) ∧ ∃ w1, Upd (fun i => i = db) w w1 ∧ Dsk w1 base db mb m (wrK k) L D ∧ (if k.armed = 1 then QP w1 w' else QA w1 w')
set_option maxRecDepth 100000 in
set_option maxHeartbeats 2000000 in
theorem write_calls (base db mb : Nat) (m : Int) (k : DkV) (L : List Fl) (D : DataW Value) (fa fp : FuncId) (capA capP : Array Value) (QA QP : World → World → Prop) (w : World) (h : Dsk w base db mb m k L D)
    (hb : k.writes ≤ 4611686018427387904 ∧ -4611686018427387904 ≤ k.writes) (hb2 : k.armed ≤ 9223372036854775807 ∧ -9223372036854775808 ≤ k.armed)
    (hfa : ∀ (xs : Array Value) (w' : World), (callFunc fa xs).run Tryd.prog w' = .ok (.enter fa xs) w') (hfp : ∀ (xs : Array Value) (w' : World), (callFunc fp xs).run Tryd.prog w' = .ok (.enter fp xs) w')
    (hA : k.armed ≠ 1 → ∀ w1, Dsk w1 base db mb m (wrK k) L D → Upd (fun i => i = db) w w1 → Calls Tryd.prog fa capA w1 fun r w' => r = .returned (.tuple #[]) ∧ QA w1 w')
    (hP : k.armed = 1 → ∀ w1, Dsk w1 base db mb m (wrK k) L D → Upd (fun i => i = db) w w1 → Calls Tryd.prog fp (#[.int .i64 k.keep] ++ capP) w1 fun r w' => r = .returned (.tuple #[]) ∧ QP w1 w') :
    Calls Tryd.prog 33 #[.pointer (some ⟨db, 0, none⟩), .func (.func fa) #[] capA, .func (.func fp) #[] capP] w fun r w' => WrP w w' base db mb m k L D QA QP r := by
  have c5 : w.cell? ⟨db, 5, none⟩ = some (.int .i64 k.armed) := h.cell 5
  have c6 : w.cell? ⟨db, 6, none⟩ = some (.int .i64 k.keep) := h.cell 6
  have c7 : w.cell? ⟨db, 7, none⟩ = some (.bool k.off) := h.cell 7
  have c8 : w.cell? ⟨db, 8, none⟩ = some (.int .i64 k.writes) := h.cell 8
  have f5 := h.froz 5
  have f7 := h.froz 7
  have f8 := h.froz 8
  obtain ⟨b1, b2⟩ := hb
  obtain ⟨b3, b4⟩ := hb2
  have U1 := (Upd.refl (fun i => i = db) w).setCell (p := ⟨db, 8, none⟩) (fun _ => rfl) (.int .i64 (k.writes + 1))
  have D1 := Dsk.set (m := m) (k := k) (mb := mb) 8 (.int .i64 (k.writes + 1)) m { k with writes := k.writes + 1 } rfl h.blk h.dge h.fls
  by_cases h1 : 0 < k.armed
  · have t1 : decide (0 < k.armed) = true := decide_eq_true h1
    have U2 := U1.setCell (p := ⟨db, 5, none⟩) (fun _ => rfl) (.int .i64 (k.armed - 1))
    have D2 := Dsk.set (m := m) (k := { k with writes := k.writes + 1 }) (mb := mb) 5 (.int .i64 (k.armed - 1)) m { k with writes := k.writes + 1, armed := k.armed - 1 } rfl D1.blk D1.dge D1.fls
    by_cases h2 : k.armed = 1
    · have t2 : (k.armed - 1 == 0) = true := beq_iff_eq.2 (by omega)
      have U3 := U2.setCell (p := ⟨db, 7, none⟩) (fun _ => rfl) (.bool true)
      have D3 := Dsk.set (m := m) (k := { k with writes := k.writes + 1, armed := k.armed - 1 }) (mb := mb) 7 (.bool true) m { k with writes := k.writes + 1, armed := k.armed - 1, off := true } rfl D2.blk D2.dge D2.fls
      have e : ({ k with writes := k.writes + 1, armed := k.armed - 1, off := true } : DkV) = wrK k := by unfold wrK; rw [if_pos h1]; simp [h2]
      rw [e] at D3
      have PC := Lib.hid (hP h2 _ D3 U3)
      have D3H := Lib.hid D3; have U3H := Lib.hid U3
      have F1 : Hid ((if k.armed = 1 then (94 : Int) else 0) = 94) := if_pos h2
      have F2 : Hid (∀ a b, (if k.armed = 1 then QP a b else QA a b) = QP a b) := fun a b => if_pos h2
      clear hA hP h D1 D2 D3 U1 U2 U3 e h2
      go_enter Tryd.func33, Tryd.ntmps33
      go_wp2_with fail
      refine PC.out.mono ?_
      rintro r w1 ⟨rfl, hq⟩
      have HQ := Lib.hid hq; clear hq
      go_wp2
      go_ret
      unfold WrP
      rw [F1.out]
      refine ⟨rfl, _, U3H.out, D3H.out, ?_⟩
      rw [F2.out]
      exact HQ.out
    · have t2 : (k.armed - 1 == 0) = false := beq_eq_false_iff_ne.2 (by omega)
      have e : ({ k with writes := k.writes + 1, armed := k.armed - 1 } : DkV) = wrK k := by unfold wrK; rw [if_pos h1]; simp [h2]
      rw [e] at D2
      have PC := Lib.hid (hA h2 _ D2 U2)
      have D3H := Lib.hid D2; have U3H := Lib.hid U2
      have F1 : Hid ((if k.armed = 1 then (94 : Int) else 0) = 0) := if_neg h2
      have F2 : Hid (∀ a b, (if k.armed = 1 then QP a b else QA a b) = QA a b) := fun a b => if_neg h2
      clear hA hP h D1 D2 U1 U2 e h2
      go_enter Tryd.func33, Tryd.ntmps33
      go_wp2_with fail
      refine PC.out.mono ?_
      rintro r w1 ⟨rfl, hq⟩
      have HQ := Lib.hid hq; clear hq
      go_wp2
      go_ret
      unfold WrP
      rw [F1.out]
      refine ⟨rfl, _, U3H.out, D3H.out, ?_⟩
      rw [F2.out]
      exact HQ.out
  · have t1 : decide (0 < k.armed) = false := decide_eq_false h1
    have h2 : k.armed ≠ 1 := by omega
    have e : ({ k with writes := k.writes + 1 } : DkV) = wrK k := by unfold wrK; rw [if_neg h1]; simp [h2]
    rw [e] at D1
    have PC := Lib.hid (hA h2 _ D1 U1)
    have D3H := Lib.hid D1; have U3H := Lib.hid U1
    have F1 : Hid ((if k.armed = 1 then (94 : Int) else 0) = 0) := if_neg h2
    have F2 : Hid (∀ a b, (if k.armed = 1 then QP a b else QA a b) = QA a b) := fun a b => if_neg h2
    clear hA hP h D1 U1 e h2
    go_enter Tryd.func33, Tryd.ntmps33
    go_wp2_with fail
    refine PC.out.mono ?_
    rintro r w1 ⟨rfl, hq⟩
    have HQ := Lib.hid hq; clear hq
    go_wp2
    go_ret
    unfold WrP
    rw [F1.out]
    refine ⟨rfl, _, U3H.out, D3H.out, ?_⟩
    rw [F2.out]
    exact HQ.out
end Go.Proofs.YtcmllfnhdodbdaaDoor
