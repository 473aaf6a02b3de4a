/- What a write leaves of a disk, in plain words. -/
import Derived.Test.YtcmllfnhdodbdaaDoorCut
import Derived.Test.YtcmllfnhdodbdaaDoorAppK
import Derived.Test.YtcmllfnhdodbdaaDoorWhole
namespace Go.Proofs.YtcmllfnhdodbdaaDoor
set_option linter.unusedVariables false
set_option linter.unusedSimpArgs false
open Go.RowKit Go.Maps
/-- The disk behind a write, the lock still held. -/
def WkP (w w' : World) (base db mb : Nat) (L : List Fl) (s' : DS) : Prop :=
  ∃ L' D', Dsk w' base db mb 1 s'.k L' D' ∧ Rep L' s'.C ∧ s'.ok ∧ Upd (DkF db mb L) w w' ∧ ∀ i, DkF db mb L' i → DkF db mb L i ∨ w.heap.size ≤ i
theorem WkP.done {w w8 w9 : World} {base db mb : Nat} {F : Nat → Prop} {L : List Fl} {s' : DS} (h : WkP w8 w9 base db mb L s') (hu : Upd (fun i => i = db) w w8) (hF : ∀ i, DkF db mb L i → F i) : DkTo w (w9.setCell ⟨db, 0, none⟩ (.int .i32 0)) base db F s' := by
  obtain ⟨L', D', h1, h2, h3, h4, h5⟩ := h
  exact DkTo.of (s := s') hF (h1.lock 0) h2 h3 (((hu.mono (fun i s _ => .inl s)).same h4).setCell (p := ⟨db, 0, none⟩) (fun _ => .inl rfl) _) (fun i hi => (h5 i hi).elim .inl (fun k => .inr (Nat.le_trans hu.size k)))
theorem whole_to {w w' : World} {base db mb : Nat} {s : DS} {L : List Fl} {D : DataW Value} {QA : World → World → Prop} {r : Ending} {f : DS → DS} (hrep : Rep L s.C) (hok : s.ok) (h : WrP w w' base db mb 1 s.k L D QA (WhP QA s.k.keep) r)
    (hq : ∀ w1 w', QA w1 w' → ∃ L', WF w1 w' base db mb 1 (f s.wr).k L L' ∧ Rep L' (f s.wr).C) (hf : (f s.wr).ok) : r = .returned (.int .i64 (s.whole f).1) ∧ WkP w w' base db mb L (s.whole f).2 := by
  obtain ⟨h1, w1, h2, h3, h4⟩ := h
  rw [kwr] at h3
  have ek : s.k.armed = s.armed := rfl
  have ek2 : s.k.keep = s.keep := rfl
  rw [ek] at h1 h4
  rw [ek2] at h4
  have fin : QA w1 w' → WkP w w' base db mb L (f s.wr) := by
    intro hqa
    obtain ⟨L', ⟨D', g1, g2, g3⟩, g4⟩ := hq w1 w' hqa
    exact ⟨L', D', g1, g4, hf, (h2.mono (fun i s _ => .inl s)).same g2, fun i hi => (g3 i hi).elim .inl (fun k => .inr (Nat.le_trans h2.size k))⟩
  unfold DS.whole
  by_cases c : s.armed = 1
  · rw [if_pos c] at h1 h4
    rw [if_pos c]
    refine ⟨h1, ?_⟩
    by_cases d : 0 < s.keep
    · show WkP w w' base db mb L (if 0 < s.keep then f s.wr else s.wr)
      rw [if_pos d]
      exact fin (h4.1 d)
    · show WkP w w' base db mb L (if 0 < s.keep then f s.wr else s.wr)
      rw [if_neg d]
      have e := h4.2 d
      subst e
      exact ⟨L, D, h3, hrep, hok.wr, h2.mono (fun i s _ => .inl s), fun i hi => .inl hi⟩
  · rw [if_neg c] at h1 h4
    rw [if_neg c]
    exact ⟨h1, fin h4⟩
theorem k_putI {s : DS} (hs : SortedC s.C) (nm x : List UInt8) (u : Int) (hu : u = (sumC s.C : Int) - (bytC s.C nm).length + x.length) : { s.wr.k with used := u } = (s.wr.put nm x).k := by
  have h := sum_set hs nm x
  have e : u = ((sumC (setC s.C nm x) : Nat) : Int) := by omega
  rw [e]
  rfl
theorem k_del {s : DS} (hs : SortedC s.C) (nm : List UInt8) (u : Int) (hu : u = (sumC s.C : Int) - (bytC s.C nm).length) : { s.wr.k with used := u } = (s.wr.del nm).k := by
  have h := sum_del hs nm
  have e : u = ((sumC (delC s.C nm) : Nat) : Int) := by omega
  rw [e]
  rfl
end Go.Proofs.YtcmllfnhdodbdaaDoor
