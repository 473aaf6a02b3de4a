/- What a write leaves of a disk, in plain words. -/
import Derived.Test.YtcmllfnhdodbdaaDoorWr
import Derived.Test.YtcmllfnhdodbdaaDoorAppOn
import Derived.Test.YtcmllfnhdodbdaaDoorRep
import Derived.Test.YtcmllfnhdodbdaaDoorCut
/- disk.whole: a write that is done or not. -/
namespace Go.Proofs.YtcmllfnhdodbdaaDoor
set_option linter.unusedVariables false
set_option linter.unusedSimpArgs false
open Go.RowKit Go.Maps
/-- Torn, a whole write is done where something is kept. -/
def WhP (QA : World → World → Prop) (keep : Int) (a b : World) : Prop := (0 < keep → QA a b) ∧ (¬ 0 < keep → a = b)
set_option maxRecDepth 100000 in
set_option maxHeartbeats 1000000 in
theorem whole1_calls (keep : Int) (p : Nat) (fa : FuncId) (capA : Array Value) (QA : World → World → Prop) (w : World) (hc : w.cell? ⟨p, 0, none⟩ = some (.func (.func fa) #[] capA))
    (hfa : ∀ (xs : Array Value) (w' : World), (callFunc fa xs).run Tryd.prog w' = .ok (.enter fa xs) w')
    (hA : 0 < keep → Calls Tryd.prog fa capA w fun r w' => r = .returned (.tuple #[]) ∧ QA w w') :
    Calls Tryd.prog 50 #[.int .i64 keep, .pointer (some ⟨p, 0, none⟩)] w fun r w' => r = .returned (.tuple #[]) ∧ WhP QA keep w w' := by
  by_cases h1 : 0 < keep
  · have t1 : decide (0 < keep) = true := decide_eq_true h1
    have HA := Lib.hid (hA h1)
    have F1 := Lib.hid (fun (w' : World) (hq : QA w w') => show WhP QA keep w w' from ⟨fun _ => hq, fun hn => absurd h1 hn⟩)
    clear hA h1
    go_enter Tryd.func50, Tryd.ntmps50
    go_wp2_with fail
    refine HA.out.mono ?_
    rintro r w1 ⟨rfl, hq⟩
    have FI := Lib.hid (F1.out w1 hq)
    clear hq
    go_wp2
    go_end0
    exact ⟨rfl, FI.out⟩
  · have t1 : decide (0 < keep) = false := decide_eq_false h1
    have F1 := Lib.hid (show WhP QA keep w w from ⟨fun h => absurd h h1, fun _ => rfl⟩)
    clear hA h1
    go_enter Tryd.func50, Tryd.ntmps50
    go_wp2
    go_end0
    exact ⟨rfl, F1.out⟩
set_option maxRecDepth 100000 in
set_option maxHeartbeats 1000000 in
theorem whole_calls (base db mb : Nat) (k : DkV) (m : Int) (L : List Fl) (D : DataW Value) (fa : FuncId) (capA : Array Value) (QA : World → World → Prop) (w : World) (h : Dsk w base db mb m k L D)
    (hb : k.writes ≤ 4611686018427387904 ∧ -4611686018427387904 ≤ k.writes) (hb2 : k.armed ≤ 9223372036854775807 ∧ -9223372036854775808 ≤ k.armed)
    (hfa : ∀ (xs : Array Value) (w' : World), (callFunc fa xs).run Tryd.prog w' = .ok (.enter fa xs) w')
    (hA : ∀ w1, Dsk w1 base db mb m (wrK k) L D → Upd (fun i => i = db) w w1 → Calls Tryd.prog fa capA w1 fun r w' => r = .returned (.tuple #[]) ∧ QA w1 w') :
    Calls Tryd.prog 38 #[.pointer (some ⟨db, 0, none⟩), .func (.func fa) #[] capA] w fun r w' => WrP w w' base db mb m k L D QA (WhP QA k.keep) r := by
  have hlt := h.lt
  obtain ⟨w0, hw0⟩ : ∃ q, w.alloc (.cells #[.func (.func fa) #[] capA] 1) = q := ⟨_, rfl⟩
  have b0 : Below w.heap.size w w0 := by rw [← hw0]; exact (Below.refl _ w).alloc (Nat.le_refl _) _
  have q0 : w0.cell? ⟨w.heap.size, 0, none⟩ = some (.func (.func fa) #[] capA) := by rw [← hw0, cell_of_row' (heap_alloc_new w _)]; rfl
  have up : ∀ w1, Upd (fun i => i = db) w0 w1 → Upd (fun i => i = db) w w1 := fun w1 hu => (Upd.mono (S' := fun i => i = db) (Upd.ofBelow b0) (fun _ s _ => s.elim)).same hu
  have WC := write_calls base db mb m k L D fa 50 capA #[.pointer (some ⟨w.heap.size, 0, none⟩)] QA (WhP QA k.keep) w0 (h.below b0) hb hb2 hfa (fun xs w' => Tryd.call50 xs w') (fun _ w1 hd hu => hA w1 hd (up w1 hu))
    (fun _ w1 hd hu => whole1_calls k.keep w.heap.size fa capA QA w1 (hu.cell' q0 (fun s => by have s' : w.heap.size = db := s; omega)) hfa (fun _ => hA w1 hd (up w1 hu)))
  obtain ⟨ec, hec⟩ : ∃ q : Int, (if k.armed = 1 then 94 else 0) = q := ⟨_, rfl⟩
  have HEC := Lib.hid hec
  clear hec
  have WCH := Lib.hid WC
  have W0 := Lib.hid hw0
  have UP := Lib.hid up
  have q0' := Lib.hid q0
  have hmf : ∀ (fn : Fn) (first cap : Array Value) (w : World), (Instr.makeFunc fn first cap).run Tryd.prog w = .ok (.func fn first cap) w := fun _ _ _ _ => rfl
  clear WC hA up hw0 b0 h hb hb2 q0
  go_enter Tryd.func38, Tryd.ntmps38
  go_wp2_with fail
  rw [W0.out]
  refine WCH.out.mono ?_
  rintro r w2 ⟨hr, w1, hu, hd, hq⟩
  rw [HEC.out] at hr
  subst hr
  have HU := Lib.hid (UP.out w1 hu); have HD := Lib.hid hd; have HQ := Lib.hid hq
  clear hu hd hq
  go_wp2
  go_ret
  exact ⟨by rw [HEC.out]; rfl, w1, HU.out, HD.out, HQ.out⟩
end Go.Proofs.YtcmllfnhdodbdaaDoor
/- Append, in plain words. -/
namespace Go.Proofs.YtcmllfnhdodbdaaDoor
open Go.RowKit Go.Maps
/-- A call's answer, and what becomes of the disk. -/
def DkR (w w' : World) (base db : Nat) (F : Nat → Prop) (a : Int × DS) (r : Ending) : Prop := r = .returned (.int .i64 a.1) ∧ DkTo w w' base db F a.2
theorem DkTo.of {w w' : World} {base db mb : Nat} {F : Nat → Prop} {s s' : DS} {L L' : List Fl} {D' : DataW Value} (hF : ∀ i, DkF db mb L i → F i) (h : Dsk w' base db mb 0 s'.k L' D') (hr : Rep L' s'.C) (hok : s'.ok) (hu : Upd (DkF db mb L) w w') (hf : ∀ i, DkF db mb L' i → DkF db mb L i ∨ w.heap.size ≤ i) : DkTo w w' base db F s' :=
  ⟨DkF db mb L', ⟨mb, L', D', h, hr, hok, fun _ s => s⟩, hu.mono (fun i s _ => hF i s), fun i s => (hf i s).elim (fun s => .inl (hF i s)) .inr⟩
theorem DkTo.same {w w' : World} {base db mb : Nat} {F : Nat → Prop} {s s' : DS} {L : List Fl} {D' : DataW Value} (hF : ∀ i, DkF db mb L i → F i) (h : Dsk w' base db mb 0 s'.k L D') (hr : Rep L s'.C) (hok : s'.ok) (hu : Upd (fun i => i = db) w w') : DkTo w w' base db F s' :=
  DkTo.of (s := s) hF h hr hok (hu.mono (fun i s _ => .inl s)) (fun _ s => .inl s)
theorem kept_eq (b : List UInt8) (keep : Int) : kept b keep = keptB b keep := rfl
theorem k_put {s : DS} (hs : SortedC s.C) (nm x : List UInt8) (w : Nat) (hw : w + (bytC s.C nm).length = (x.length)) : { s.wr.k with used := (sumC s.C : Int) + w } = (s.wr.put nm x).k := by
  have h := sum_set hs nm x
  have e : (sumC s.C : Int) + w = ((sumC (setC s.C nm x) : Nat) : Int) := by omega
  rw [e]
  rfl
theorem Append_dk (base db : Nat) (F : Nat → Prop) (s : DS) (nm b : List UInt8) (ba : Option Addr) (bc : Nat) (w : World) (h : Dk w base F db s) (hb : Byt w ba b) (hbc : b.length ≤ bc) (hnm : nm.length ≤ 140737488351232) (hw : s.writes ≤ 4611686018427387904) :
    Calls Tryd.prog 10 #[.pointer (some ⟨db, 0, none⟩), .string ⟨nm.toArray⟩, .slice ba b.length bc] w fun r w' => DkR w w' base db F (s.append nm b) r := by
  obtain ⟨mb, L, D, h1, hr, hok, hF⟩ := h
  have hm := kmay hr (s := s) false [nm]
  by_cases e : s.may false [nm] = 0
  · have h0 : 0 ≤ sumC s.C := Nat.zero_le _
    have hsum := hok.sum; have r2 := hok.r2
    refine Append_on base db mb s.k L D nm b ba bc w h1 hb hbc hnm (by rw [hm]; exact e) ⟨by show (0 : Int) ≤ (sumC s.C : Int); omega, by show (sumC s.C : Int) ≤ (s.room : Int); omega, by show (s.room : Int) ≤ 268435456; omega⟩ (by rw [hr.len]; exact hok.len) (by rw [hr.byt]; exact hok.byt nm)
      ⟨by show (s.writes : Int) ≤ _; omega, by show _ ≤ (s.writes : Int); omega⟩ ⟨hok.a2, by have := hok.a1; show _ ≤ s.armed; omega⟩ _ ⟨?_, ?_⟩
    · intro hf w' g1 g2
      unfold appFull at hf
      rw [decide_eq_true_iff, hr.has, hr.len] at hf
      have e1 : s.append nm b = (93, s) := by
        unfold DS.append
        rw [if_neg (by omega), if_pos]
        rcases hf with k | k
        · exact .inl k
        · refine .inr ?_
          have k' : (s.room : Int) - (sumC s.C : Int) < (b.length : Int) := k
          omega
      rw [e1]
      exact ⟨rfl, DkTo.same (s := s) hF g1 hr hok g2⟩
    · intro hf w' k' L' D' g1 g2 g3 g4
      unfold appFull at hf
      rw [decide_eq_false_iff_not, hr.has, hr.len] at hf
      have hok' := hok.append nm b
      have e1 : s.append nm b = if s.armed = 1 then (94, if hasC s.C nm = true ∨ 0 < s.keep then s.wr.put nm (bytC s.C nm ++ keptB b s.keep) else s.wr) else (0, s.wr.put nm (bytC s.C nm ++ b)) := by
        unfold DS.append
        rw [if_neg (by omega), if_neg]
        rintro (k | k)
        · exact hf (.inl k)
        · refine hf (.inr ?_)
          show (s.room : Int) - (sumC s.C : Int) < (b.length : Int)
          omega
      rw [e1] at hok' ⊢
      unfold AppS appLaid at g4
      rw [hr.has, hr.byt, kwr] at g4
      have ek : s.k.armed = s.armed := rfl
      have ek2 : s.k.keep = s.keep := rfl
      have ek3 : s.k.used = (sumC s.C : Int) := rfl
      rw [ek, ek2] at g4
      rw [ek]
      have put : ∀ (x : List UInt8), k' = { s.wr.k with used := s.k.used + x.length } → (∃ a c, L' = putF L ⟨nm, bytC s.C nm ++ x, a, c⟩) → (s.wr.put nm (bytC s.C nm ++ x)).ok → DkTo w w' base db F (s.wr.put nm (bytC s.C nm ++ x)) := by
        rintro x rfl ⟨a, c, rfl⟩ hok2
        rw [ek3, k_put hok.so nm (bytC s.C nm ++ x) x.length (by rw [List.length_append]; omega)] at g1
        exact DkTo.of (s := s) hF g1 (hr.put _) hok2 g2 g3
      by_cases c : s.armed = 1
      · rw [if_pos c] at hok' ⊢
        rw [if_pos c] at g4
        rw [if_pos c]
        by_cases d : hasC s.C nm = true ∨ 0 < s.keep
        · rw [if_pos d] at hok' ⊢
          rw [if_pos d] at g4
          exact ⟨rfl, put _ g4.1 g4.2 hok'⟩
        · rw [if_neg d] at hok' ⊢
          rw [if_neg d] at g4
          obtain ⟨rfl, rfl⟩ := g4
          exact ⟨rfl, DkTo.of (s := s) hF g1 hr hok' g2 g3⟩
      · rw [if_neg c] at hok' ⊢
        rw [if_neg c] at g4
        rw [if_neg c]
        exact ⟨rfl, put _ g4.1 g4.2 hok'⟩
  · have e1 : s.append nm b = (s.may false [nm], s) := by unfold DS.append; rw [if_pos e]
    refine (Append_off base db mb s.k L D nm b ba bc w h1 hnm (by rw [hm]; exact e)).mono ?_
    rintro r w' ⟨g0, g1, g2⟩
    rw [hm] at g0
    rw [e1]
    exact ⟨g0, DkTo.same (s := s) hF g1 hr hok g2⟩
end Go.Proofs.YtcmllfnhdodbdaaDoor
namespace Go.Proofs.YtcmllfnhdodbdaaDoor
open Go.RowKit Go.Maps
/-- The disk behind a write, the lock still held. -/
def WkP (w w' : World) (base db mb : Nat) (L : List Fl) (s' : DS) : Prop :=
  ∃ L' D', Dsk w' base db mb 1 s'.k L' D' ∧ Rep L' s'.C ∧ s'.ok ∧ Upd (DkF db mb L) w w' ∧ ∀ i, DkF db mb L' i → DkF db mb L i ∨ w.heap.size ≤ i
theorem WkP.done {w w8 w9 : World} {base db mb : Nat} {F : Nat → Prop} {L : List Fl} {s' : DS} (h : WkP w8 w9 base db mb L s') (hu : Upd (fun i => i = db) w w8) (hF : ∀ i, DkF db mb L i → F i) : DkTo w (w9.setCell ⟨db, 0, none⟩ (.int .i32 0)) base db F s' := by
  obtain ⟨L', D', h1, h2, h3, h4, h5⟩ := h
  exact DkTo.of (s := s') hF (h1.lock 0) h2 h3 (((hu.mono (fun i s _ => .inl s)).same h4).setCell (p := ⟨db, 0, none⟩) (fun _ => .inl rfl) _) (fun i hi => (h5 i hi).elim .inl (fun k => .inr (Nat.le_trans hu.size k)))
theorem whole_to {w w' : World} {base db mb : Nat} {s : DS} {L : List Fl} {D : DataW Value} {QA : World → World → Prop} {r : Ending} {f : DS → DS} (hrep : Rep L s.C) (hok : s.ok) (h : WrP w w' base db mb 1 s.k L D QA (WhP QA s.k.keep) r)
    (hq : ∀ w1 w', QA w1 w' → ∃ L', WF w1 w' base db mb 1 (f s.wr).k L L' ∧ Rep L' (f s.wr).C) (hf : (f s.wr).ok) : r = .returned (.int .i64 (s.whole f).1) ∧ WkP w w' base db mb L (s.whole f).2 := by
  obtain ⟨h1, w1, h2, h3, h4⟩ := h
  rw [kwr] at h3
  have ek : s.k.armed = s.armed := rfl
  have ek2 : s.k.keep = s.keep := rfl
  rw [ek] at h1 h4
  rw [ek2] at h4
  have fin : QA w1 w' → WkP w w' base db mb L (f s.wr) := by
    intro hqa
    obtain ⟨L', ⟨D', g1, g2, g3⟩, g4⟩ := hq w1 w' hqa
    exact ⟨L', D', g1, g4, hf, (h2.mono (fun i s _ => .inl s)).same g2, fun i hi => (g3 i hi).elim .inl (fun k => .inr (Nat.le_trans h2.size k))⟩
  unfold DS.whole
  by_cases c : s.armed = 1
  · rw [if_pos c] at h1 h4
    rw [if_pos c]
    refine ⟨h1, ?_⟩
    by_cases d : 0 < s.keep
    · show WkP w w' base db mb L (if 0 < s.keep then f s.wr else s.wr)
      rw [if_pos d]
      exact fin (h4.1 d)
    · show WkP w w' base db mb L (if 0 < s.keep then f s.wr else s.wr)
      rw [if_neg d]
      have e := h4.2 d
      subst e
      exact ⟨L, D, h3, hrep, hok.wr, h2.mono (fun i s _ => .inl s), fun i hi => .inl hi⟩
  · rw [if_neg c] at h1 h4
    rw [if_neg c]
    exact ⟨h1, fin h4⟩
theorem k_putI {s : DS} (hs : SortedC s.C) (nm x : List UInt8) (u : Int) (hu : u = (sumC s.C : Int) - (bytC s.C nm).length + x.length) : { s.wr.k with used := u } = (s.wr.put nm x).k := by
  have h := sum_set hs nm x
  have e : u = ((sumC (setC s.C nm x) : Nat) : Int) := by omega
  rw [e]
  rfl
theorem k_del {s : DS} (hs : SortedC s.C) (nm : List UInt8) (u : Int) (hu : u = (sumC s.C : Int) - (bytC s.C nm).length) : { s.wr.k with used := u } = (s.wr.del nm).k := by
  have h := sum_del hs nm
  have e : u = ((sumC (delC s.C nm) : Nat) : Int) := by omega
  rw [e]
  rfl
end Go.Proofs.YtcmllfnhdodbdaaDoor
