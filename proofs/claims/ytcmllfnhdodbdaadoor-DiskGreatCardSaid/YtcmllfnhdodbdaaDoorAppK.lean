/- Append, in plain words. -/
import Derived.Test.YtcmllfnhdodbdaaDoorAppOn
import Derived.Test.YtcmllfnhdodbdaaDoorRep
namespace Go.Proofs.YtcmllfnhdodbdaaDoor
set_option linter.unusedVariables false
set_option linter.unusedSimpArgs false
open Go.RowKit Go.Maps
/-- A call's answer, and what becomes of the disk. -/
def DkR (w w' : World) (base db : Nat) (F : Nat → Prop) (a : Int × DS) (r : Ending) : Prop := r = .returned (.int .i64 a.1) ∧ DkTo w w' base db F a.2
theorem DkTo.of {w w' : World} {base db mb : Nat} {F : Nat → Prop} {s s' : DS} {L L' : List Fl} {D' : DataW Value} (hF : ∀ i, DkF db mb L i → F i) (h : Dsk w' base db mb 0 s'.k L' D') (hr : Rep L' s'.C) (hok : s'.ok) (hu : Upd (DkF db mb L) w w') (hf : ∀ i, DkF db mb L' i → DkF db mb L i ∨ w.heap.size ≤ i) : DkTo w w' base db F s' :=
  ⟨DkF db mb L', ⟨mb, L', D', h, hr, hok, fun _ s => s⟩, hu.mono (fun i s _ => hF i s), fun i s => (hf i s).elim (fun s => .inl (hF i s)) .inr⟩
theorem DkTo.same {w w' : World} {base db mb : Nat} {F : Nat → Prop} {s s' : DS} {L : List Fl} {D' : DataW Value} (hF : ∀ i, DkF db mb L i → F i) (h : Dsk w' base db mb 0 s'.k L D') (hr : Rep L s'.C) (hok : s'.ok) (hu : Upd (fun i => i = db) w w') : DkTo w w' base db F s' :=
  DkTo.of (s := s) hF h hr hok (hu.mono (fun i s _ => .inl s)) (fun _ s => .inl s)
theorem kept_eq (b : List UInt8) (keep : Int) : kept b keep = keptB b keep := rfl
theorem k_put {s : DS} (hs : SortedC s.C) (nm x : List UInt8) (w : Nat) (hw : w + (bytC s.C nm).length = (x.length)) : { s.wr.k with used := (sumC s.C : Int) + w } = (s.wr.put nm x).k := by
  have h := sum_set hs nm x
  have e : (sumC s.C : Int) + w = ((sumC (setC s.C nm x) : Nat) : Int) := by omega
  rw [e]
  rfl
theorem Append_dk (base db : Nat) (F : Nat → Prop) (s : DS) (nm b : List UInt8) (ba : Option Addr) (bc : Nat) (w : World) (h : Dk w base F db s) (hb : Byt w ba b) (hbc : b.length ≤ bc) (hnm : nm.length ≤ 140737488351232) (hw : s.writes ≤ 4611686018427387904) :
    Calls Tryd.prog 10 #[.pointer (some ⟨db, 0, none⟩), .string ⟨nm.toArray⟩, .slice ba b.length bc] w fun r w' => DkR w w' base db F (s.append nm b) r := by
  obtain ⟨mb, L, D, h1, hr, hok, hF⟩ := h
  have hm := kmay hr (s := s) false [nm]
  by_cases e : s.may false [nm] = 0
  · have h0 : 0 ≤ sumC s.C := Nat.zero_le _
    have hsum := hok.sum; have r2 := hok.r2
    refine Append_on base db mb s.k L D nm b ba bc w h1 hb hbc hnm (by rw [hm]; exact e) ⟨by show (0 : Int) ≤ (sumC s.C : Int); omega, by show (sumC s.C : Int) ≤ (s.room : Int); omega, by show (s.room : Int) ≤ 268435456; omega⟩ (by rw [hr.len]; exact hok.len) (by rw [hr.byt]; exact hok.byt nm)
      ⟨by show (s.writes : Int) ≤ _; omega, by show _ ≤ (s.writes : Int); omega⟩ ⟨hok.a2, by have := hok.a1; show _ ≤ s.armed; omega⟩ _ ⟨?_, ?_⟩
    · intro hf w' g1 g2
      unfold appFull at hf
      rw [decide_eq_true_iff, hr.has, hr.len] at hf
      have e1 : s.append nm b = (93, s) := by
        unfold DS.append
        rw [if_neg (by omega), if_pos]
        rcases hf with k | k
        · exact .inl k
        · refine .inr ?_
          have k' : (s.room : Int) - (sumC s.C : Int) < (b.length : Int) := k
          omega
      rw [e1]
      exact ⟨rfl, DkTo.same (s := s) hF g1 hr hok g2⟩
    · intro hf w' k' L' D' g1 g2 g3 g4
      unfold appFull at hf
      rw [decide_eq_false_iff_not, hr.has, hr.len] at hf
      have hok' := hok.append nm b
      have e1 : s.append nm b = if s.armed = 1 then (94, if hasC s.C nm = true ∨ 0 < s.keep then s.wr.put nm (bytC s.C nm ++ keptB b s.keep) else s.wr) else (0, s.wr.put nm (bytC s.C nm ++ b)) := by
        unfold DS.append
        rw [if_neg (by omega), if_neg]
        rintro (k | k)
        · exact hf (.inl k)
        · refine hf (.inr ?_)
          show (s.room : Int) - (sumC s.C : Int) < (b.length : Int)
          omega
      rw [e1] at hok' ⊢
      unfold AppS appLaid at g4
      rw [hr.has, hr.byt, kwr] at g4
      have ek : s.k.armed = s.armed := rfl
      have ek2 : s.k.keep = s.keep := rfl
      have ek3 : s.k.used = (sumC s.C : Int) := rfl
      rw [ek, ek2] at g4
      rw [ek]
      have put : ∀ (x : List UInt8), k' = { s.wr.k with used := s.k.used + x.length } → (∃ a c, L' = putF L ⟨nm, bytC s.C nm ++ x, a, c⟩) → (s.wr.put nm (bytC s.C nm ++ x)).ok → DkTo w w' base db F (s.wr.put nm (bytC s.C nm ++ x)) := by
        rintro x rfl ⟨a, c, rfl⟩ hok2
        rw [ek3, k_put hok.so nm (bytC s.C nm ++ x) x.length (by rw [List.length_append]; omega)] at g1
        exact DkTo.of (s := s) hF g1 (hr.put _) hok2 g2 g3
      by_cases c : s.armed = 1
      · rw [if_pos c] at hok' ⊢
        rw [if_pos c] at g4
        rw [if_pos c]
        by_cases d : hasC s.C nm = true ∨ 0 < s.keep
        · rw [if_pos d] at hok' ⊢
          rw [if_pos d] at g4
          exact ⟨rfl, put _ g4.1 g4.2 hok'⟩
        · rw [if_neg d] at hok' ⊢
          rw [if_neg d] at g4
          obtain ⟨rfl, rfl⟩ := g4
          exact ⟨rfl, DkTo.of (s := s) hF g1 hr hok' g2 g3⟩
      · rw [if_neg c] at hok' ⊢
        rw [if_neg c] at g4
        rw [if_neg c]
        exact ⟨rfl, put _ g4.1 g4.2 hok'⟩
  · have e1 : s.append nm b = (s.may false [nm], s) := by unfold DS.append; rw [if_pos e]
    refine (Append_off base db mb s.k L D nm b ba bc w h1 hnm (by rw [hm]; exact e)).mono ?_
    rintro r w' ⟨g0, g1, g2⟩
    rw [hm] at g0
    rw [e1]
    exact ⟨g0, DkTo.same (s := s) hF g1 hr hok g2⟩
end Go.Proofs.YtcmllfnhdodbdaaDoor
