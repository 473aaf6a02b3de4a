/- What a write makes of a disk's files, in the words of layer 9's statements. -/
import Derived.Test.YtcmllfnhdodbdaaDoorDS
namespace Go.Proofs.YtcmllfnhdodbdaaDoor
set_option linter.unusedVariables false
set_option linter.unusedSimpArgs false
open Go.RowKit
/-- All files but one are the same in both. -/
def OthersP (A B : Con) (but : List UInt8) : Prop := (∀ p ∈ A, p.1 ≠ but → hasC B p.1 = true ∧ bytC B p.1 = p.2) ∧ ∀ p ∈ B, p.1 ≠ but → hasC A p.1 = true
theorem hasC_mem {C : Con} {p : List UInt8 × List UInt8} (h : p ∈ C) : hasC C p.1 = true := hasC_iff.2 ⟨p, h, rfl⟩
theorem others_refl {C : Con} (h : SortedC C) (nm : List UInt8) : OthersP C C nm := ⟨fun p hp _ => ⟨hasC_mem hp, bytC_mem h hp⟩, fun _ hp _ => hasC_mem hp⟩
theorem others_set {C : Con} (h : SortedC C) (nm b : List UInt8) : OthersP C (setC C nm b) nm := by
  refine ⟨fun p hp hne => ⟨?_, ?_⟩, fun p hp hne => ?_⟩
  · rw [hasC_setC, hasC_mem hp, Bool.or_true]
  · rw [bytC_set_other h b hne, bytC_mem h hp]
  · rcases mem_setC.1 hp with rfl | ⟨hp, _⟩
    · exact absurd rfl hne
    · exact hasC_mem hp
theorem others_del {C : Con} (h : SortedC C) (nm : List UInt8) : OthersP C (delC C nm) nm := by
  refine ⟨fun p hp hne => ⟨?_, ?_⟩, fun p hp hne => hasC_mem (mem_delC.1 hp).1⟩
  · rw [hasC_delC, hasC_mem hp, Bool.true_and]
    simpa using hne
  · rw [bytC_del_other h hne, bytC_mem h hp]
theorem has_set_same (C : Con) (nm b : List UInt8) : hasC (setC C nm b) nm = true := by rw [hasC_setC, beq_self_eq_true, Bool.true_or]
theorem has_del_same (C : Con) (nm : List UInt8) : hasC (delC C nm) nm = false := by rw [hasC_delC, beq_self_eq_true, Bool.not_true, Bool.and_false]
/-- Ahead of a write that is taken. -/
structure Calm (s : DS) : Prop where
  off : s.off = false
  arm : s.armed = 0
section
variable {s : DS} {nm tn b : List UInt8} {n : Int}
theorem Calm.wr (h : Calm s) : Calm s.wr := ⟨by show (s.off || decide (s.armed = 1)) = false; rw [h.off, h.arm]; rfl, by show (if 0 < s.armed then s.armed - 1 else s.armed) = 0; rw [h.arm]; rfl⟩
theorem Calm.append (h : Calm s) (nm b : List UInt8) : Calm (s.append nm b).2 := by
  unfold DS.append
  split
  · exact h
  · split
    · exact h
    · rw [if_neg (by rw [h.arm]; decide)]
      exact ⟨h.wr.off, h.wr.arm⟩
theorem Calm.whole (h : Calm s) (f : DS → DS) : s.whole f = (0, f s.wr) := by
  unfold DS.whole
  rw [if_neg (by rw [h.arm]; decide)]
theorem Calm.cut (h : Calm s) (nm : List UInt8) (n : Int) : Calm (s.cut nm n).2 := by
  unfold DS.cut
  split
  · exact h
  · split
    · exact h
    · rw [h.whole]; exact ⟨h.wr.off, h.wr.arm⟩
theorem Calm.remove (h : Calm s) (nm : List UInt8) : Calm (s.remove nm).2 := by
  unfold DS.remove
  split
  · exact h
  · rw [h.whole]; exact ⟨h.wr.off, h.wr.arm⟩
theorem Calm.rename (h : Calm s) (a b : List UInt8) : Calm (s.rename a b).2 := by
  unfold DS.rename
  split
  · exact h
  · rw [h.whole]
    show Calm (if a = b then s.wr else _)
    split
    · exact h.wr
    · exact ⟨h.wr.off, h.wr.arm⟩
theorem Calm.may (h : Calm s) (ho : s.ok) (hh : hasC s.C nm = true) : s.may true [nm] = 0 := by
  obtain ⟨p, hp, rfl⟩ := hasC_iff.1 hh
  unfold DS.may
  rw [if_neg (by rw [h.off]; decide), if_neg (by simp [ho.nm p hp]), if_neg (by rintro ⟨_, h9⟩; rw [show [p.1].headD [] = p.1 from rfl, hh] at h9; cases h9)]
theorem Calm.may2 (h : Calm s) (ho : s.ok) (hh : hasC s.C nm = true) (ht : nmOk tn = true) : s.may true [nm, tn] = 0 := by
  obtain ⟨p, hp, rfl⟩ := hasC_iff.1 hh
  unfold DS.may
  rw [if_neg (by rw [h.off]; decide), if_neg (by simp [ho.nm p hp, ht]), if_neg (by rintro ⟨_, h9⟩; rw [show [p.1, tn].headD [] = p.1 from rfl, hh] at h9; cases h9)]
theorem may_has {Ns : List (List UInt8)} (h : s.may true (nm :: Ns) = 0) : hasC s.C nm = true := (s.may_cases _ _ h).2.2 rfl
/-- A Cut that is OK. -/
theorem Calm.cut0 (h : Calm s) (h0 : (s.cut nm n).1 = 0) : hasC s.C nm = true ∧ 0 ≤ n ∧ n ≤ (bytC s.C nm).length ∧ (s.cut nm n).2.C = setC s.C nm ((bytC s.C nm).take n.toNat) := by
  unfold DS.cut at h0 ⊢
  by_cases c : s.may true [nm] ≠ 0
  · rw [if_pos c] at h0; exact absurd h0 c
  · rw [if_neg c] at h0 ⊢
    by_cases c2 : n < 0 ∨ ((bytC s.C nm).length : Int) < n
    · rw [if_pos c2] at h0; exact absurd h0 (by show ¬ (95 : Int) = 0; decide)
    · rw [if_neg c2, h.whole]
      exact ⟨may_has (Decidable.not_not.1 c), by omega, by omega, rfl⟩
theorem Calm.cutK (h : Calm s) (ho : s.ok) (hh : hasC s.C nm = true) (h1 : 0 ≤ n) (h2 : n ≤ (bytC s.C nm).length) : (s.cut nm n).1 = 0 := by
  unfold DS.cut
  rw [if_neg (by rw [h.may ho hh]; decide), if_neg (by omega), h.whole]
theorem Calm.remove0 (h : Calm s) (h0 : (s.remove nm).1 = 0) : hasC s.C nm = true ∧ (s.remove nm).2.C = delC s.C nm := by
  unfold DS.remove at h0 ⊢
  by_cases c : s.may true [nm] ≠ 0
  · rw [if_pos c] at h0; exact absurd h0 c
  · rw [if_neg c, h.whole]
    exact ⟨may_has (Decidable.not_not.1 c), rfl⟩
theorem Calm.removeK (h : Calm s) (ho : s.ok) (hh : hasC s.C nm = true) : (s.remove nm).1 = 0 := by
  unfold DS.remove
  rw [if_neg (by rw [h.may ho hh]; decide), h.whole]
theorem Calm.rename0 (h : Calm s) (h0 : (s.rename nm tn).1 = 0) : hasC s.C nm = true ∧ (s.rename nm tn).2.C = if nm = tn then s.C else setC (delC s.C nm) tn (bytC s.C nm) := by
  unfold DS.rename at h0 ⊢
  by_cases c : s.may true [nm, tn] ≠ 0
  · rw [if_pos c] at h0; exact absurd h0 c
  · rw [if_neg c, h.whole]
    refine ⟨may_has (Decidable.not_not.1 c), ?_⟩
    show (if nm = tn then s.wr else (s.wr.del nm).put tn (bytC s.C nm)).C = _
    split <;> rfl
theorem Calm.renameK (h : Calm s) (ho : s.ok) (hh : hasC s.C nm = true) (ht : nmOk tn = true) : (s.rename nm tn).1 = 0 := by
  unfold DS.rename
  rw [if_neg (by rw [h.may2 ho hh ht]; decide), h.whole]
/-- An Append that is OK. -/
theorem Calm.append0 (h : Calm s) (h0 : (s.append nm b).1 = 0) : (s.append nm b).2.C = setC s.C nm (bytC s.C nm ++ b) := by
  unfold DS.append at h0 ⊢
  by_cases c : s.may false [nm] ≠ 0
  · rw [if_pos c] at h0; exact absurd h0 c
  · rw [if_neg c] at h0 ⊢
    by_cases c2 : (hasC s.C nm = false ∧ 64 ≤ s.C.length) ∨ s.room < sumC s.C + b.length
    · rw [if_pos c2] at h0; exact absurd h0 (by show ¬ (93 : Int) = 0; decide)
    · rw [if_neg c2, if_neg (by rw [h.arm]; decide)]
      rfl
end
/-- What is refused changes nothing. -/
theorem append_ref {s : DS} (nm b : List UInt8) (h : Calm s) (h0 : (s.append nm b).1 ≠ 0) : (s.append nm b).2 = s := by
  unfold DS.append at h0 ⊢
  by_cases c : s.may false [nm] ≠ 0
  · rw [if_pos c]
  · rw [if_neg c] at h0 ⊢
    by_cases c2 : (hasC s.C nm = false ∧ 64 ≤ s.C.length) ∨ s.room < sumC s.C + b.length
    · rw [if_pos c2]
    · rw [if_neg c2, if_neg (by rw [h.arm]; decide)] at h0; exact absurd rfl h0
theorem cut_ref {s : DS} (nm : List UInt8) (n : Int) (h : Calm s) (h0 : (s.cut nm n).1 ≠ 0) : (s.cut nm n).2 = s := by
  unfold DS.cut at h0 ⊢
  by_cases c : s.may true [nm] ≠ 0
  · rw [if_pos c]
  · rw [if_neg c] at h0 ⊢
    by_cases c2 : n < 0 ∨ ((bytC s.C nm).length : Int) < n
    · rw [if_pos c2]
    · rw [if_neg c2, h.whole] at h0; exact absurd rfl h0
theorem remove_ref {s : DS} (nm : List UInt8) (h : Calm s) (h0 : (s.remove nm).1 ≠ 0) : (s.remove nm).2 = s := by
  unfold DS.remove at h0 ⊢
  by_cases c : s.may true [nm] ≠ 0
  · rw [if_pos c]
  · rw [if_neg c, h.whole] at h0; exact absurd rfl h0
theorem rename_ref {s : DS} (nm tn : List UInt8) (h : Calm s) (h0 : (s.rename nm tn).1 ≠ 0) : (s.rename nm tn).2 = s := by
  unfold DS.rename at h0 ⊢
  by_cases c : s.may true [nm, tn] ≠ 0
  · rw [if_pos c]
  · rw [if_neg c, h.whole] at h0; exact absurd rfl h0
/-- What a Cut, Rename or Remove that is OK makes of files. -/
def MovedP (was now : Con) (d : Int) (nm tn : List UInt8) (n : Int) : Prop :=
  (d = 2 → hasC was nm = true ∧ hasC now nm = true ∧ 0 ≤ n ∧ n ≤ (bytC was nm).length ∧ bytC now nm = (bytC was nm).take n.toNat ∧ OthersP was now nm) ∧
  (d = 4 → hasC was nm = true ∧ hasC now nm = false ∧ OthersP was now nm) ∧
  (d = 3 → hasC was nm = true ∧ (nm = tn → was = now) ∧ (nm ≠ tn → hasC now nm = false ∧ hasC now tn = true ∧ bytC now tn = bytC was nm ∧ (∀ p ∈ was, p.1 ≠ nm → p.1 ≠ tn → hasC now p.1 = true ∧ bytC now p.1 = p.2) ∧
    ((hasC was tn = true ∧ now.length + 1 = was.length) ∨ (hasC was tn = false ∧ now.length = was.length))))
theorem moved_cut {s : DS} {nm tn : List UInt8} {n : Int} (h : Calm s) (ho : s.ok) (h0 : (s.cut nm n).1 = 0) : MovedP s.C (s.cut nm n).2.C 2 nm tn n := by
  obtain ⟨h1, h2, h3, h4⟩ := h.cut0 h0
  refine ⟨fun _ => ?_, (fun h => by cases h), (fun h => by cases h)⟩
  rw [h4]
  exact ⟨h1, has_set_same _ _ _, h2, h3, bytC_set_same ho.so _ _, others_set ho.so _ _⟩
theorem moved_remove {s : DS} {nm tn : List UInt8} {n : Int} (h : Calm s) (ho : s.ok) (h0 : (s.remove nm).1 = 0) : MovedP s.C (s.remove nm).2.C 4 nm tn n := by
  obtain ⟨h1, h2⟩ := h.remove0 h0
  refine ⟨(fun h => by cases h), fun _ => ?_, (fun h => by cases h)⟩
  rw [h2]
  exact ⟨h1, has_del_same _ _, others_del ho.so _⟩
theorem moved_append {s : DS} {nm tn b : List UInt8} {n : Int} : MovedP s.C (s.append nm b).2.C 1 nm tn n := ⟨(fun h => by cases h), (fun h => by cases h), (fun h => by cases h)⟩
theorem moved_rename {s : DS} {nm tn : List UInt8} {n : Int} (h : Calm s) (ho : s.ok) (h0 : (s.rename nm tn).1 = 0) : MovedP s.C (s.rename nm tn).2.C 3 nm tn n := by
  obtain ⟨h1, h2⟩ := h.rename0 h0
  refine ⟨(fun h => by cases h), (fun h => by cases h), fun _ => ?_⟩
  refine ⟨h1, fun e => by rw [h2, if_pos e], fun e => ?_⟩
  rw [h2, if_neg e]
  have sd := sorted_delC nm ho.so
  refine ⟨?_, has_set_same _ _ _, bytC_set_same sd _ _, ?_, ?_⟩
  · rw [hasC_setC, has_del_same, Bool.or_false]
    simpa using e
  · intro p hp h3 h4
    refine ⟨by rw [hasC_setC, hasC_delC, hasC_mem hp]; simp [h3], ?_⟩
    rw [bytC_set_other sd _ h4, bytC_del_other ho.so h3, bytC_mem ho.so hp]
  · have l1 := len_del ho.so nm
    have l2 := len_set sd tn (bytC s.C nm)
    have e2 : hasC (delC s.C nm) tn = hasC s.C tn := by
      rw [hasC_delC]
      have : (tn == nm) = false := by simpa using fun h : tn = nm => e h.symm
      rw [this]; simp
    rw [if_pos h1] at l1
    rw [e2] at l2
    cases c : hasC s.C tn with
    | true => rw [c, if_pos rfl] at l2; exact .inl ⟨rfl, by omega⟩
    | false => rw [c, if_neg (by decide)] at l2; exact .inr ⟨rfl, by omega⟩
end Go.Proofs.YtcmllfnhdodbdaaDoor
