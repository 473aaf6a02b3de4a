/- A write at a disk, whichever it is; two disks alike, one of them armed. Plain facts. -/
import Derived.Test.YtcmllfnhdodbdaaGreatDoorDS
/- What a write makes of a disk's files, in the words of layer 9's statements. -/
namespace Go.Proofs.YtcmllfnhdodbdaaGreatDoor
set_option linter.unusedVariables false
set_option linter.unusedSimpArgs false
open Go.RowKit
/-- All files but one are the same in both. -/
def OthersP (A B : Con) (but : List UInt8) : Prop := (∀ p ∈ A, p.1 ≠ but → hasC B p.1 = true ∧ bytC B p.1 = p.2) ∧ ∀ p ∈ B, p.1 ≠ but → hasC A p.1 = true
theorem hasC_mem {C : Con} {p : List UInt8 × List UInt8} (h : p ∈ C) : hasC C p.1 = true := hasC_iff.2 ⟨p, h, rfl⟩
theorem others_refl {C : Con} (h : SortedC C) (nm : List UInt8) : OthersP C C nm := ⟨fun p hp _ => ⟨hasC_mem hp, bytC_mem h hp⟩, fun _ hp _ => hasC_mem hp⟩
theorem others_set {C : Con} (h : SortedC C) (nm b : List UInt8) : OthersP C (setC C nm b) nm := by
  refine ⟨fun p hp hne => ⟨?_, ?_⟩, fun p hp hne => ?_⟩
  · rw [hasC_setC, hasC_mem hp, Bool.or_true]
  · rw [bytC_set_other h b hne, bytC_mem h hp]
  · rcases mem_setC.1 hp with rfl | ⟨hp, _⟩
    · exact absurd rfl hne
    · exact hasC_mem hp
theorem others_del {C : Con} (h : SortedC C) (nm : List UInt8) : OthersP C (delC C nm) nm := by
  refine ⟨fun p hp hne => ⟨?_, ?_⟩, fun p hp hne => hasC_mem (mem_delC.1 hp).1⟩
  · rw [hasC_delC, hasC_mem hp, Bool.true_and]
    simpa using hne
  · rw [bytC_del_other h hne, bytC_mem h hp]
theorem has_set_same (C : Con) (nm b : List UInt8) : hasC (setC C nm b) nm = true := by rw [hasC_setC, beq_self_eq_true, Bool.true_or]
theorem has_del_same (C : Con) (nm : List UInt8) : hasC (delC C nm) nm = false := by rw [hasC_delC, beq_self_eq_true, Bool.not_true, Bool.and_false]
/-- Ahead of a write that is taken. -/
structure Calm (s : DS) : Prop where
  off : s.off = false
  arm : s.armed = 0
section
variable {s : DS} {nm tn b : List UInt8} {n : Int}
theorem Calm.wr (h : Calm s) : Calm s.wr := ⟨by show (s.off || decide (s.armed = 1)) = false; rw [h.off, h.arm]; rfl, by show (if 0 < s.armed then s.armed - 1 else s.armed) = 0; rw [h.arm]; rfl⟩
theorem Calm.append (h : Calm s) (nm b : List UInt8) : Calm (s.append nm b).2 := by
  unfold DS.append
  split
  · exact h
  · split
    · exact h
    · rw [if_neg (by rw [h.arm]; decide)]
      exact ⟨h.wr.off, h.wr.arm⟩
theorem Calm.whole (h : Calm s) (f : DS → DS) : s.whole f = (0, f s.wr) := by
  unfold DS.whole
  rw [if_neg (by rw [h.arm]; decide)]
theorem Calm.cut (h : Calm s) (nm : List UInt8) (n : Int) : Calm (s.cut nm n).2 := by
  unfold DS.cut
  split
  · exact h
  · split
    · exact h
    · rw [h.whole]; exact ⟨h.wr.off, h.wr.arm⟩
theorem Calm.remove (h : Calm s) (nm : List UInt8) : Calm (s.remove nm).2 := by
  unfold DS.remove
  split
  · exact h
  · rw [h.whole]; exact ⟨h.wr.off, h.wr.arm⟩
theorem Calm.rename (h : Calm s) (a b : List UInt8) : Calm (s.rename a b).2 := by
  unfold DS.rename
  split
  · exact h
  · rw [h.whole]
    show Calm (if a = b then s.wr else _)
    split
    · exact h.wr
    · exact ⟨h.wr.off, h.wr.arm⟩
theorem Calm.may (h : Calm s) (ho : s.ok) (hh : hasC s.C nm = true) : s.may true [nm] = 0 := by
  obtain ⟨p, hp, rfl⟩ := hasC_iff.1 hh
  unfold DS.may
  rw [if_neg (by rw [h.off]; decide), if_neg (by simp [ho.nm p hp]), if_neg (by rintro ⟨_, h9⟩; rw [show [p.1].headD [] = p.1 from rfl, hh] at h9; cases h9)]
theorem Calm.may2 (h : Calm s) (ho : s.ok) (hh : hasC s.C nm = true) (ht : nmOk tn = true) : s.may true [nm, tn] = 0 := by
  obtain ⟨p, hp, rfl⟩ := hasC_iff.1 hh
  unfold DS.may
  rw [if_neg (by rw [h.off]; decide), if_neg (by simp [ho.nm p hp, ht]), if_neg (by rintro ⟨_, h9⟩; rw [show [p.1, tn].headD [] = p.1 from rfl, hh] at h9; cases h9)]
theorem may_has {Ns : List (List UInt8)} (h : s.may true (nm :: Ns) = 0) : hasC s.C nm = true := (s.may_cases _ _ h).2.2 rfl
/-- A Cut that is OK. -/
theorem Calm.cut0 (h : Calm s) (h0 : (s.cut nm n).1 = 0) : hasC s.C nm = true ∧ 0 ≤ n ∧ n ≤ (bytC s.C nm).length ∧ (s.cut nm n).2.C = setC s.C nm ((bytC s.C nm).take n.toNat) := by
  unfold DS.cut at h0 ⊢
  by_cases c : s.may true [nm] ≠ 0
  · rw [if_pos c] at h0; exact absurd h0 c
  · rw [if_neg c] at h0 ⊢
    by_cases c2 : n < 0 ∨ ((bytC s.C nm).length : Int) < n
    · rw [if_pos c2] at h0; exact absurd h0 (by show ¬ (95 : Int) = 0; decide)
    · rw [if_neg c2, h.whole]
      exact ⟨may_has (Decidable.not_not.1 c), by omega, by omega, rfl⟩
theorem Calm.cutK (h : Calm s) (ho : s.ok) (hh : hasC s.C nm = true) (h1 : 0 ≤ n) (h2 : n ≤ (bytC s.C nm).length) : (s.cut nm n).1 = 0 := by
  unfold DS.cut
  rw [if_neg (by rw [h.may ho hh]; decide), if_neg (by omega), h.whole]
theorem Calm.remove0 (h : Calm s) (h0 : (s.remove nm).1 = 0) : hasC s.C nm = true ∧ (s.remove nm).2.C = delC s.C nm := by
  unfold DS.remove at h0 ⊢
  by_cases c : s.may true [nm] ≠ 0
  · rw [if_pos c] at h0; exact absurd h0 c
  · rw [if_neg c, h.whole]
    exact ⟨may_has (Decidable.not_not.1 c), rfl⟩
theorem Calm.removeK (h : Calm s) (ho : s.ok) (hh : hasC s.C nm = true) : (s.remove nm).1 = 0 := by
  unfold DS.remove
  rw [if_neg (by rw [h.may ho hh]; decide), h.whole]
theorem Calm.rename0 (h : Calm s) (h0 : (s.rename nm tn).1 = 0) : hasC s.C nm = true ∧ (s.rename nm tn).2.C = if nm = tn then s.C else setC (delC s.C nm) tn (bytC s.C nm) := by
  unfold DS.rename at h0 ⊢
  by_cases c : s.may true [nm, tn] ≠ 0
  · rw [if_pos c] at h0; exact absurd h0 c
  · rw [if_neg c, h.whole]
    refine ⟨may_has (Decidable.not_not.1 c), ?_⟩
    show (if nm = tn then s.wr else (s.wr.del nm).put tn (bytC s.C nm)).C = _
    split <;> rfl
theorem Calm.renameK (h : Calm s) (ho : s.ok) (hh : hasC s.C nm = true) (ht : nmOk tn = true) : (s.rename nm tn).1 = 0 := by
  unfold DS.rename
  rw [if_neg (by rw [h.may2 ho hh ht]; decide), h.whole]
/-- An Append that is OK. -/
theorem Calm.append0 (h : Calm s) (h0 : (s.append nm b).1 = 0) : (s.append nm b).2.C = setC s.C nm (bytC s.C nm ++ b) := by
  unfold DS.append at h0 ⊢
  by_cases c : s.may false [nm] ≠ 0
  · rw [if_pos c] at h0; exact absurd h0 c
  · rw [if_neg c] at h0 ⊢
    by_cases c2 : (hasC s.C nm = false ∧ 64 ≤ s.C.length) ∨ s.room < sumC s.C + b.length
    · rw [if_pos c2] at h0; exact absurd h0 (by show ¬ (93 : Int) = 0; decide)
    · rw [if_neg c2, if_neg (by rw [h.arm]; decide)]
      rfl
end
/-- What is refused changes nothing. -/
theorem append_ref {s : DS} (nm b : List UInt8) (h : Calm s) (h0 : (s.append nm b).1 ≠ 0) : (s.append nm b).2 = s := by
  unfold DS.append at h0 ⊢
  by_cases c : s.may false [nm] ≠ 0
  · rw [if_pos c]
  · rw [if_neg c] at h0 ⊢
    by_cases c2 : (hasC s.C nm = false ∧ 64 ≤ s.C.length) ∨ s.room < sumC s.C + b.length
    · rw [if_pos c2]
    · rw [if_neg c2, if_neg (by rw [h.arm]; decide)] at h0; exact absurd rfl h0
theorem cut_ref {s : DS} (nm : List UInt8) (n : Int) (h : Calm s) (h0 : (s.cut nm n).1 ≠ 0) : (s.cut nm n).2 = s := by
  unfold DS.cut at h0 ⊢
  by_cases c : s.may true [nm] ≠ 0
  · rw [if_pos c]
  · rw [if_neg c] at h0 ⊢
    by_cases c2 : n < 0 ∨ ((bytC s.C nm).length : Int) < n
    · rw [if_pos c2]
    · rw [if_neg c2, h.whole] at h0; exact absurd rfl h0
theorem remove_ref {s : DS} (nm : List UInt8) (h : Calm s) (h0 : (s.remove nm).1 ≠ 0) : (s.remove nm).2 = s := by
  unfold DS.remove at h0 ⊢
  by_cases c : s.may true [nm] ≠ 0
  · rw [if_pos c]
  · rw [if_neg c, h.whole] at h0; exact absurd rfl h0
theorem rename_ref {s : DS} (nm tn : List UInt8) (h : Calm s) (h0 : (s.rename nm tn).1 ≠ 0) : (s.rename nm tn).2 = s := by
  unfold DS.rename at h0 ⊢
  by_cases c : s.may true [nm, tn] ≠ 0
  · rw [if_pos c]
  · rw [if_neg c, h.whole] at h0; exact absurd rfl h0
/-- What a Cut, Rename or Remove that is OK makes of files. -/
def MovedP (was now : Con) (d : Int) (nm tn : List UInt8) (n : Int) : Prop :=
  (d = 2 → hasC was nm = true ∧ hasC now nm = true ∧ 0 ≤ n ∧ n ≤ (bytC was nm).length ∧ bytC now nm = (bytC was nm).take n.toNat ∧ OthersP was now nm) ∧
  (d = 4 → hasC was nm = true ∧ hasC now nm = false ∧ OthersP was now nm) ∧
  (d = 3 → hasC was nm = true ∧ (nm = tn → was = now) ∧ (nm ≠ tn → hasC now nm = false ∧ hasC now tn = true ∧ bytC now tn = bytC was nm ∧ (∀ p ∈ was, p.1 ≠ nm → p.1 ≠ tn → hasC now p.1 = true ∧ bytC now p.1 = p.2) ∧
    ((hasC was tn = true ∧ now.length + 1 = was.length) ∨ (hasC was tn = false ∧ now.length = was.length))))
theorem moved_cut {s : DS} {nm tn : List UInt8} {n : Int} (h : Calm s) (ho : s.ok) (h0 : (s.cut nm n).1 = 0) : MovedP s.C (s.cut nm n).2.C 2 nm tn n := by
  obtain ⟨h1, h2, h3, h4⟩ := h.cut0 h0
  refine ⟨fun _ => ?_, (fun h => by cases h), (fun h => by cases h)⟩
  rw [h4]
  exact ⟨h1, has_set_same _ _ _, h2, h3, bytC_set_same ho.so _ _, others_set ho.so _ _⟩
theorem moved_remove {s : DS} {nm tn : List UInt8} {n : Int} (h : Calm s) (ho : s.ok) (h0 : (s.remove nm).1 = 0) : MovedP s.C (s.remove nm).2.C 4 nm tn n := by
  obtain ⟨h1, h2⟩ := h.remove0 h0
  refine ⟨(fun h => by cases h), fun _ => ?_, (fun h => by cases h)⟩
  rw [h2]
  exact ⟨h1, has_del_same _ _, others_del ho.so _⟩
theorem moved_append {s : DS} {nm tn b : List UInt8} {n : Int} : MovedP s.C (s.append nm b).2.C 1 nm tn n := ⟨(fun h => by cases h), (fun h => by cases h), (fun h => by cases h)⟩
theorem moved_rename {s : DS} {nm tn : List UInt8} {n : Int} (h : Calm s) (ho : s.ok) (h0 : (s.rename nm tn).1 = 0) : MovedP s.C (s.rename nm tn).2.C 3 nm tn n := by
  obtain ⟨h1, h2⟩ := h.rename0 h0
  refine ⟨(fun h => by cases h), (fun h => by cases h), fun _ => ?_⟩
  refine ⟨h1, fun e => by rw [h2, if_pos e], fun e => ?_⟩
  rw [h2, if_neg e]
  have sd := sorted_delC nm ho.so
  refine ⟨?_, has_set_same _ _ _, bytC_set_same sd _ _, ?_, ?_⟩
  · rw [hasC_setC, has_del_same, Bool.or_false]
    simpa using e
  · intro p hp h3 h4
    refine ⟨by rw [hasC_setC, hasC_delC, hasC_mem hp]; simp [h3], ?_⟩
    rw [bytC_set_other sd _ h4, bytC_del_other ho.so h3, bytC_mem ho.so hp]
  · have l1 := len_del ho.so nm
    have l2 := len_set sd tn (bytC s.C nm)
    have e2 : hasC (delC s.C nm) tn = hasC s.C tn := by
      rw [hasC_delC]
      have : (tn == nm) = false := by simpa using fun h : tn = nm => e h.symm
      rw [this]; simp
    rw [if_pos h1] at l1
    rw [e2] at l2
    cases c : hasC s.C tn with
    | true => rw [c, if_pos rfl] at l2; exact .inl ⟨rfl, by omega⟩
    | false => rw [c, if_neg (by decide)] at l2; exact .inr ⟨rfl, by omega⟩
end Go.Proofs.YtcmllfnhdodbdaaGreatDoor
namespace Go.Proofs.YtcmllfnhdodbdaaGreatDoor
set_option linter.unusedVariables false
set_option linter.unusedSimpArgs false
open Go.RowKit
/-- A write (1: Append, 2: Cut, 3: Rename, 4: Remove); others do nothing. -/
def doD (s : DS) (d : Int) (nm tn b : List UInt8) (n : Int) : Int × Bool × DS :=
  if d = 1 then ((s.append nm b).1, true, (s.append nm b).2) else if d = 2 then ((s.cut nm n).1, true, (s.cut nm n).2)
  else if d = 3 then ((s.rename nm tn).1, true, (s.rename nm tn).2) else if d = 4 then ((s.remove nm).1, true, (s.remove nm).2) else (0, false, s)
section
variable {s : DS} {nm tn b : List UInt8} {d n : Int}
theorem doD_cases (P : Int × Bool × DS → Prop) (h1 : d = 1 → P ((s.append nm b).1, true, (s.append nm b).2)) (h2 : d = 2 → P ((s.cut nm n).1, true, (s.cut nm n).2)) (h3 : d = 3 → P ((s.rename nm tn).1, true, (s.rename nm tn).2)) (h4 : d = 4 → P ((s.remove nm).1, true, (s.remove nm).2)) (h0 : d ≠ 1 → d ≠ 2 → d ≠ 3 → d ≠ 4 → P (0, false, s)) : P (doD s d nm tn b n) := by
  unfold doD
  by_cases e1 : d = 1
  · rw [if_pos e1]; exact h1 e1
  · by_cases e2 : d = 2
    · rw [if_neg e1, if_pos e2]; exact h2 e2
    · by_cases e3 : d = 3
      · rw [if_neg e1, if_neg e2, if_pos e3]; exact h3 e3
      · by_cases e4 : d = 4
        · rw [if_neg e1, if_neg e2, if_neg e3, if_pos e4]; exact h4 e4
        · rw [if_neg e1, if_neg e2, if_neg e3, if_neg e4]; exact h0 e1 e2 e3 e4
theorem doD_ok (h : s.ok) : (doD s d nm tn b n).2.2.ok := doD_cases (fun q => q.2.2.ok) (fun _ => h.append _ _) (fun _ => h.cut _ _) (fun _ => h.rename _ _) (fun _ => h.remove _) (fun _ _ _ _ => h)
theorem doD_is : (doD s d nm tn b n).2.1 = decide (d = 1 ∨ d = 2 ∨ d = 3 ∨ d = 4) := doD_cases (fun q => q.2.1 = decide (d = 1 ∨ d = 2 ∨ d = 3 ∨ d = 4)) (fun h => by simp [h]) (fun h => by simp [h]) (fun h => by simp [h]) (fun h => by simp [h]) (fun h1 h2 h3 h4 => by simp [h1, h2, h3, h4])
theorem Calm.doD (h : Calm s) : Calm (doD s d nm tn b n).2.2 := doD_cases (fun q => Calm q.2.2) (fun _ => h.append _ _) (fun _ => h.cut _ _) (fun _ => h.rename _ _) (fun _ => h.remove _) (fun _ _ _ _ => h)
theorem doD_ref (h : Calm s) (h0 : (Go.Proofs.YtcmllfnhdodbdaaGreatDoor.doD s d nm tn b n).1 ≠ 0) : (Go.Proofs.YtcmllfnhdodbdaaGreatDoor.doD s d nm tn b n).2.2 = s := by
  revert h0
  exact doD_cases (fun q => q.1 ≠ 0 → q.2.2 = s) (fun _ h0 => append_ref _ _ h h0) (fun _ h0 => cut_ref _ _ h h0) (fun _ h0 => rename_ref _ _ h h0) (fun _ h0 => remove_ref _ h h0) (fun _ _ _ _ _ => rfl)
theorem doD_moved (h : Calm s) (ho : s.ok) (h0 : (Go.Proofs.YtcmllfnhdodbdaaGreatDoor.doD s d nm tn b n).1 = 0) : MovedP s.C (Go.Proofs.YtcmllfnhdodbdaaGreatDoor.doD s d nm tn b n).2.2.C d nm tn n := by
  revert h0
  refine doD_cases (fun q => q.1 = 0 → MovedP s.C q.2.2.C d nm tn n) (fun e h0 => ?_) (fun e h0 => ?_) (fun e h0 => ?_) (fun e h0 => ?_) (fun e1 e2 e3 e4 _ => ⟨fun e => absurd e e2, fun e => absurd e e4, fun e => absurd e e3⟩)
  · rw [e]; exact moved_append
  · rw [e]; exact moved_cut h ho h0
  · rw [e]; exact moved_rename h ho h0
  · rw [e]; exact moved_remove h ho h0
theorem doD_goes (h : Calm s) (ho : s.ok) (hh : hasC s.C nm = true) (hk : d = 4 ∨ (d = 2 ∧ 0 ≤ n ∧ n ≤ (bytC s.C nm).length) ∨ (d = 3 ∧ nmOk tn = true)) : (Go.Proofs.YtcmllfnhdodbdaaGreatDoor.doD s d nm tn b n).1 = 0 := by
  rcases hk with rfl | ⟨rfl, h1, h2⟩ | ⟨rfl, h1⟩
  · exact h.removeK ho hh
  · exact h.cutK ho hh h1 h2
  · exact h.renameK ho hh h1
/-- How many writes there were behind it. -/
theorem doD_writes (h : Calm s) : (Go.Proofs.YtcmllfnhdodbdaaGreatDoor.doD s d nm tn b n).2.2.writes = if (Go.Proofs.YtcmllfnhdodbdaaGreatDoor.doD s d nm tn b n).2.1 = true ∧ (Go.Proofs.YtcmllfnhdodbdaaGreatDoor.doD s d nm tn b n).1 = 0 then s.writes + 1 else s.writes := by
  refine doD_cases (fun q => q.2.2.writes = if q.2.1 = true ∧ q.1 = 0 then s.writes + 1 else s.writes) (fun e => ?_) (fun e => ?_) (fun e => ?_) (fun e => ?_) (fun e1 e2 e3 e4 => by simp)
  all_goals
    dsimp only
  · by_cases c : (s.append nm b).1 = 0
    · rw [if_pos ⟨rfl, c⟩]
      unfold DS.append at c ⊢
      by_cases c1 : s.may false [nm] ≠ 0
      · rw [if_pos c1] at c; exact absurd c c1
      · rw [if_neg c1] at c ⊢
        by_cases c2 : (hasC s.C nm = false ∧ 64 ≤ s.C.length) ∨ s.room < sumC s.C + b.length
        · rw [if_pos c2] at c; exact absurd c (by show ¬ (93 : Int) = 0; decide)
        · rw [if_neg c2, if_neg (by rw [h.arm]; decide)]; rfl
    · rw [if_neg (fun h => c h.2), append_ref _ _ h c]
  · by_cases c : (s.cut nm n).1 = 0
    · rw [if_pos ⟨rfl, c⟩]
      unfold DS.cut at c ⊢
      by_cases c1 : s.may true [nm] ≠ 0
      · rw [if_pos c1] at c; exact absurd c c1
      · rw [if_neg c1] at c ⊢
        by_cases c2 : n < 0 ∨ ((bytC s.C nm).length : Int) < n
        · rw [if_pos c2] at c; exact absurd c (by show ¬ (95 : Int) = 0; decide)
        · rw [if_neg c2, h.whole]; rfl
    · rw [if_neg (fun h => c h.2), cut_ref _ _ h c]
  · by_cases c : (s.rename nm tn).1 = 0
    · rw [if_pos ⟨rfl, c⟩]
      unfold DS.rename at c ⊢
      by_cases c1 : s.may true [nm, tn] ≠ 0
      · rw [if_pos c1] at c; exact absurd c c1
      · rw [if_neg c1, h.whole]
        show (if nm = tn then s.wr else (s.wr.del nm).put tn (bytC s.C nm)).writes = _
        split <;> rfl
    · rw [if_neg (fun h => c h.2), rename_ref _ _ h c]
  · by_cases c : (s.remove nm).1 = 0
    · rw [if_pos ⟨rfl, c⟩]
      unfold DS.remove at c ⊢
      by_cases c1 : s.may true [nm] ≠ 0
      · rw [if_pos c1] at c; exact absurd c c1
      · rw [if_neg c1, h.whole]; rfl
    · rw [if_neg (fun h => c h.2), remove_ref _ h c]
/-- A disk with another arming. -/
def DS.tw (s : DS) (k keep : Int) : DS := { s with armed := k, keep := keep }
theorem tw_may (k keep : Int) (t : Bool) (Ns : List (List UInt8)) : (s.tw k keep).may t Ns = s.may t Ns := rfl
theorem tw_wr (h : Calm s) {k keep : Int} (hk : 1 < k) : (s.tw k keep).wr = s.wr.tw (k - 1) keep := by
  unfold DS.wr DS.tw
  rw [if_pos (by show 0 < k; omega)]
  show (⟨s.room, s.C, k - 1, keep, s.off || decide (k = 1), s.writes + 1⟩ : DS) = ⟨s.room, s.C, k - 1, keep, s.off || decide (s.armed = 1), s.writes + 1⟩
  rw [h.arm, decide_eq_false (show ¬ k = 1 by omega)]
  rfl
/-- The torn one's beginning. -/
def DS.dark (s : DS) (keep : Int) : DS := { s with armed := 0, keep := keep, off := true }
theorem tw_wr1 {keep : Int} : (s.tw 1 keep).wr = s.wr.dark keep := by
  show (⟨s.room, s.C, 1 - 1, keep, s.off || true, s.writes + 1⟩ : DS) = ⟨s.room, s.C, 0, keep, true, s.writes + 1⟩
  rw [Bool.or_true]
  rfl
/-- Ahead of the torn one: both answer alike. -/
theorem doD_tw (h : Calm s) {k keep : Int} (hk : 1 < k) : ∃ k', 0 < k' ∧ k' + ((Go.Proofs.YtcmllfnhdodbdaaGreatDoor.doD s d nm tn b n).2.2.writes : Int) = k + s.writes ∧ Go.Proofs.YtcmllfnhdodbdaaGreatDoor.doD (s.tw k keep) d nm tn b n = ((Go.Proofs.YtcmllfnhdodbdaaGreatDoor.doD s d nm tn b n).1, (Go.Proofs.YtcmllfnhdodbdaaGreatDoor.doD s d nm tn b n).2.1, (Go.Proofs.YtcmllfnhdodbdaaGreatDoor.doD s d nm tn b n).2.2.tw k' keep) := by
  have hs : (s.tw k keep) = s.tw k keep := rfl
  have e1 : ¬ (s.tw k keep).armed = 1 := by show ¬ k = 1; omega
  have e0 : ¬ s.armed = 1 := by rw [h.arm]; decide
  have ew := tw_wr h (keep := keep) hk
  unfold Go.Proofs.YtcmllfnhdodbdaaGreatDoor.doD
  split
  · unfold DS.append
    rw [tw_may]
    split
    · exact ⟨k, by omega, by dsimp only, rfl⟩
    · show ∃ k', 0 < k' ∧ k' + (((if (hasC s.C nm = false ∧ 64 ≤ s.C.length) ∨ s.room < sumC s.C + b.length then _ else _ : Int × DS)).2.writes : Int) = _ ∧ (((if (hasC s.C nm = false ∧ 64 ≤ s.C.length) ∨ s.room < sumC s.C + b.length then _ else _ : Int × DS)).1, true, ((if (hasC s.C nm = false ∧ 64 ≤ s.C.length) ∨ s.room < sumC s.C + b.length then _ else _ : Int × DS)).2) = _
      split
      · exact ⟨k, by omega, by dsimp only, rfl⟩
      · rw [ew]
        exact ⟨k - 1, by omega, by show k - 1 + ((s.writes + 1 : Nat) : Int) = _; omega, rfl⟩
  · split
    · unfold DS.cut
      rw [tw_may]
      split
      · exact ⟨k, by omega, by dsimp only, rfl⟩
      · show ∃ k', 0 < k' ∧ k' + (((if n < 0 ∨ ((bytC s.C nm).length : Int) < n then _ else _ : Int × DS)).2.writes : Int) = _ ∧ (((if n < 0 ∨ ((bytC s.C nm).length : Int) < n then _ else _ : Int × DS)).1, true, ((if n < 0 ∨ ((bytC s.C nm).length : Int) < n then _ else _ : Int × DS)).2) = _
        split
        · exact ⟨k, by omega, by dsimp only, rfl⟩
        · unfold DS.whole
          rw [if_neg e0, if_neg e1, ew]
          exact ⟨k - 1, by omega, by show k - 1 + ((s.writes + 1 : Nat) : Int) = _; omega, rfl⟩
    · split
      · unfold DS.rename
        rw [tw_may]
        split
        · exact ⟨k, by omega, by dsimp only, rfl⟩
        · unfold DS.whole
          rw [if_neg e0, if_neg e1, ew]
          refine ⟨k - 1, by omega, ?_, ?_⟩
          · show k - 1 + ((if nm = tn then s.wr else (s.wr.del nm).put tn (bytC s.C nm)).writes : Int) = _
            have : (if nm = tn then s.wr else (s.wr.del nm).put tn (bytC s.C nm)).writes = s.writes + 1 := by split <;> rfl
            rw [this]; omega
          · show (0, true, (if nm = tn then _ else _ : DS)) = (0, true, (if nm = tn then s.wr else (s.wr.del nm).put tn (bytC s.C nm)).tw (k - 1) keep)
            split <;> rfl
      · split
        · unfold DS.remove
          rw [tw_may]
          split
          · exact ⟨k, by omega, by dsimp only, rfl⟩
          · unfold DS.whole
            rw [if_neg e0, if_neg e1, ew]
            exact ⟨k - 1, by omega, by show k - 1 + ((s.writes + 1 : Nat) : Int) = _; omega, rfl⟩
        · exact ⟨k, by omega, by dsimp only, rfl⟩
/-- What the torn write may leave of the files ahead of it and those that the whole one would have left. -/
def KeptP (was whole now : Con) (d : Int) (nm b : List UInt8) (keep : Int) : Prop :=
  (d ≠ 1 → 0 < keep → now = whole) ∧ (d ≠ 1 → ¬ 0 < keep → now = was) ∧
  (d = 1 → OthersP was now nm ∧ (hasC now nm = true ↔ hasC was nm = true ∨ 0 < keep) ∧ bytC now nm = bytC was nm ++ keptB b keep)
/-- The torn one, or one that is refused ahead of it. -/
theorem doD_tw1 (h : Calm s) (ho : s.ok) {keep : Int} (hd : d = 1 ∨ d = 2 ∨ d = 3 ∨ d = 4) :
    ((Go.Proofs.YtcmllfnhdodbdaaGreatDoor.doD s d nm tn b n).1 ≠ 0 ∧ Go.Proofs.YtcmllfnhdodbdaaGreatDoor.doD (s.tw 1 keep) d nm tn b n = ((Go.Proofs.YtcmllfnhdodbdaaGreatDoor.doD s d nm tn b n).1, true, s.tw 1 keep)) ∨
    ((Go.Proofs.YtcmllfnhdodbdaaGreatDoor.doD s d nm tn b n).1 = 0 ∧ ∃ C', Go.Proofs.YtcmllfnhdodbdaaGreatDoor.doD (s.tw 1 keep) d nm tn b n = (94, true, { s.wr.dark keep with C := C' }) ∧ KeptP s.C (Go.Proofs.YtcmllfnhdodbdaaGreatDoor.doD s d nm tn b n).2.2.C C' d nm b keep) := by
  have e1 : (s.tw 1 keep).armed = 1 := rfl
  have e0 : ¬ s.armed = 1 := by rw [h.arm]; decide
  have ew : (s.tw 1 keep).wr = s.wr.dark keep := tw_wr1
  have ek : (s.tw 1 keep).keep = keep := rfl
  have eC : (s.tw 1 keep).C = s.C := rfl
  unfold Go.Proofs.YtcmllfnhdodbdaaGreatDoor.doD
  rcases hd with rfl | rfl | rfl | rfl
  · rw [if_pos rfl, if_pos rfl]
    unfold DS.append
    rw [tw_may, eC, ek]
    by_cases c1 : s.may false [nm] ≠ 0
    · rw [if_pos c1, if_pos c1]; exact .inl ⟨c1, rfl⟩
    · rw [if_neg c1, if_neg c1]
      have er : (s.tw 1 keep).room = s.room := rfl
      rw [er]
      by_cases c2 : (hasC s.C nm = false ∧ 64 ≤ s.C.length) ∨ s.room < sumC s.C + b.length
      · rw [if_pos c2, if_pos c2]; exact .inl ⟨by show ¬ (93 : Int) = 0; decide, rfl⟩
      · rw [if_neg c2, if_neg c2, if_neg e0, if_pos e1, ew]
        right
        refine ⟨rfl, ?_⟩
        by_cases c3 : hasC s.C nm = true ∨ 0 < keep
        · rw [if_pos c3]
          refine ⟨setC s.C nm (bytC s.C nm ++ keptB b keep), rfl, (fun h => absurd rfl h), (fun h => absurd rfl h), fun _ => ⟨others_set ho.so _ _, ?_, bytC_set_same ho.so _ _⟩⟩
          rw [has_set_same]
          exact ⟨fun _ => c3, fun _ => rfl⟩
        · rw [if_neg c3]
          have c4 : hasC s.C nm = false := by
            cases e : hasC s.C nm with
            | true => exact absurd (.inl e) c3
            | false => rfl
          have c5 : ¬ 0 < keep := fun h => c3 (.inr h)
          refine ⟨s.C, rfl, (fun h => absurd rfl h), (fun h => absurd rfl h), fun _ => ⟨others_refl ho.so _, ?_, ?_⟩⟩
          · rw [c4]
            exact ⟨(fun h => by cases h), fun h => h.elim (fun h => by cases h) (fun h => absurd h c5)⟩
          · unfold keptB
            rw [show (max 0 (min keep (b.length : Int))).toNat = 0 by omega]
            simp
  · rw [if_neg (by decide), if_pos rfl, if_neg (by decide), if_pos rfl]
    unfold DS.cut
    rw [tw_may, eC]
    by_cases c1 : s.may true [nm] ≠ 0
    · rw [if_pos c1, if_pos c1]; exact .inl ⟨c1, rfl⟩
    · rw [if_neg c1, if_neg c1]
      by_cases c2 : n < 0 ∨ ((bytC s.C nm).length : Int) < n
      · rw [if_pos c2, if_pos c2]; exact .inl ⟨by show ¬ (95 : Int) = 0; decide, rfl⟩
      · rw [if_neg c2, if_neg c2]
        right
        unfold DS.whole
        rw [if_neg e0, if_pos e1, ek, ew]
        refine ⟨rfl, ?_⟩
        by_cases c3 : 0 < keep
        · rw [if_pos c3]
          exact ⟨setC s.C nm ((bytC s.C nm).take n.toNat), rfl, fun _ _ => rfl, fun _ h => absurd c3 h, fun h => absurd h (by decide)⟩
        · rw [if_neg c3]
          exact ⟨s.C, rfl, fun _ h => absurd h c3, fun _ _ => rfl, fun h => absurd h (by decide)⟩
  · rw [if_neg (by decide), if_neg (by decide), if_pos rfl, if_neg (by decide), if_neg (by decide), if_pos rfl]
    unfold DS.rename
    rw [tw_may, eC]
    by_cases c1 : s.may true [nm, tn] ≠ 0
    · rw [if_pos c1, if_pos c1]; exact .inl ⟨c1, rfl⟩
    · rw [if_neg c1, if_neg c1]
      right
      unfold DS.whole
      rw [if_neg e0, if_pos e1, ek, ew]
      refine ⟨rfl, ?_⟩
      by_cases c3 : 0 < keep
      · rw [if_pos c3]
        refine ⟨(if nm = tn then s.wr else (s.wr.del nm).put tn (bytC s.C nm)).C, ?_, fun _ _ => rfl, fun _ h => absurd c3 h, fun h => absurd h (by decide)⟩
        show ((94 : Int), true, (if nm = tn then s.wr.dark keep else ((s.wr.dark keep).del nm).put tn (bytC s.C nm))) = _
        split <;> rfl
      · rw [if_neg c3]
        exact ⟨s.C, rfl, fun _ h => absurd h c3, fun _ _ => rfl, fun h => absurd h (by decide)⟩
  · rw [if_neg (by decide), if_neg (by decide), if_neg (by decide), if_pos rfl, if_neg (by decide), if_neg (by decide), if_neg (by decide), if_pos rfl]
    unfold DS.remove
    rw [tw_may]
    by_cases c1 : s.may true [nm] ≠ 0
    · rw [if_pos c1, if_pos c1]; exact .inl ⟨c1, rfl⟩
    · rw [if_neg c1, if_neg c1]
      right
      unfold DS.whole
      rw [if_neg e0, if_pos e1, ek, ew]
      refine ⟨rfl, ?_⟩
      by_cases c3 : 0 < keep
      · rw [if_pos c3]
        exact ⟨delC s.C nm, rfl, fun _ _ => rfl, fun _ h => absurd c3 h, fun h => absurd h (by decide)⟩
      · rw [if_neg c3]
        exact ⟨s.C, rfl, fun _ h => absurd h c3, fun _ _ => rfl, fun h => absurd h (by decide)⟩
/-- While the power is off. -/
theorem doD_dark (h : s.off = true) (hd : d = 1 ∨ d = 2 ∨ d = 3 ∨ d = 4) : Go.Proofs.YtcmllfnhdodbdaaGreatDoor.doD s d nm tn b n = (94, true, s) := by
  have hm : ∀ t Ns, s.may t Ns = 94 := fun t Ns => by unfold DS.may; rw [if_pos h]
  unfold Go.Proofs.YtcmllfnhdodbdaaGreatDoor.doD
  rcases hd with rfl | rfl | rfl | rfl
  · rw [if_pos rfl]; unfold DS.append; rw [hm, if_pos (by decide)]
  · rw [if_neg (by decide), if_pos rfl]; unfold DS.cut; rw [hm, if_pos (by decide)]
  · rw [if_neg (by decide), if_neg (by decide), if_pos rfl]; unfold DS.rename; rw [hm, if_pos (by decide)]
  · rw [if_neg (by decide), if_neg (by decide), if_neg (by decide), if_pos rfl]; unfold DS.remove; rw [hm, if_pos (by decide)]
/-- Two disks with the same files in the same room. -/
structure Like (s t : DS) : Prop where
  l : Calm s
  r : Calm t
  room : s.room = t.room
  C : s.C = t.C
theorem Like.doD {t : DS} (h : Like s t) : (Go.Proofs.YtcmllfnhdodbdaaGreatDoor.doD s d nm tn b n).1 = (Go.Proofs.YtcmllfnhdodbdaaGreatDoor.doD t d nm tn b n).1 ∧ Like (Go.Proofs.YtcmllfnhdodbdaaGreatDoor.doD s d nm tn b n).2.2 (Go.Proofs.YtcmllfnhdodbdaaGreatDoor.doD t d nm tn b n).2.2 := by
  have k1 := h.l.doD (d := d) (nm := nm) (tn := tn) (b := b) (n := n)
  have k2 := h.r.doD (d := d) (nm := nm) (tn := tn) (b := b) (n := n)
  have key : (Go.Proofs.YtcmllfnhdodbdaaGreatDoor.doD s d nm tn b n).1 = (Go.Proofs.YtcmllfnhdodbdaaGreatDoor.doD t d nm tn b n).1 ∧ (Go.Proofs.YtcmllfnhdodbdaaGreatDoor.doD s d nm tn b n).2.2.room = (Go.Proofs.YtcmllfnhdodbdaaGreatDoor.doD t d nm tn b n).2.2.room ∧ (Go.Proofs.YtcmllfnhdodbdaaGreatDoor.doD s d nm tn b n).2.2.C = (Go.Proofs.YtcmllfnhdodbdaaGreatDoor.doD t d nm tn b n).2.2.C := by
    obtain ⟨⟨o1, a1⟩, ⟨o2, a2⟩, hr, hC⟩ := h
    obtain ⟨r1, C1, ar1, kp1, of1, w1⟩ := s
    obtain ⟨r2, C2, ar2, kp2, of2, w2⟩ := t
    simp only at o1 a1 o2 a2 hr hC
    subst o1 a1 o2 a2 hr hC
    have hm : ∀ t Ns, (⟨r1, C1, 0, kp2, false, w2⟩ : DS).may t Ns = (⟨r1, C1, 0, kp1, false, w1⟩ : DS).may t Ns := fun _ _ => rfl
    unfold Go.Proofs.YtcmllfnhdodbdaaGreatDoor.doD
    split
    · unfold DS.append
      rw [hm]
      dsimp only
      split
      · exact ⟨rfl, rfl, rfl⟩
      · split
        · exact ⟨rfl, rfl, rfl⟩
        · exact ⟨rfl, rfl, rfl⟩
    · split
      · unfold DS.cut
        rw [hm]
        dsimp only
        split
        · exact ⟨rfl, rfl, rfl⟩
        · split
          · exact ⟨rfl, rfl, rfl⟩
          · exact ⟨rfl, rfl, rfl⟩
      · split
        · unfold DS.rename
          rw [hm]
          split
          · exact ⟨rfl, rfl, rfl⟩
          · by_cases c : nm = tn
            · subst c
              simp [DS.whole, DS.wr]
            · simp [DS.whole, DS.wr, c, DS.put, DS.del]
        · split
          · unfold DS.remove
            rw [hm]
            split
            · exact ⟨rfl, rfl, rfl⟩
            · exact ⟨rfl, rfl, rfl⟩
          · exact ⟨rfl, rfl, rfl⟩
  exact ⟨key.1, k1, k2, key.2.1, key.2.2⟩
end
end Go.Proofs.YtcmllfnhdodbdaaGreatDoor
