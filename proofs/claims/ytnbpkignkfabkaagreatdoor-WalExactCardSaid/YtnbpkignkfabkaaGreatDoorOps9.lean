/- posternlaw9: ops as they come in; what a law holds behind a write. -/
import Derived.Test.YtnbpkignkfabkaaGreatDoorDsW
import Derived.Test.YtnbpkignkfabkaaGreatDoorDkS
import Derived.Lib.SlBytesConst
import Derived.Test.YtnbpkignkfabkaaGreatDoorFiles
import Derived.Test.YtnbpkignkfabkaaGreatDoorRef3
import Derived.StillTailTactics
import Derived.Test.YtnbpkignkfabkaaGreatDoorWk
import Derived.IntWalk
import Derived.Test.YtnbpkignkfabkaaGreatDoorCutOn
import Derived.Test.YtnbpkignkfabkaaGreatDoorRemOn
/- A write at a disk, whichever it is; two disks alike, one of them armed. Plain facts. -/
/- What a write makes of a disk's files, in the words of layer 9's statements. -/
namespace Go.Proofs.YtnbpkignkfabkaaGreatDoor
set_option linter.unusedVariables false
set_option linter.unusedSimpArgs false
open Go.RowKit
/-- All files but one are the same in both. -/
def OthersP (A B : Con) (but : List UInt8) : Prop := (∀ p ∈ A, p.1 ≠ but → hasC B p.1 = true ∧ bytC B p.1 = p.2) ∧ ∀ p ∈ B, p.1 ≠ but → hasC A p.1 = true
theorem hasC_mem {C : Con} {p : List UInt8 × List UInt8} (h : p ∈ C) : hasC C p.1 = true := hasC_iff.2 ⟨p, h, rfl⟩
theorem others_refl {C : Con} (h : SortedC C) (nm : List UInt8) : OthersP C C nm := ⟨fun p hp _ => ⟨hasC_mem hp, bytC_mem h hp⟩, fun _ hp _ => hasC_mem hp⟩
theorem others_set {C : Con} (h : SortedC C) (nm b : List UInt8) : OthersP C (setC C nm b) nm := by
  refine ⟨fun p hp hne => ⟨?_, ?_⟩, fun p hp hne => ?_⟩
  · rw [hasC_setC, hasC_mem hp, Bool.or_true]
  · rw [bytC_set_other h b hne, bytC_mem h hp]
  · rcases mem_setC.1 hp with rfl | ⟨hp, _⟩
    · exact absurd rfl hne
    · exact hasC_mem hp
theorem others_del {C : Con} (h : SortedC C) (nm : List UInt8) : OthersP C (delC C nm) nm := by
  refine ⟨fun p hp hne => ⟨?_, ?_⟩, fun p hp hne => hasC_mem (mem_delC.1 hp).1⟩
  · rw [hasC_delC, hasC_mem hp, Bool.true_and]
    simpa using hne
  · rw [bytC_del_other h hne, bytC_mem h hp]
theorem has_set_same (C : Con) (nm b : List UInt8) : hasC (setC C nm b) nm = true := by rw [hasC_setC, beq_self_eq_true, Bool.true_or]
theorem has_del_same (C : Con) (nm : List UInt8) : hasC (delC C nm) nm = false := by rw [hasC_delC, beq_self_eq_true, Bool.not_true, Bool.and_false]
/-- Ahead of a write that is taken. -/
structure Calm (s : DS) : Prop where
  off : s.off = false
  arm : s.armed = 0
section
variable {s : DS} {nm tn b : List UInt8} {n : Int}
theorem Calm.wr (h : Calm s) : Calm s.wr := ⟨by show (s.off || decide (s.armed = 1)) = false; rw [h.off, h.arm]; rfl, by show (if 0 < s.armed then s.armed - 1 else s.armed) = 0; rw [h.arm]; rfl⟩
theorem Calm.append (h : Calm s) (nm b : List UInt8) : Calm (s.append nm b).2 := by
  unfold DS.append
  split
  · exact h
  · split
    · exact h
    · rw [if_neg (by rw [h.arm]; decide)]
      exact ⟨h.wr.off, h.wr.arm⟩
theorem Calm.whole (h : Calm s) (f : DS → DS) : s.whole f = (0, f s.wr) := by
  unfold DS.whole
  rw [if_neg (by rw [h.arm]; decide)]
theorem Calm.cut (h : Calm s) (nm : List UInt8) (n : Int) : Calm (s.cut nm n).2 := by
  unfold DS.cut
  split
  · exact h
  · split
    · exact h
    · rw [h.whole]; exact ⟨h.wr.off, h.wr.arm⟩
theorem Calm.remove (h : Calm s) (nm : List UInt8) : Calm (s.remove nm).2 := by
  unfold DS.remove
  split
  · exact h
  · rw [h.whole]; exact ⟨h.wr.off, h.wr.arm⟩
theorem Calm.rename (h : Calm s) (a b : List UInt8) : Calm (s.rename a b).2 := by
  unfold DS.rename
  split
  · exact h
  · rw [h.whole]
    show Calm (if a = b then s.wr else _)
    split
    · exact h.wr
    · exact ⟨h.wr.off, h.wr.arm⟩
theorem Calm.may (h : Calm s) (ho : s.ok) (hh : hasC s.C nm = true) : s.may true [nm] = 0 := by
  obtain ⟨p, hp, rfl⟩ := hasC_iff.1 hh
  unfold DS.may
  rw [if_neg (by rw [h.off]; decide), if_neg (by simp [ho.nm p hp]), if_neg (by rintro ⟨_, h9⟩; rw [show [p.1].headD [] = p.1 from rfl, hh] at h9; cases h9)]
theorem Calm.may2 (h : Calm s) (ho : s.ok) (hh : hasC s.C nm = true) (ht : nmOk tn = true) : s.may true [nm, tn] = 0 := by
  obtain ⟨p, hp, rfl⟩ := hasC_iff.1 hh
  unfold DS.may
  rw [if_neg (by rw [h.off]; decide), if_neg (by simp [ho.nm p hp, ht]), if_neg (by rintro ⟨_, h9⟩; rw [show [p.1, tn].headD [] = p.1 from rfl, hh] at h9; cases h9)]
theorem may_has {Ns : List (List UInt8)} (h : s.may true (nm :: Ns) = 0) : hasC s.C nm = true := (s.may_cases _ _ h).2.2 rfl
/-- A Cut that is OK. -/
theorem Calm.cut0 (h : Calm s) (h0 : (s.cut nm n).1 = 0) : hasC s.C nm = true ∧ 0 ≤ n ∧ n ≤ (bytC s.C nm).length ∧ (s.cut nm n).2.C = setC s.C nm ((bytC s.C nm).take n.toNat) := by
  unfold DS.cut at h0 ⊢
  by_cases c : s.may true [nm] ≠ 0
  · rw [if_pos c] at h0; exact absurd h0 c
  · rw [if_neg c] at h0 ⊢
    by_cases c2 : n < 0 ∨ ((bytC s.C nm).length : Int) < n
    · rw [if_pos c2] at h0; exact absurd h0 (by show ¬ (95 : Int) = 0; decide)
    · rw [if_neg c2, h.whole]
      exact ⟨may_has (Decidable.not_not.1 c), by omega, by omega, rfl⟩
theorem Calm.cutK (h : Calm s) (ho : s.ok) (hh : hasC s.C nm = true) (h1 : 0 ≤ n) (h2 : n ≤ (bytC s.C nm).length) : (s.cut nm n).1 = 0 := by
  unfold DS.cut
  rw [if_neg (by rw [h.may ho hh]; decide), if_neg (by omega), h.whole]
theorem Calm.remove0 (h : Calm s) (h0 : (s.remove nm).1 = 0) : hasC s.C nm = true ∧ (s.remove nm).2.C = delC s.C nm := by
  unfold DS.remove at h0 ⊢
  by_cases c : s.may true [nm] ≠ 0
  · rw [if_pos c] at h0; exact absurd h0 c
  · rw [if_neg c, h.whole]
    exact ⟨may_has (Decidable.not_not.1 c), rfl⟩
theorem Calm.removeK (h : Calm s) (ho : s.ok) (hh : hasC s.C nm = true) : (s.remove nm).1 = 0 := by
  unfold DS.remove
  rw [if_neg (by rw [h.may ho hh]; decide), h.whole]
theorem Calm.rename0 (h : Calm s) (h0 : (s.rename nm tn).1 = 0) : hasC s.C nm = true ∧ (s.rename nm tn).2.C = if nm = tn then s.C else setC (delC s.C nm) tn (bytC s.C nm) := by
  unfold DS.rename at h0 ⊢
  by_cases c : s.may true [nm, tn] ≠ 0
  · rw [if_pos c] at h0; exact absurd h0 c
  · rw [if_neg c, h.whole]
    refine ⟨may_has (Decidable.not_not.1 c), ?_⟩
    show (if nm = tn then s.wr else (s.wr.del nm).put tn (bytC s.C nm)).C = _
    split <;> rfl
theorem Calm.renameK (h : Calm s) (ho : s.ok) (hh : hasC s.C nm = true) (ht : nmOk tn = true) : (s.rename nm tn).1 = 0 := by
  unfold DS.rename
  rw [if_neg (by rw [h.may2 ho hh ht]; decide), h.whole]
/-- An Append that is OK. -/
theorem Calm.append0 (h : Calm s) (h0 : (s.append nm b).1 = 0) : (s.append nm b).2.C = setC s.C nm (bytC s.C nm ++ b) := by
  unfold DS.append at h0 ⊢
  by_cases c : s.may false [nm] ≠ 0
  · rw [if_pos c] at h0; exact absurd h0 c
  · rw [if_neg c] at h0 ⊢
    by_cases c2 : (hasC s.C nm = false ∧ 64 ≤ s.C.length) ∨ s.room < sumC s.C + b.length
    · rw [if_pos c2] at h0; exact absurd h0 (by show ¬ (93 : Int) = 0; decide)
    · rw [if_neg c2, if_neg (by rw [h.arm]; decide)]
      rfl
end
/-- What is refused changes nothing. -/
theorem append_ref {s : DS} (nm b : List UInt8) (h : Calm s) (h0 : (s.append nm b).1 ≠ 0) : (s.append nm b).2 = s := by
  unfold DS.append at h0 ⊢
  by_cases c : s.may false [nm] ≠ 0
  · rw [if_pos c]
  · rw [if_neg c] at h0 ⊢
    by_cases c2 : (hasC s.C nm = false ∧ 64 ≤ s.C.length) ∨ s.room < sumC s.C + b.length
    · rw [if_pos c2]
    · rw [if_neg c2, if_neg (by rw [h.arm]; decide)] at h0; exact absurd rfl h0
theorem cut_ref {s : DS} (nm : List UInt8) (n : Int) (h : Calm s) (h0 : (s.cut nm n).1 ≠ 0) : (s.cut nm n).2 = s := by
  unfold DS.cut at h0 ⊢
  by_cases c : s.may true [nm] ≠ 0
  · rw [if_pos c]
  · rw [if_neg c] at h0 ⊢
    by_cases c2 : n < 0 ∨ ((bytC s.C nm).length : Int) < n
    · rw [if_pos c2]
    · rw [if_neg c2, h.whole] at h0; exact absurd rfl h0
theorem remove_ref {s : DS} (nm : List UInt8) (h : Calm s) (h0 : (s.remove nm).1 ≠ 0) : (s.remove nm).2 = s := by
  unfold DS.remove at h0 ⊢
  by_cases c : s.may true [nm] ≠ 0
  · rw [if_pos c]
  · rw [if_neg c, h.whole] at h0; exact absurd rfl h0
theorem rename_ref {s : DS} (nm tn : List UInt8) (h : Calm s) (h0 : (s.rename nm tn).1 ≠ 0) : (s.rename nm tn).2 = s := by
  unfold DS.rename at h0 ⊢
  by_cases c : s.may true [nm, tn] ≠ 0
  · rw [if_pos c]
  · rw [if_neg c, h.whole] at h0; exact absurd rfl h0
/-- What a Cut, Rename or Remove that is OK makes of files. -/
def MovedP (was now : Con) (d : Int) (nm tn : List UInt8) (n : Int) : Prop :=
  (d = 2 → hasC was nm = true ∧ hasC now nm = true ∧ 0 ≤ n ∧ n ≤ (bytC was nm).length ∧ bytC now nm = (bytC was nm).take n.toNat ∧ OthersP was now nm) ∧
  (d = 4 → hasC was nm = true ∧ hasC now nm = false ∧ OthersP was now nm) ∧
  (d = 3 → hasC was nm = true ∧ (nm = tn → was = now) ∧ (nm ≠ tn → hasC now nm = false ∧ hasC now tn = true ∧ bytC now tn = bytC was nm ∧ (∀ p ∈ was, p.1 ≠ nm → p.1 ≠ tn → hasC now p.1 = true ∧ bytC now p.1 = p.2) ∧
    ((hasC was tn = true ∧ now.length + 1 = was.length) ∨ (hasC was tn = false ∧ now.length = was.length))))
theorem moved_cut {s : DS} {nm tn : List UInt8} {n : Int} (h : Calm s) (ho : s.ok) (h0 : (s.cut nm n).1 = 0) : MovedP s.C (s.cut nm n).2.C 2 nm tn n := by
  obtain ⟨h1, h2, h3, h4⟩ := h.cut0 h0
  refine ⟨fun _ => ?_, (fun h => by cases h), (fun h => by cases h)⟩
  rw [h4]
  exact ⟨h1, has_set_same _ _ _, h2, h3, bytC_set_same ho.so _ _, others_set ho.so _ _⟩
theorem moved_remove {s : DS} {nm tn : List UInt8} {n : Int} (h : Calm s) (ho : s.ok) (h0 : (s.remove nm).1 = 0) : MovedP s.C (s.remove nm).2.C 4 nm tn n := by
  obtain ⟨h1, h2⟩ := h.remove0 h0
  refine ⟨(fun h => by cases h), fun _ => ?_, (fun h => by cases h)⟩
  rw [h2]
  exact ⟨h1, has_del_same _ _, others_del ho.so _⟩
theorem moved_append {s : DS} {nm tn b : List UInt8} {n : Int} : MovedP s.C (s.append nm b).2.C 1 nm tn n := ⟨(fun h => by cases h), (fun h => by cases h), (fun h => by cases h)⟩
theorem moved_rename {s : DS} {nm tn : List UInt8} {n : Int} (h : Calm s) (ho : s.ok) (h0 : (s.rename nm tn).1 = 0) : MovedP s.C (s.rename nm tn).2.C 3 nm tn n := by
  obtain ⟨h1, h2⟩ := h.rename0 h0
  refine ⟨(fun h => by cases h), (fun h => by cases h), fun _ => ?_⟩
  refine ⟨h1, fun e => by rw [h2, if_pos e], fun e => ?_⟩
  rw [h2, if_neg e]
  have sd := sorted_delC nm ho.so
  refine ⟨?_, has_set_same _ _ _, bytC_set_same sd _ _, ?_, ?_⟩
  · rw [hasC_setC, has_del_same, Bool.or_false]
    simpa using e
  · intro p hp h3 h4
    refine ⟨by rw [hasC_setC, hasC_delC, hasC_mem hp]; simp [h3], ?_⟩
    rw [bytC_set_other sd _ h4, bytC_del_other ho.so h3, bytC_mem ho.so hp]
  · have l1 := len_del ho.so nm
    have l2 := len_set sd tn (bytC s.C nm)
    have e2 : hasC (delC s.C nm) tn = hasC s.C tn := by
      rw [hasC_delC]
      have : (tn == nm) = false := by simpa using fun h : tn = nm => e h.symm
      rw [this]; simp
    rw [if_pos h1] at l1
    rw [e2] at l2
    cases c : hasC s.C tn with
    | true => rw [c, if_pos rfl] at l2; exact .inl ⟨rfl, by omega⟩
    | false => rw [c, if_neg (by decide)] at l2; exact .inr ⟨rfl, by omega⟩
end Go.Proofs.YtnbpkignkfabkaaGreatDoor
namespace Go.Proofs.YtnbpkignkfabkaaGreatDoor
set_option linter.unusedVariables false
set_option linter.unusedSimpArgs false
open Go.RowKit
/-- A write (1: Append, 2: Cut, 3: Rename, 4: Remove); others do nothing. -/
def doD (s : DS) (d : Int) (nm tn b : List UInt8) (n : Int) : Int × Bool × DS :=
  if d = 1 then ((s.append nm b).1, true, (s.append nm b).2) else if d = 2 then ((s.cut nm n).1, true, (s.cut nm n).2)
  else if d = 3 then ((s.rename nm tn).1, true, (s.rename nm tn).2) else if d = 4 then ((s.remove nm).1, true, (s.remove nm).2) else (0, false, s)
section
variable {s : DS} {nm tn b : List UInt8} {d n : Int}
theorem doD_cases (P : Int × Bool × DS → Prop) (h1 : d = 1 → P ((s.append nm b).1, true, (s.append nm b).2)) (h2 : d = 2 → P ((s.cut nm n).1, true, (s.cut nm n).2)) (h3 : d = 3 → P ((s.rename nm tn).1, true, (s.rename nm tn).2)) (h4 : d = 4 → P ((s.remove nm).1, true, (s.remove nm).2)) (h0 : d ≠ 1 → d ≠ 2 → d ≠ 3 → d ≠ 4 → P (0, false, s)) : P (doD s d nm tn b n) := by
  unfold doD
  by_cases e1 : d = 1
  · rw [if_pos e1]; exact h1 e1
  · by_cases e2 : d = 2
    · rw [if_neg e1, if_pos e2]; exact h2 e2
    · by_cases e3 : d = 3
      · rw [if_neg e1, if_neg e2, if_pos e3]; exact h3 e3
      · by_cases e4 : d = 4
        · rw [if_neg e1, if_neg e2, if_neg e3, if_pos e4]; exact h4 e4
        · rw [if_neg e1, if_neg e2, if_neg e3, if_neg e4]; exact h0 e1 e2 e3 e4
theorem doD_ok (h : s.ok) : (doD s d nm tn b n).2.2.ok := doD_cases (fun q => q.2.2.ok) (fun _ => h.append _ _) (fun _ => h.cut _ _) (fun _ => h.rename _ _) (fun _ => h.remove _) (fun _ _ _ _ => h)
theorem doD_is : (doD s d nm tn b n).2.1 = decide (d = 1 ∨ d = 2 ∨ d = 3 ∨ d = 4) := doD_cases (fun q => q.2.1 = decide (d = 1 ∨ d = 2 ∨ d = 3 ∨ d = 4)) (fun h => by simp [h]) (fun h => by simp [h]) (fun h => by simp [h]) (fun h => by simp [h]) (fun h1 h2 h3 h4 => by simp [h1, h2, h3, h4])
theorem Calm.doD (h : Calm s) : Calm (doD s d nm tn b n).2.2 := doD_cases (fun q => Calm q.2.2) (fun _ => h.append _ _) (fun _ => h.cut _ _) (fun _ => h.rename _ _) (fun _ => h.remove _) (fun _ _ _ _ => h)
theorem doD_ref (h : Calm s) (h0 : (Go.Proofs.YtnbpkignkfabkaaGreatDoor.doD s d nm tn b n).1 ≠ 0) : (Go.Proofs.YtnbpkignkfabkaaGreatDoor.doD s d nm tn b n).2.2 = s := by
  revert h0
  exact doD_cases (fun q => q.1 ≠ 0 → q.2.2 = s) (fun _ h0 => append_ref _ _ h h0) (fun _ h0 => cut_ref _ _ h h0) (fun _ h0 => rename_ref _ _ h h0) (fun _ h0 => remove_ref _ h h0) (fun _ _ _ _ _ => rfl)
theorem doD_moved (h : Calm s) (ho : s.ok) (h0 : (Go.Proofs.YtnbpkignkfabkaaGreatDoor.doD s d nm tn b n).1 = 0) : MovedP s.C (Go.Proofs.YtnbpkignkfabkaaGreatDoor.doD s d nm tn b n).2.2.C d nm tn n := by
  revert h0
  refine doD_cases (fun q => q.1 = 0 → MovedP s.C q.2.2.C d nm tn n) (fun e h0 => ?_) (fun e h0 => ?_) (fun e h0 => ?_) (fun e h0 => ?_) (fun e1 e2 e3 e4 _ => ⟨fun e => absurd e e2, fun e => absurd e e4, fun e => absurd e e3⟩)
  · rw [e]; exact moved_append
  · rw [e]; exact moved_cut h ho h0
  · rw [e]; exact moved_rename h ho h0
  · rw [e]; exact moved_remove h ho h0
theorem doD_goes (h : Calm s) (ho : s.ok) (hh : hasC s.C nm = true) (hk : d = 4 ∨ (d = 2 ∧ 0 ≤ n ∧ n ≤ (bytC s.C nm).length) ∨ (d = 3 ∧ nmOk tn = true)) : (Go.Proofs.YtnbpkignkfabkaaGreatDoor.doD s d nm tn b n).1 = 0 := by
  rcases hk with rfl | ⟨rfl, h1, h2⟩ | ⟨rfl, h1⟩
  · exact h.removeK ho hh
  · exact h.cutK ho hh h1 h2
  · exact h.renameK ho hh h1
/-- How many writes there were behind it. -/
theorem doD_writes (h : Calm s) : (Go.Proofs.YtnbpkignkfabkaaGreatDoor.doD s d nm tn b n).2.2.writes = if (Go.Proofs.YtnbpkignkfabkaaGreatDoor.doD s d nm tn b n).2.1 = true ∧ (Go.Proofs.YtnbpkignkfabkaaGreatDoor.doD s d nm tn b n).1 = 0 then s.writes + 1 else s.writes := by
  refine doD_cases (fun q => q.2.2.writes = if q.2.1 = true ∧ q.1 = 0 then s.writes + 1 else s.writes) (fun e => ?_) (fun e => ?_) (fun e => ?_) (fun e => ?_) (fun e1 e2 e3 e4 => by simp)
  all_goals
    dsimp only
  · by_cases c : (s.append nm b).1 = 0
    · rw [if_pos ⟨rfl, c⟩]
      unfold DS.append at c ⊢
      by_cases c1 : s.may false [nm] ≠ 0
      · rw [if_pos c1] at c; exact absurd c c1
      · rw [if_neg c1] at c ⊢
        by_cases c2 : (hasC s.C nm = false ∧ 64 ≤ s.C.length) ∨ s.room < sumC s.C + b.length
        · rw [if_pos c2] at c; exact absurd c (by show ¬ (93 : Int) = 0; decide)
        · rw [if_neg c2, if_neg (by rw [h.arm]; decide)]; rfl
    · rw [if_neg (fun h => c h.2), append_ref _ _ h c]
  · by_cases c : (s.cut nm n).1 = 0
    · rw [if_pos ⟨rfl, c⟩]
      unfold DS.cut at c ⊢
      by_cases c1 : s.may true [nm] ≠ 0
      · rw [if_pos c1] at c; exact absurd c c1
      · rw [if_neg c1] at c ⊢
        by_cases c2 : n < 0 ∨ ((bytC s.C nm).length : Int) < n
        · rw [if_pos c2] at c; exact absurd c (by show ¬ (95 : Int) = 0; decide)
        · rw [if_neg c2, h.whole]; rfl
    · rw [if_neg (fun h => c h.2), cut_ref _ _ h c]
  · by_cases c : (s.rename nm tn).1 = 0
    · rw [if_pos ⟨rfl, c⟩]
      unfold DS.rename at c ⊢
      by_cases c1 : s.may true [nm, tn] ≠ 0
      · rw [if_pos c1] at c; exact absurd c c1
      · rw [if_neg c1, h.whole]
        show (if nm = tn then s.wr else (s.wr.del nm).put tn (bytC s.C nm)).writes = _
        split <;> rfl
    · rw [if_neg (fun h => c h.2), rename_ref _ _ h c]
  · by_cases c : (s.remove nm).1 = 0
    · rw [if_pos ⟨rfl, c⟩]
      unfold DS.remove at c ⊢
      by_cases c1 : s.may true [nm] ≠ 0
      · rw [if_pos c1] at c; exact absurd c c1
      · rw [if_neg c1, h.whole]; rfl
    · rw [if_neg (fun h => c h.2), remove_ref _ h c]
/-- A disk with another arming. -/
def DS.tw (s : DS) (k keep : Int) : DS := { s with armed := k, keep := keep }
theorem tw_may (k keep : Int) (t : Bool) (Ns : List (List UInt8)) : (s.tw k keep).may t Ns = s.may t Ns := rfl
theorem tw_wr (h : Calm s) {k keep : Int} (hk : 1 < k) : (s.tw k keep).wr = s.wr.tw (k - 1) keep := by
  unfold DS.wr DS.tw
  rw [if_pos (by show 0 < k; omega)]
  show (⟨s.room, s.C, k - 1, keep, s.off || decide (k = 1), s.writes + 1⟩ : DS) = ⟨s.room, s.C, k - 1, keep, s.off || decide (s.armed = 1), s.writes + 1⟩
  rw [h.arm, decide_eq_false (show ¬ k = 1 by omega)]
  rfl
/-- The torn one's beginning. -/
def DS.dark (s : DS) (keep : Int) : DS := { s with armed := 0, keep := keep, off := true }
theorem tw_wr1 {keep : Int} : (s.tw 1 keep).wr = s.wr.dark keep := by
  show (⟨s.room, s.C, 1 - 1, keep, s.off || true, s.writes + 1⟩ : DS) = ⟨s.room, s.C, 0, keep, true, s.writes + 1⟩
  rw [Bool.or_true]
  rfl
/-- Ahead of the torn one: both answer alike. -/
theorem doD_tw (h : Calm s) {k keep : Int} (hk : 1 < k) : ∃ k', 0 < k' ∧ k' + ((Go.Proofs.YtnbpkignkfabkaaGreatDoor.doD s d nm tn b n).2.2.writes : Int) = k + s.writes ∧ Go.Proofs.YtnbpkignkfabkaaGreatDoor.doD (s.tw k keep) d nm tn b n = ((Go.Proofs.YtnbpkignkfabkaaGreatDoor.doD s d nm tn b n).1, (Go.Proofs.YtnbpkignkfabkaaGreatDoor.doD s d nm tn b n).2.1, (Go.Proofs.YtnbpkignkfabkaaGreatDoor.doD s d nm tn b n).2.2.tw k' keep) := by
  have hs : (s.tw k keep) = s.tw k keep := rfl
  have e1 : ¬ (s.tw k keep).armed = 1 := by show ¬ k = 1; omega
  have e0 : ¬ s.armed = 1 := by rw [h.arm]; decide
  have ew := tw_wr h (keep := keep) hk
  unfold Go.Proofs.YtnbpkignkfabkaaGreatDoor.doD
  split
  · unfold DS.append
    rw [tw_may]
    split
    · exact ⟨k, by omega, by dsimp only, rfl⟩
    · show ∃ k', 0 < k' ∧ k' + (((if (hasC s.C nm = false ∧ 64 ≤ s.C.length) ∨ s.room < sumC s.C + b.length then _ else _ : Int × DS)).2.writes : Int) = _ ∧ (((if (hasC s.C nm = false ∧ 64 ≤ s.C.length) ∨ s.room < sumC s.C + b.length then _ else _ : Int × DS)).1, true, ((if (hasC s.C nm = false ∧ 64 ≤ s.C.length) ∨ s.room < sumC s.C + b.length then _ else _ : Int × DS)).2) = _
      split
      · exact ⟨k, by omega, by dsimp only, rfl⟩
      · rw [ew]
        exact ⟨k - 1, by omega, by show k - 1 + ((s.writes + 1 : Nat) : Int) = _; omega, rfl⟩
  · split
    · unfold DS.cut
      rw [tw_may]
      split
      · exact ⟨k, by omega, by dsimp only, rfl⟩
      · show ∃ k', 0 < k' ∧ k' + (((if n < 0 ∨ ((bytC s.C nm).length : Int) < n then _ else _ : Int × DS)).2.writes : Int) = _ ∧ (((if n < 0 ∨ ((bytC s.C nm).length : Int) < n then _ else _ : Int × DS)).1, true, ((if n < 0 ∨ ((bytC s.C nm).length : Int) < n then _ else _ : Int × DS)).2) = _
        split
        · exact ⟨k, by omega, by dsimp only, rfl⟩
        · unfold DS.whole
          rw [if_neg e0, if_neg e1, ew]
          exact ⟨k - 1, by omega, by show k - 1 + ((s.writes + 1 : Nat) : Int) = _; omega, rfl⟩
    · split
      · unfold DS.rename
        rw [tw_may]
        split
        · exact ⟨k, by omega, by dsimp only, rfl⟩
        · unfold DS.whole
          rw [if_neg e0, if_neg e1, ew]
          refine ⟨k - 1, by omega, ?_, ?_⟩
          · show k - 1 + ((if nm = tn then s.wr else (s.wr.del nm).put tn (bytC s.C nm)).writes : Int) = _
            have : (if nm = tn then s.wr else (s.wr.del nm).put tn (bytC s.C nm)).writes = s.writes + 1 := by split <;> rfl
            rw [this]; omega
          · show (0, true, (if nm = tn then _ else _ : DS)) = (0, true, (if nm = tn then s.wr else (s.wr.del nm).put tn (bytC s.C nm)).tw (k - 1) keep)
            split <;> rfl
      · split
        · unfold DS.remove
          rw [tw_may]
          split
          · exact ⟨k, by omega, by dsimp only, rfl⟩
          · unfold DS.whole
            rw [if_neg e0, if_neg e1, ew]
            exact ⟨k - 1, by omega, by show k - 1 + ((s.writes + 1 : Nat) : Int) = _; omega, rfl⟩
        · exact ⟨k, by omega, by dsimp only, rfl⟩
/-- What the torn write may leave of the files ahead of it and those that the whole one would have left. -/
def KeptP (was whole now : Con) (d : Int) (nm b : List UInt8) (keep : Int) : Prop :=
  (d ≠ 1 → 0 < keep → now = whole) ∧ (d ≠ 1 → ¬ 0 < keep → now = was) ∧
  (d = 1 → OthersP was now nm ∧ (hasC now nm = true ↔ hasC was nm = true ∨ 0 < keep) ∧ bytC now nm = bytC was nm ++ keptB b keep)
/-- The torn one, or one that is refused ahead of it. -/
theorem doD_tw1 (h : Calm s) (ho : s.ok) {keep : Int} (hd : d = 1 ∨ d = 2 ∨ d = 3 ∨ d = 4) :
    ((Go.Proofs.YtnbpkignkfabkaaGreatDoor.doD s d nm tn b n).1 ≠ 0 ∧ Go.Proofs.YtnbpkignkfabkaaGreatDoor.doD (s.tw 1 keep) d nm tn b n = ((Go.Proofs.YtnbpkignkfabkaaGreatDoor.doD s d nm tn b n).1, true, s.tw 1 keep)) ∨
    ((Go.Proofs.YtnbpkignkfabkaaGreatDoor.doD s d nm tn b n).1 = 0 ∧ ∃ C', Go.Proofs.YtnbpkignkfabkaaGreatDoor.doD (s.tw 1 keep) d nm tn b n = (94, true, { s.wr.dark keep with C := C' }) ∧ KeptP s.C (Go.Proofs.YtnbpkignkfabkaaGreatDoor.doD s d nm tn b n).2.2.C C' d nm b keep) := by
  have e1 : (s.tw 1 keep).armed = 1 := rfl
  have e0 : ¬ s.armed = 1 := by rw [h.arm]; decide
  have ew : (s.tw 1 keep).wr = s.wr.dark keep := tw_wr1
  have ek : (s.tw 1 keep).keep = keep := rfl
  have eC : (s.tw 1 keep).C = s.C := rfl
  unfold Go.Proofs.YtnbpkignkfabkaaGreatDoor.doD
  rcases hd with rfl | rfl | rfl | rfl
  · rw [if_pos rfl, if_pos rfl]
    unfold DS.append
    rw [tw_may, eC, ek]
    by_cases c1 : s.may false [nm] ≠ 0
    · rw [if_pos c1, if_pos c1]; exact .inl ⟨c1, rfl⟩
    · rw [if_neg c1, if_neg c1]
      have er : (s.tw 1 keep).room = s.room := rfl
      rw [er]
      by_cases c2 : (hasC s.C nm = false ∧ 64 ≤ s.C.length) ∨ s.room < sumC s.C + b.length
      · rw [if_pos c2, if_pos c2]; exact .inl ⟨by show ¬ (93 : Int) = 0; decide, rfl⟩
      · rw [if_neg c2, if_neg c2, if_neg e0, if_pos e1, ew]
        right
        refine ⟨rfl, ?_⟩
        by_cases c3 : hasC s.C nm = true ∨ 0 < keep
        · rw [if_pos c3]
          refine ⟨setC s.C nm (bytC s.C nm ++ keptB b keep), rfl, (fun h => absurd rfl h), (fun h => absurd rfl h), fun _ => ⟨others_set ho.so _ _, ?_, bytC_set_same ho.so _ _⟩⟩
          rw [has_set_same]
          exact ⟨fun _ => c3, fun _ => rfl⟩
        · rw [if_neg c3]
          have c4 : hasC s.C nm = false := by
            cases e : hasC s.C nm with
            | true => exact absurd (.inl e) c3
            | false => rfl
          have c5 : ¬ 0 < keep := fun h => c3 (.inr h)
          refine ⟨s.C, rfl, (fun h => absurd rfl h), (fun h => absurd rfl h), fun _ => ⟨others_refl ho.so _, ?_, ?_⟩⟩
          · rw [c4]
            exact ⟨(fun h => by cases h), fun h => h.elim (fun h => by cases h) (fun h => absurd h c5)⟩
          · unfold keptB
            rw [show (max 0 (min keep (b.length : Int))).toNat = 0 by omega]
            simp
  · rw [if_neg (by decide), if_pos rfl, if_neg (by decide), if_pos rfl]
    unfold DS.cut
    rw [tw_may, eC]
    by_cases c1 : s.may true [nm] ≠ 0
    · rw [if_pos c1, if_pos c1]; exact .inl ⟨c1, rfl⟩
    · rw [if_neg c1, if_neg c1]
      by_cases c2 : n < 0 ∨ ((bytC s.C nm).length : Int) < n
      · rw [if_pos c2, if_pos c2]; exact .inl ⟨by show ¬ (95 : Int) = 0; decide, rfl⟩
      · rw [if_neg c2, if_neg c2]
        right
        unfold DS.whole
        rw [if_neg e0, if_pos e1, ek, ew]
        refine ⟨rfl, ?_⟩
        by_cases c3 : 0 < keep
        · rw [if_pos c3]
          exact ⟨setC s.C nm ((bytC s.C nm).take n.toNat), rfl, fun _ _ => rfl, fun _ h => absurd c3 h, fun h => absurd h (by decide)⟩
        · rw [if_neg c3]
          exact ⟨s.C, rfl, fun _ h => absurd h c3, fun _ _ => rfl, fun h => absurd h (by decide)⟩
  · rw [if_neg (by decide), if_neg (by decide), if_pos rfl, if_neg (by decide), if_neg (by decide), if_pos rfl]
    unfold DS.rename
    rw [tw_may, eC]
    by_cases c1 : s.may true [nm, tn] ≠ 0
    · rw [if_pos c1, if_pos c1]; exact .inl ⟨c1, rfl⟩
    · rw [if_neg c1, if_neg c1]
      right
      unfold DS.whole
      rw [if_neg e0, if_pos e1, ek, ew]
      refine ⟨rfl, ?_⟩
      by_cases c3 : 0 < keep
      · rw [if_pos c3]
        refine ⟨(if nm = tn then s.wr else (s.wr.del nm).put tn (bytC s.C nm)).C, ?_, fun _ _ => rfl, fun _ h => absurd c3 h, fun h => absurd h (by decide)⟩
        show ((94 : Int), true, (if nm = tn then s.wr.dark keep else ((s.wr.dark keep).del nm).put tn (bytC s.C nm))) = _
        split <;> rfl
      · rw [if_neg c3]
        exact ⟨s.C, rfl, fun _ h => absurd h c3, fun _ _ => rfl, fun h => absurd h (by decide)⟩
  · rw [if_neg (by decide), if_neg (by decide), if_neg (by decide), if_pos rfl, if_neg (by decide), if_neg (by decide), if_neg (by decide), if_pos rfl]
    unfold DS.remove
    rw [tw_may]
    by_cases c1 : s.may true [nm] ≠ 0
    · rw [if_pos c1, if_pos c1]; exact .inl ⟨c1, rfl⟩
    · rw [if_neg c1, if_neg c1]
      right
      unfold DS.whole
      rw [if_neg e0, if_pos e1, ek, ew]
      refine ⟨rfl, ?_⟩
      by_cases c3 : 0 < keep
      · rw [if_pos c3]
        exact ⟨delC s.C nm, rfl, fun _ _ => rfl, fun _ h => absurd c3 h, fun h => absurd h (by decide)⟩
      · rw [if_neg c3]
        exact ⟨s.C, rfl, fun _ h => absurd h c3, fun _ _ => rfl, fun h => absurd h (by decide)⟩
/-- While the power is off. -/
theorem doD_dark (h : s.off = true) (hd : d = 1 ∨ d = 2 ∨ d = 3 ∨ d = 4) : Go.Proofs.YtnbpkignkfabkaaGreatDoor.doD s d nm tn b n = (94, true, s) := by
  have hm : ∀ t Ns, s.may t Ns = 94 := fun t Ns => by unfold DS.may; rw [if_pos h]
  unfold Go.Proofs.YtnbpkignkfabkaaGreatDoor.doD
  rcases hd with rfl | rfl | rfl | rfl
  · rw [if_pos rfl]; unfold DS.append; rw [hm, if_pos (by decide)]
  · rw [if_neg (by decide), if_pos rfl]; unfold DS.cut; rw [hm, if_pos (by decide)]
  · rw [if_neg (by decide), if_neg (by decide), if_pos rfl]; unfold DS.rename; rw [hm, if_pos (by decide)]
  · rw [if_neg (by decide), if_neg (by decide), if_neg (by decide), if_pos rfl]; unfold DS.remove; rw [hm, if_pos (by decide)]
/-- Two disks with the same files in the same room. -/
structure Like (s t : DS) : Prop where
  l : Calm s
  r : Calm t
  room : s.room = t.room
  C : s.C = t.C
theorem Like.doD {t : DS} (h : Like s t) : (Go.Proofs.YtnbpkignkfabkaaGreatDoor.doD s d nm tn b n).1 = (Go.Proofs.YtnbpkignkfabkaaGreatDoor.doD t d nm tn b n).1 ∧ Like (Go.Proofs.YtnbpkignkfabkaaGreatDoor.doD s d nm tn b n).2.2 (Go.Proofs.YtnbpkignkfabkaaGreatDoor.doD t d nm tn b n).2.2 := by
  have k1 := h.l.doD (d := d) (nm := nm) (tn := tn) (b := b) (n := n)
  have k2 := h.r.doD (d := d) (nm := nm) (tn := tn) (b := b) (n := n)
  have key : (Go.Proofs.YtnbpkignkfabkaaGreatDoor.doD s d nm tn b n).1 = (Go.Proofs.YtnbpkignkfabkaaGreatDoor.doD t d nm tn b n).1 ∧ (Go.Proofs.YtnbpkignkfabkaaGreatDoor.doD s d nm tn b n).2.2.room = (Go.Proofs.YtnbpkignkfabkaaGreatDoor.doD t d nm tn b n).2.2.room ∧ (Go.Proofs.YtnbpkignkfabkaaGreatDoor.doD s d nm tn b n).2.2.C = (Go.Proofs.YtnbpkignkfabkaaGreatDoor.doD t d nm tn b n).2.2.C := by
    obtain ⟨⟨o1, a1⟩, ⟨o2, a2⟩, hr, hC⟩ := h
    obtain ⟨r1, C1, ar1, kp1, of1, w1⟩ := s
    obtain ⟨r2, C2, ar2, kp2, of2, w2⟩ := t
    simp only at o1 a1 o2 a2 hr hC
    subst o1 a1 o2 a2 hr hC
    have hm : ∀ t Ns, (⟨r1, C1, 0, kp2, false, w2⟩ : DS).may t Ns = (⟨r1, C1, 0, kp1, false, w1⟩ : DS).may t Ns := fun _ _ => rfl
    unfold Go.Proofs.YtnbpkignkfabkaaGreatDoor.doD
    split
    · unfold DS.append
      rw [hm]
      dsimp only
      split
      · exact ⟨rfl, rfl, rfl⟩
      · split
        · exact ⟨rfl, rfl, rfl⟩
        · exact ⟨rfl, rfl, rfl⟩
    · split
      · unfold DS.cut
        rw [hm]
        dsimp only
        split
        · exact ⟨rfl, rfl, rfl⟩
        · split
          · exact ⟨rfl, rfl, rfl⟩
          · exact ⟨rfl, rfl, rfl⟩
      · split
        · unfold DS.rename
          rw [hm]
          split
          · exact ⟨rfl, rfl, rfl⟩
          · by_cases c : nm = tn
            · subst c
              simp [DS.whole, DS.wr]
            · simp [DS.whole, DS.wr, c, DS.put, DS.del]
        · split
          · unfold DS.remove
            rw [hm]
            split
            · exact ⟨rfl, rfl, rfl⟩
            · exact ⟨rfl, rfl, rfl⟩
          · exact ⟨rfl, rfl, rfl⟩
  exact ⟨key.1, k1, k2, key.2.1, key.2.2⟩
end
end Go.Proofs.YtnbpkignkfabkaaGreatDoor
/- posternlaw9.works. -/
namespace Go.Proofs.YtnbpkignkfabkaaGreatDoor
set_option linter.unusedVariables false
set_option linter.unusedSimpArgs false
open Go.RowKit Go.Maps
/-- An answer of New where the room may be. -/
theorem new_dk {w w' : World} {room : Nat} {r : Ending} (h1 : 1 ≤ room) (h2 : room ≤ 268435456) (h : LoadP w w' (room : Int) [] r) : ∃ db, r = .returned (.tuple #[.pointer (some ⟨db, 0, none⟩), .int .i64 0]) ∧ DkN w' w.heap.size db (DS.new room) ∧ Below w.heap.size w w' := by
  have e : loadR (room : Int) [] = (0, some (DS.new room)) := by
    unfold loadR
    rw [if_neg (by omega), if_neg (by simp)]
    rw [Int.toNat_natCast]
    rfl
  unfold LoadP at h
  rw [e] at h
  obtain ⟨db, g1, g2, g3⟩ := h
  exact ⟨db, g1, ⟨g2, g3.size⟩, g3⟩
def W9a : DS := ⟨10, [([97], [120, 121])], 0, 0, false, 1⟩
def W9b : DS := ⟨10, [([97], [120, 121])], 1, 1, false, 1⟩
def W9c : DS := ⟨10, [([97], [120, 121, 122])], 0, 1, true, 2⟩
def W9d : DS := ⟨10, [([97], [120, 121, 122])], 0, 1, false, 2⟩
theorem w9a : (DS.new 10).append [97] [120, 121] = (0, W9a) := by rfl
theorem w9b : W9a.arm 1 1 = W9b := by rfl
theorem w9c : W9b.append [97] [122, 122] = (94, W9c) := by rfl
theorem w9d : W9c.on = W9d := by rfl
theorem w9e : W9d.may true [[97]] = 0 := by rfl
theorem w9f : readB W9d [97] = [120, 121, 122] := by rfl
/-- Bytes that were just written out. -/
theorem Byt.lit (w : World) (l : List UInt8) (fr : Nat × Nat) : Byt (w.alloc (.cells (bys l).toArray 5 fr)) (some ⟨w.heap.size, 0, none⟩) l := by
  intro i hi
  refine ⟨_, 0, rfl, ?_⟩
  rw [cell_of_row' (heap_alloc_new w _), Nat.zero_add, List.getElem?_toArray]
  exact bys_get hi
end Go.Proofs.YtnbpkignkfabkaaGreatDoor
/- posternref0.EqFile, EqFiles: of the same files. -/
namespace Go.Proofs.YtnbpkignkfabkaaGreatDoor
set_option linter.unusedVariables false
set_option linter.unusedSimpArgs false
open Go.RowKit Go.Maps
set_option maxRecDepth 100000 in
set_option maxHeartbeats 1000000 in
theorem EqFile_same (nm t : List UInt8) (a b : Option Addr) (c d : Nat) (w : World) (hx : Byt w a t) (hy : Byt w b t) (hn : t.length ≤ 140737488355328) :
    Calls Tryz.prog 64 #[.agg #[.string ⟨nm.toArray⟩, .slice a t.length c], .agg #[.string ⟨nm.toArray⟩, .slice b t.length d]] w fun r w' => r = .returned (.bool true) ∧ Below w.heap.size w w' := by
  obtain ⟨w2, hw2⟩ : ∃ q, (w.alloc (.cells #[.string ⟨nm.toArray⟩, .slice a t.length c] 116)).alloc (.cells #[.string ⟨nm.toArray⟩, .slice b t.length d] 116) = q := ⟨_, rfl⟩
  have B2 : Below w.heap.size w w2 := by rw [← hw2]; exact ((Below.refl _ _).alloc (Nat.le_refl _) _).alloc (by simp) _
  have EC := Lib.hid (Eq_calls a b c d t t w2 (hx.below B2) (hy.below B2) hn)
  have W2 := Lib.hid hw2; have BB := Lib.hid B2
  clear hx hy hw2 B2
  go_enter Tryz.func64, Tryz.ntmps64
  go_wp2_with fail
  rw [W2.out]
  refine EC.out.mono ?_
  rintro r w3 ⟨n, rfl, rfl⟩
  go_wp2
  go_ret
  exact ⟨by simp, bel_drewN BB.out n⟩
set_option maxRecDepth 100000 in
set_option maxHeartbeats 2000000 in
theorem EqFiles_same (C : Con) (a b : Option Addr) (c d : Nat) (w : World) (hx : Fil w a C) (hy : Fil w b C) (hl : C.length ≤ 140737488355328) (hn : ∀ p ∈ C, p.2.length ≤ 140737488355328) :
    Calls Tryz.prog 33 #[.slice a C.length c, .slice b C.length d] w fun r w' => r = .returned (.bool true) ∧ Below w.heap.size w w' := by
  have HX := Lib.hid hx; have HY := Lib.hid hy; have HN := Lib.hid hn
  have t0 : ((C.length : Int) != (C.length : Int)) = false := by simp
  clear hx hy hn
  go_enter Tryz.func33, Tryz.ntmps33
  go_wp2
  go_loopw [5] (fun vi wr => ∃ i : Nat, vi = .int .i64 i ∧ i ≤ C.length ∧ Below w.heap.size w wr) (fun vi _ => C.length - (intOf vi).toNat)
  case atStart => exact ⟨0, rfl, Nat.zero_le _, Below.refl _ _⟩
  case round =>
    obtain ⟨i, rfl, hi, hb⟩ := hrel
    have B := Lib.hid hb
    have X := Lib.hid (HX.out.below hb)
    have Y := Lib.hid (HY.out.below hb)
    clear hb
    by_cases c1 : i < C.length
    · have t1 : decide ((i : Int) < (C.length : Int)) = true := decide_eq_true (by omega)
      have t1' : decide (i < C.length) = true := decide_eq_true c1
      obtain ⟨b1, o1, p1, k1, rfl, h1, h2, h3, h4⟩ := X.out i c1
      obtain ⟨b2, o2, p2, k2, rfl, g1, g2, g3, g4⟩ := Y.out i c1
      have hlen := HN.out C[i] (List.getElem_mem c1)
      obtain ⟨nm, hnm⟩ : ∃ q, C[i].1 = q := ⟨_, rfl⟩
      obtain ⟨t, ht⟩ : ∃ q, C[i].2 = q := ⟨_, rfl⟩
      rw [hnm] at h1 g1
      rw [ht] at h2 h3 h4 g2 g3 g4 hlen
      have EC := Lib.hid (EqFile_same nm t p1 p2 k1 k2 wr.drew (h4.drewN 1) (g4.drewN 1) hlen)
      have i2 : (i : Int) < (C.length : Int) := by omega
      clear hnm ht h3 h4 g3 g4 t0
      go_wp2_with fail
      go_still_tail 8, (by kernel_rfl)
      go_wp2_with fail
      refine EC.out.mono ?_
      rintro r w5 ⟨rfl, b5⟩
      have B5 := Lib.hid (B.out.trans ((bel_undr b5).mono B.out.size))
      clear b5 EC h1 h2 g1 g2
      go_wp2
      go_roundw
      case rel => exact ⟨i + 1, by go_num, by omega, B5.out⟩
      case measure => simp [intOf]; omega
    · have t1 : decide ((i : Int) < (C.length : Int)) = false := decide_eq_false (by omega)
      have t1' : decide (i < C.length) = false := decide_eq_false c1
      go_wp2
      go_ret
      exact ⟨rfl, B.out⟩
end Go.Proofs.YtnbpkignkfabkaaGreatDoor
/- (*disk.Disk).Rename. -/
/- disk.Rename's closure. -/
namespace Go.Proofs.YtnbpkignkfabkaaGreatDoor
set_option linter.unusedVariables false
set_option linter.unusedSimpArgs false
open Go.RowKit Go.Maps
theorem blk_ne_map {w : World} {base db mb : Nat} {m : Int} {k : DkV} {L : List Fl} {D : DataW Value} (h : Dsk w base db mb m k L D) : ¬ db = mb := by
  intro s
  obtain ⟨es, c, hb2, _⟩ := h.fls.map
  have h1 := h.blk
  rw [s, hb2] at h1
  cases h1
end Go.Proofs.YtnbpkignkfabkaaGreatDoor
namespace Go.Proofs.YtnbpkignkfabkaaGreatDoor
set_option linter.unusedVariables false
set_option linter.unusedSimpArgs false
open Go.RowKit Go.Maps Go.MuLone
def boxN (db : Nat) (a b : List UInt8) (w : World) : World := ((w.alloc (.cells #[.pointer (some ⟨db, 0, none⟩)] 26)).alloc (.cells #[.string ⟨a.toArray⟩] 9)).alloc (.cells #[.string ⟨b.toArray⟩] 9)
theorem boxN_below (db : Nat) (a b : List UInt8) (w : World) : Below w.heap.size w (boxN db a b w) := (((Below.refl _ w).alloc (Nat.le_refl _) _).alloc (by simp) _).alloc (by simp; omega) _
theorem boxN_size (db : Nat) (a b : List UInt8) (w : World) : (boxN db a b w).heap.size = w.heap.size + 1 + 1 + 1 := by unfold boxN; rw [World.size_alloc, World.size_alloc, World.size_alloc]
theorem boxN_cells (db : Nat) (a b : List UInt8) (w : World) :
    (boxN db a b w).cell? ⟨w.heap.size, 0, none⟩ = some (.pointer (some ⟨db, 0, none⟩)) ∧ (boxN db a b w).cell? ⟨w.heap.size + 1, 0, none⟩ = some (.string ⟨a.toArray⟩) ∧ (boxN db a b w).cell? ⟨w.heap.size + 1 + 1, 0, none⟩ = some (.string ⟨b.toArray⟩) := by
  unfold boxN
  refine ⟨?_, ?_, ?_⟩
  · rw [cell_of_row' ((Below.heap_alloc _ _ _ (by rw [World.size_alloc, World.size_alloc]; omega)).trans ((Below.heap_alloc _ _ _ (by rw [World.size_alloc]; omega)).trans (heap_alloc_new w _)))]; rfl
  · have hh := heap_alloc_new (w.alloc (.cells #[.pointer (some ⟨db, 0, none⟩)] 26)) (.cells #[.string ⟨a.toArray⟩] 9)
    rw [World.size_alloc] at hh
    rw [cell_of_row' ((Below.heap_alloc _ _ _ (by rw [World.size_alloc, World.size_alloc]; omega)).trans hh)]; rfl
  · have hh := heap_alloc_new ((w.alloc (.cells #[.pointer (some ⟨db, 0, none⟩)] 26)).alloc (.cells #[.string ⟨a.toArray⟩] 9)) (.cells #[.string ⟨b.toArray⟩] 9)
    rw [World.size_alloc, World.size_alloc] at hh
    rw [cell_of_row' hh]; rfl
def renF (a b x : List UInt8) (t : DS) : DS := if a = b then t else (t.del a).put b x
theorem DS.rename_eq (s : DS) (a b : List UInt8) : s.rename a b = if s.may true [a, b] ≠ 0 then (s.may true [a, b], s) else s.whole (renF a b (bytC s.C a)) := rfl
theorem DS.ok.renF {s : DS} (h : s.ok) (a b : List UInt8) (hm : s.may true [a, b] = 0) : (renF a b (bytC s.C a) s.wr).ok := by
  obtain ⟨_, h2, h3⟩ := s.may_cases _ _ hm
  unfold Go.Proofs.YtnbpkignkfabkaaGreatDoor.renF
  split
  · exact h.wr
  · have h4 : hasC s.C a = true := h3 rfl
    have l1 := len_del h.so a
    rw [if_pos h4] at l1
    have l2 := h.len
    have s1 := sum_del h.so a
    have s2 := h.sum
    refine (h.wr.del a).put b _ (by simp at h2; exact h2.2) (.inr ?_) ?_
    · show (delC s.C a).length < 64
      omega
    · show sumC (delC s.C a) + (bytC s.C a).length ≤ s.room + _
      omega
theorem k_ren {s : DS} (hs : SortedC s.C) {a b : List UInt8} (hne : a ≠ b) (u : Int) (hu : u = (sumC s.C : Int) - (bytC s.C b).length) : { s.wr.k with used := u } = ((s.wr.del a).put b (bytC s.C a)).k := by
  have h1 := sum_del hs a
  have h2 := sum_set (sorted_delC a hs) b (bytC s.C a)
  rw [bytC_del_other hs (fun e => hne e.symm)] at h2
  have e : u = ((sumC (setC (delC s.C a) b (bytC s.C a)) : Nat) : Int) := by omega
  rw [e]
  rfl
end Go.Proofs.YtnbpkignkfabkaaGreatDoor
/- posternlaw9's helpers: file, others, size, do. -/
namespace Go.Proofs.YtnbpkignkfabkaaGreatDoor
set_option linter.unusedVariables false
set_option linter.unusedSimpArgs false
open Go.RowKit Go.Maps
theorem bytC_at {l : Con} {i : Nat} {nm : List UInt8} (hi : i < l.length) (h0 : hasC (l.take i) nm = false) (h1 : l[i].1 = nm) : bytC l nm = l[i].2 ∧ hasC l nm = true := by
  have e : l = l.take i ++ l[i] :: l.drop (i + 1) := by rw [← List.drop_eq_getElem_cons hi, List.take_append_drop]
  have hn : (l.take i).find? (fun p => p.1 == nm) = none := by
    rw [List.find?_eq_none]
    intro p hp
    have := hasC_no.1 h0 p hp
    simpa using this
  refine ⟨?_, hasC_iff.2 ⟨l[i], List.getElem_mem hi, h1⟩⟩
  obtain ⟨q, hq⟩ : ∃ q, l[i] = q := ⟨_, rfl⟩
  rw [hq] at e h1 ⊢
  have e2 : l.find? (fun p => p.1 == nm) = some q := by
    rw [e, List.find?_append, hn]
    simp [h1]
  unfold bytC
  rw [e2]
  rfl
theorem hasC_take {l : Con} {i : Nat} {nm : List UInt8} (hi : i < l.length) (h0 : hasC (l.take i) nm = false) (h1 : l[i].1 ≠ nm) : hasC (l.take (i + 1)) nm = false := by
  rw [hasC_no] at h0 ⊢
  intro p hp
  rw [List.take_succ_eq_append_getElem hi] at hp
  rcases List.mem_append.1 hp with hp | hp
  · exact h0 p hp
  · rw [List.mem_singleton] at hp; rw [hp]; exact h1
/-- What file answers. -/
def FileP (w w' : World) (l : Con) (nm : List UInt8) (r : Ending) : Prop := ∃ a c, r = .returned (.tuple #[.slice a (bytC l nm).length c, .bool (hasC l nm)]) ∧ Byt w a (bytC l nm) ∧ (bytC l nm).length ≤ c ∧ w = w'
end Go.Proofs.YtnbpkignkfabkaaGreatDoor
/- posternlaw9: an op as it comes in; size, do. -/
namespace Go.Proofs.YtnbpkignkfabkaaGreatDoor
set_option linter.unusedVariables false
set_option linter.unusedSimpArgs false
open Go.RowKit Go.Maps
/-- An op, with where its bytes lie. -/
structure O9 where
  d : Int
  on : Int
  nm : List UInt8
  tn : List UInt8
  ba : Option Addr
  b : List UInt8
  bc : Nat
  n : Int
  keep : Int
  fa : Option Addr
  fl : Con
  fc : Nat
def O9.cells (o : O9) : Array Value := #[.int .i64 o.d, .int .i64 o.on, .string ⟨o.nm.toArray⟩, .string ⟨o.tn.toArray⟩, .slice o.ba o.b.length o.bc, .int .i64 o.n, .int .i64 o.keep, .slice o.fa o.fl.length o.fc]
structure O9.At (w : World) (o : O9) : Prop where
  byt : Byt w o.ba o.b
  cap : o.b.length ≤ o.bc
  fil : Fil w o.fa o.fl
  bl : o.b.length ≤ 140737488351232
  nl : o.nm.length ≤ 140737488351232
  tl : o.tn.length ≤ 140737488351232
  ll : o.fl.length ≤ 140737488351232
  fs : ∀ p ∈ o.fl, p.1.length ≤ 140737488351232 ∧ p.2.length ≤ 140737488351232
  nn : -9223372036854775808 ≤ o.n ∧ o.n ≤ 9223372036854775807
  kn : -9223372036854775808 ≤ o.keep ∧ o.keep ≤ 9223372036854775807
theorem O9.At.below {w w' : World} {o : O9} (h : o.At w) (hb : Below w.heap.size w w') : o.At w' := ⟨h.byt.below hb, h.cap, h.fil.below hb, h.bl, h.nl, h.tl, h.ll, h.fs, h.nn, h.kn⟩
def SizeP9 (w w' : World) (k : Nat) (r : Ending) : Prop := ∃ n : Nat, r = .returned (.int .i64 n) ∧ k ≤ n ∧ n ≤ 300000000000000 ∧ Below w.heap.size w w'
theorem DkStep.pre {w w2 w' : World} {B db : Nat} {F : Nat → Prop} {s' : DS} (hB : B ≤ w.heap.size) (hb : Below w.heap.size w w2) (h : DkStep w2 w' B db F s') : DkStep w w' B db F s' := by
  obtain ⟨F', h1, h2, h3, h4⟩ := h
  exact ⟨F', h1, ((Upd.ofBelow hb).mono (fun _ s _ => s.elim)).same h2, (hb.mono hB).trans h3, fun i hi => (h4 i hi).imp id (fun h9 => Nat.le_trans hb.size h9)⟩
/-- What do comes tn. -/
def DoP9 (w w' : World) (B db : Nat) (F : Nat → Prop) (q : Int × Bool × DS) (r : Ending) : Prop := r = .returned (.tuple #[.int .i64 q.1, .bool q.2.1]) ∧ DkStep w w' B db F q.2.2
end Go.Proofs.YtnbpkignkfabkaaGreatDoor
namespace Go.Proofs.YtnbpkignkfabkaaGreatDoor
set_option linter.unusedVariables false
set_option linter.unusedSimpArgs false
open Go.RowKit Go.Maps
/-- Ops stand at a. -/
def Ops9 (w : World) (a : Option Addr) (ops : List O9) : Prop :=
  ∀ i (h : i < ops.length), (ops[i]).At w ∧ ∃ b o, a = some ⟨b, o, none⟩ ∧
    w.cell? ⟨b, o + i * 8, none⟩ = some (.int .i64 ops[i].d) ∧ w.cell? ⟨b, o + i * 8 + 1, none⟩ = some (.int .i64 ops[i].on) ∧ w.cell? ⟨b, o + i * 8 + 2, none⟩ = some (.string ⟨ops[i].nm.toArray⟩) ∧ w.cell? ⟨b, o + i * 8 + 3, none⟩ = some (.string ⟨ops[i].tn.toArray⟩) ∧
    w.cell? ⟨b, o + i * 8 + 4, none⟩ = some (.slice ops[i].ba ops[i].b.length ops[i].bc) ∧ w.cell? ⟨b, o + i * 8 + 5, none⟩ = some (.int .i64 ops[i].n) ∧ w.cell? ⟨b, o + i * 8 + 6, none⟩ = some (.int .i64 ops[i].keep) ∧ w.cell? ⟨b, o + i * 8 + 7, none⟩ = some (.slice ops[i].fa ops[i].fl.length ops[i].fc)
theorem Ops9.below {w w' : World} {a : Option Addr} {ops : List O9} (h : Ops9 w a ops) (hb : Below w.heap.size w w') : Ops9 w' a ops := by
  intro i hi
  obtain ⟨ha, b, o, e, h0, h1, h2, h3, h4, h5, h6, h7⟩ := h i hi
  have hl : b < w.heap.size := World.block_lt_of_cell? w _ h0
  have k : ∀ j v, w.cell? ⟨b, o + i * 8 + j, none⟩ = some v → w'.cell? ⟨b, o + i * 8 + j, none⟩ = some v := fun j v hv => by rw [hb.cell (p := ⟨b, o + i * 8 + j, none⟩) hl]; exact hv
  exact ⟨ha.below hb, b, o, e, k 0 _ h0, k 1 _ h1, k 2 _ h2, k 3 _ h3, k 4 _ h4, k 5 _ h5, k 6 _ h6, k 7 _ h7⟩
def Q9 (w : World) (ob : Nat) (d on n keep : Int) (nm tn b : List UInt8) (ba fa : Option Addr) (bc fc fn : Nat) : Prop :=
  w.cell? ⟨ob, 0, none⟩ = some (.int .i64 d) ∧ w.cell? ⟨ob, 1, none⟩ = some (.int .i64 on) ∧ w.cell? ⟨ob, 2, none⟩ = some (.string ⟨nm.toArray⟩) ∧ w.cell? ⟨ob, 3, none⟩ = some (.string ⟨tn.toArray⟩) ∧ w.cell? ⟨ob, 4, none⟩ = some (.slice ba b.length bc) ∧ w.cell? ⟨ob, 5, none⟩ = some (.int .i64 n) ∧ w.cell? ⟨ob, 6, none⟩ = some (.int .i64 keep) ∧ w.cell? ⟨ob, 7, none⟩ = some (.slice fa fn fc)
end Go.Proofs.YtnbpkignkfabkaaGreatDoor
