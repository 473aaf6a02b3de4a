/- The files of a disk as a list in the order of their names: plain facts, no program in sight. -/
import Derived.Test.YtcmllfnhdodbdaaDoorNamed
namespace Go.Proofs.YtcmllfnhdodbdaaDoor
set_option linter.unusedVariables false
set_option linter.unusedSimpArgs false
open Go.RowKit
abbrev Con := List (List UInt8 × List UInt8)
def hasC (C : Con) (nm : List UInt8) : Bool := C.any fun p => p.1 == nm
def bytC (C : Con) (nm : List UInt8) : List UInt8 := ((C.find? fun p => p.1 == nm).map (·.2)).getD []
def delC (C : Con) (nm : List UInt8) : Con := C.filter fun p => !(p.1 == nm)
def insC (p : List UInt8 × List UInt8) : Con → Con
  | [] => [p]
  | q :: C => if p.1 < q.1 then p :: q :: C else q :: insC p C
def setC (C : Con) (nm b : List UInt8) : Con := insC (nm, b) (delC C nm)
def sumC (C : Con) : Nat := (C.map fun p => p.2.length).sum
def SortedC (C : Con) : Prop := C.Pairwise fun p q => p.1 < q.1
theorem nm_irrefl (a : List UInt8) : ¬ a < a := List.lt_irrefl a
theorem nm_trans {a b c : List UInt8} (h : a < b) (k : b < c) : a < c := List.lt_trans h k
theorem nm_asymm {a b : List UInt8} (h : a < b) : ¬ b < a := fun k => nm_irrefl a (nm_trans h k)
theorem nm_ne {a b : List UInt8} (h : a < b) : a ≠ b := fun e => nm_irrefl b (e ▸ h)
theorem nm_tri {a b : List UInt8} (h : ¬ a < b) (hne : a ≠ b) : b < a := by
  have h1 : b ≤ a := List.not_lt.1 h
  rcases List.le_iff_lt_or_eq.1 h1 with k | k
  · exact k
  · exact absurd k.symm hne
theorem hasC_iff {C : Con} {nm : List UInt8} : hasC C nm = true ↔ ∃ p ∈ C, p.1 = nm := by simp [hasC]
theorem hasC_no {C : Con} {nm : List UInt8} : hasC C nm = false ↔ ∀ p ∈ C, p.1 ≠ nm := by
  rw [← Bool.not_eq_true, hasC_iff]
  constructor
  · intro h p hp e; exact h ⟨p, hp, e⟩
  · rintro h ⟨p, hp, e⟩; exact h p hp e
theorem mem_delC {C : Con} {nm : List UInt8} {p : List UInt8 × List UInt8} : p ∈ delC C nm ↔ p ∈ C ∧ p.1 ≠ nm := by simp [delC]
theorem mem_insC {p q : List UInt8 × List UInt8} : ∀ {C : Con}, q ∈ insC p C ↔ q = p ∨ q ∈ C
  | [] => by simp [insC]
  | r :: C => by
    unfold insC
    split
    · simp
    · rw [List.mem_cons, mem_insC, List.mem_cons]
      constructor
      · rintro (h | h | h)
        · exact .inr (.inl h)
        · exact .inl h
        · exact .inr (.inr h)
      · rintro (h | h | h)
        · exact .inr (.inl h)
        · exact .inl h
        · exact .inr (.inr h)
theorem insC_perm (p : List UInt8 × List UInt8) : ∀ C : Con, (insC p C).Perm (p :: C)
  | [] => List.Perm.refl _
  | r :: C => by
    unfold insC
    split
    · exact List.Perm.refl _
    · exact (List.Perm.cons r (insC_perm p C)).trans (List.Perm.swap p r C)
theorem mem_setC {C : Con} {nm b : List UInt8} {q : List UInt8 × List UInt8} : q ∈ setC C nm b ↔ q = (nm, b) ∨ (q ∈ C ∧ q.1 ≠ nm) := by
  unfold setC
  rw [mem_insC, mem_delC]
theorem sorted_insC {p : List UInt8 × List UInt8} : ∀ {C : Con}, SortedC C → (∀ q ∈ C, q.1 ≠ p.1) → SortedC (insC p C)
  | [], _, _ => by simp [insC, SortedC]
  | r :: C, h, hn => by
    unfold insC
    unfold SortedC at h ⊢
    rw [List.pairwise_cons] at h
    split
    · rename_i hlt
      rw [List.pairwise_cons, List.pairwise_cons]
      refine ⟨?_, h⟩
      intro q hq
      rcases List.mem_cons.1 hq with rfl | hq
      · exact hlt
      · exact nm_trans hlt (h.1 q hq)
    · rename_i hlt
      rw [List.pairwise_cons]
      refine ⟨?_, sorted_insC h.2 (fun q hq => hn q (List.mem_cons_of_mem _ hq))⟩
      intro q hq
      rcases mem_insC.1 hq with rfl | hq
      · exact nm_tri hlt (fun e => hn r (by simp) e.symm)
      · exact h.1 q hq
theorem sorted_delC {C : Con} (nm : List UInt8) (h : SortedC C) : SortedC (delC C nm) := List.Pairwise.sublist List.filter_sublist h
theorem sorted_setC {C : Con} (nm b : List UInt8) (h : SortedC C) : SortedC (setC C nm b) := sorted_insC (sorted_delC nm h) (fun _ hq => (mem_delC.1 hq).2)
/-- A name stands once. -/
theorem SortedC.uniq : ∀ {C : Con}, SortedC C → ∀ {p q : List UInt8 × List UInt8}, p ∈ C → q ∈ C → p.1 = q.1 → p = q
  | [], _, _, _, hp, _, _ => by cases hp
  | r :: C, h, p, q, hp, hq, e => by
    unfold SortedC at h
    rw [List.pairwise_cons] at h
    rcases List.mem_cons.1 hp with rfl | hp
    · rcases List.mem_cons.1 hq with rfl | hq
      · rfl
      · exact absurd e (nm_ne (h.1 q hq))
    · rcases List.mem_cons.1 hq with e2 | hq
      · rw [e2] at e; exact absurd e.symm (nm_ne (h.1 p hp))
      · exact SortedC.uniq h.2 hp hq e
theorem bytC_mem {C : Con} (h : SortedC C) {p : List UInt8 × List UInt8} (hp : p ∈ C) : bytC C p.1 = p.2 := by
  unfold bytC
  cases e : C.find? (fun q => q.1 == p.1) with
  | none =>
    have := List.find?_eq_none.1 e p hp
    simp at this
  | some q =>
    have h1 := List.mem_of_find?_eq_some e
    have h2 := List.find?_some e
    rw [SortedC.uniq h h1 hp (by simpa using h2)]
    rfl
theorem bytC_no {C : Con} {nm : List UInt8} (h : hasC C nm = false) : bytC C nm = [] := by
  unfold bytC
  cases e : C.find? (fun q => q.1 == nm) with
  | none => rfl
  | some q => exact absurd (by simpa using List.find?_some e) (hasC_no.1 h q (List.mem_of_find?_eq_some e))
theorem mem_of_hasC {C : Con} (h : SortedC C) {nm : List UInt8} (hn : hasC C nm = true) : (nm, bytC C nm) ∈ C := by
  obtain ⟨p, hp, rfl⟩ := hasC_iff.1 hn
  rw [bytC_mem h hp]
  exact hp
theorem SortedC.nodup {C : Con} (h : SortedC C) : (C.map (·.1)).Nodup := by
  unfold List.Nodup
  rw [List.pairwise_map]
  exact List.Pairwise.imp (fun h => nm_ne h) h
theorem SortedC.nodup' {C : Con} (h : SortedC C) : C.Nodup := by
  unfold List.Nodup
  refine List.Pairwise.imp ?_ h
  intro a b hab e
  exact nm_ne hab (congrArg Prod.fst e)
/-- Two lists in order that hold the same are the same. -/
theorem SortedC.ext : ∀ {C C' : Con}, SortedC C → SortedC C' → (∀ p, p ∈ C ↔ p ∈ C') → C = C'
  | [], [], _, _, _ => rfl
  | [], q :: C', _, _, h => absurd ((h q).2 (by simp)) (by simp)
  | q :: C, [], _, _, h => absurd ((h q).1 (by simp)) (by simp)
  | p :: C, q :: C', h, h', hm => by
    unfold SortedC at h h'
    rw [List.pairwise_cons] at h h'
    have e : p = q := by
      rcases List.mem_cons.1 ((hm p).1 (by simp)) with e | e
      · exact e
      · rcases List.mem_cons.1 ((hm q).2 (by simp)) with e2 | e2
        · exact e2.symm
        · exact absurd (h'.1 p e) (nm_asymm (h.1 q e2))
    subst e
    congr 1
    refine SortedC.ext h.2 h'.2 fun r => ?_
    constructor
    · intro hr
      rcases List.mem_cons.1 ((hm r).1 (List.mem_cons_of_mem _ hr)) with e | e
      · subst e; exact absurd (h.1 r hr) (nm_irrefl _)
      · exact e
    · intro hr
      rcases List.mem_cons.1 ((hm r).2 (List.mem_cons_of_mem _ hr)) with e | e
      · subst e; exact absurd (h'.1 r hr) (nm_irrefl _)
      · exact e
theorem SortedC.perm {C C' : Con} (h : SortedC C) (h' : SortedC C') (hp : C.Perm C') : C = C' := SortedC.ext h h' fun _ => hp.mem_iff
theorem sumC_perm {C C' : Con} (h : C.Perm C') : sumC C = sumC C' := (h.map _).sum_nat
theorem hasC_setC (C : Con) (nm b m : List UInt8) : hasC (setC C nm b) m = (m == nm || hasC C m) := by
  rw [Bool.eq_iff_iff, Bool.or_eq_true, hasC_iff, hasC_iff, beq_iff_eq]
  constructor
  · rintro ⟨p, hp, rfl⟩
    rcases mem_setC.1 hp with rfl | ⟨h, _⟩
    · exact .inl rfl
    · exact .inr ⟨p, h, rfl⟩
  · rintro (rfl | ⟨p, hp, rfl⟩)
    · exact ⟨_, mem_setC.2 (.inl rfl), rfl⟩
    · by_cases e : p.1 = nm
      · exact ⟨(nm, b), mem_setC.2 (.inl rfl), e.symm⟩
      · exact ⟨p, mem_setC.2 (.inr ⟨hp, e⟩), rfl⟩
theorem hasC_delC (C : Con) (nm m : List UInt8) : hasC (delC C nm) m = (hasC C m && !(m == nm)) := by
  rw [Bool.eq_iff_iff, Bool.and_eq_true, hasC_iff, hasC_iff]
  constructor
  · rintro ⟨p, hp, rfl⟩
    obtain ⟨h1, h2⟩ := mem_delC.1 hp
    exact ⟨⟨p, h1, rfl⟩, by simpa using h2⟩
  · rintro ⟨⟨p, hp, rfl⟩, h⟩
    exact ⟨p, mem_delC.2 ⟨hp, by simpa using h⟩, rfl⟩
theorem bytC_set_same {C : Con} (h : SortedC C) (nm b : List UInt8) : bytC (setC C nm b) nm = b := bytC_mem (sorted_setC nm b h) (p := (nm, b)) (mem_setC.2 (.inl rfl))
theorem bytC_set_other {C : Con} (h : SortedC C) {nm m : List UInt8} (b : List UInt8) (hne : m ≠ nm) : bytC (setC C nm b) m = bytC C m := by
  by_cases hh : hasC C m = true
  · have := mem_of_hasC h hh
    exact bytC_mem (sorted_setC nm b h) (p := (m, bytC C m)) (mem_setC.2 (.inr ⟨this, hne⟩))
  · have hh' : hasC C m = false := by simpa using hh
    rw [bytC_no hh', bytC_no]
    rw [hasC_setC, hh']
    simpa using hne
theorem bytC_del_other {C : Con} (h : SortedC C) {nm m : List UInt8} (hne : m ≠ nm) : bytC (delC C nm) m = bytC C m := by
  by_cases hh : hasC C m = true
  · have := mem_of_hasC h hh
    exact bytC_mem (sorted_delC nm h) (p := (m, bytC C m)) (mem_delC.2 ⟨this, hne⟩)
  · have hh' : hasC C m = false := by simpa using hh
    rw [bytC_no hh', bytC_no]
    rw [hasC_delC, hh']
    rfl
theorem delC_no {C : Con} {nm : List UInt8} (h : hasC C nm = false) : delC C nm = C := by
  unfold delC
  rw [List.filter_eq_self]
  intro p hp
  simpa using hasC_no.1 h p hp
theorem sum_del : ∀ {C : Con}, SortedC C → ∀ nm, sumC (delC C nm) + (bytC C nm).length = sumC C
  | [], _, nm => rfl
  | p :: C, h, nm => by
    have h' := h
    unfold SortedC at h
    rw [List.pairwise_cons] at h
    by_cases e : p.1 = nm
    · have hn : hasC C nm = false := hasC_no.2 fun q hq eq => nm_irrefl nm (by have := h.1 q hq; rw [e, eq] at this; exact this)
      have h1 : delC (p :: C) nm = delC C nm := by simp [delC, e]
      have h2 : bytC (p :: C) nm = p.2 := by simp [bytC, e]
      rw [h1, delC_no hn, h2]
      simp [sumC]; omega
    · have h1 : delC (p :: C) nm = p :: delC C nm := by simp [delC, e]
      have h2 : bytC (p :: C) nm = bytC C nm := by simp [bytC, e]
      rw [h1, h2]
      have := sum_del h.2 nm
      simp [sumC] at this ⊢
      omega
theorem sum_set {C : Con} (h : SortedC C) (nm b : List UInt8) : sumC (setC C nm b) + (bytC C nm).length = sumC C + b.length := by
  unfold setC
  rw [sumC_perm (insC_perm _ _)]
  have := sum_del h nm
  simp [sumC] at this ⊢
  omega
theorem len_del {C : Con} (h : SortedC C) (nm : List UInt8) : (delC C nm).length + (if hasC C nm = true then 1 else 0) = C.length := by
  induction C with
  | nil => rfl
  | cons p C ih =>
    unfold SortedC at h
    rw [List.pairwise_cons] at h
    by_cases e : p.1 = nm
    · have hn : hasC C nm = false := hasC_no.2 fun q hq eq => nm_irrefl nm (by have := h.1 q hq; rw [e, eq] at this; exact this)
      have h1 : delC (p :: C) nm = delC C nm := by simp [delC, e]
      have h2 : hasC (p :: C) nm = true := by simp [hasC, e]
      rw [h1, delC_no hn, h2]
      simp
    · have h1 : delC (p :: C) nm = p :: delC C nm := by simp [delC, e]
      have h2 : hasC (p :: C) nm = hasC C nm := by simp [hasC, e]
      have := ih h.2
      rw [h1, h2, List.length_cons, List.length_cons]
      omega
theorem len_set {C : Con} (h : SortedC C) (nm b : List UInt8) : (setC C nm b).length + (if hasC C nm = true then 1 else 0) = C.length + 1 := by
  unfold setC
  rw [(insC_perm _ _).length_eq, List.length_cons]
  have := len_del h nm
  omega
theorem byt_le_sum {C : Con} (h : SortedC C) (nm : List UInt8) : (bytC C nm).length ≤ sumC C := by
  have := sum_del h nm
  omega
end Go.Proofs.YtcmllfnhdodbdaaDoor
