/- Load, in whatever order files come; of a disk's own files. -/
import Derived.Test.YtcmllfnhdodbdaaDoorLoadP
namespace Go.Proofs.YtcmllfnhdodbdaaDoor
set_option linter.unusedVariables false
set_option linter.unusedSimpArgs false
open Go.RowKit
theorem setC_perm {C : Con} {nm b : List UInt8} (h : hasC C nm = false) : (setC C nm b).Perm ((nm, b) :: C) := by
  unfold setC
  rw [delC_no h]
  exact insC_perm _ _
theorem ldC_some (room : Nat) : ∀ (l C : Con), SortedC C → (∀ p ∈ l, nmOk p.1 = true) → (l.map (·.1)).Nodup → (∀ p ∈ l, hasC C p.1 = false) → sumC C + sumC l ≤ room → ∃ C', ldC room l C = some C' ∧ C'.Perm (C ++ l)
  | [], C, _, _, _, _, _ => ⟨C, rfl, by rw [List.append_nil]⟩
  | p :: r, C, hs, hn, hd, hc, hr => by
    have h1 := hc p (by simp)
    have h2 := hn p (by simp)
    have h3 : sumC (p :: r) = p.2.length + sumC r := rfl
    rw [h3] at hr
    have s := sum_set hs p.1 p.2
    rw [bytC_no h1] at s
    simp only [List.length_nil, Nat.add_zero] at s
    rw [List.map_cons, List.nodup_cons] at hd
    obtain ⟨C', e, hp⟩ := ldC_some room r (setC C p.1 p.2) (sorted_setC _ _ hs) (fun q hq => hn q (List.mem_cons_of_mem _ hq)) hd.2 (fun q hq => by
      rw [hasC_setC, hc q (List.mem_cons_of_mem _ hq), Bool.or_false]
      have : q.1 ≠ p.1 := fun e => hd.1 (List.mem_map.2 ⟨q, hq, e⟩)
      simpa using this) (by rw [s]; omega)
    refine ⟨C', ?_, ?_⟩
    · unfold ldC
      rw [if_neg]
      · exact e
      · rintro (h | h | h)
        · rw [h1] at h; cases h
        · rw [h2] at h; cases h
        · omega
    · refine hp.trans ?_
      have h9 := setC_perm (b := p.2) h1
      exact (h9.append_right r).trans (by rw [List.cons_append]; exact List.perm_middle.symm)
theorem ldC_inv (room : Nat) : ∀ (l C C' : Con), ldC room l C = some C' → SortedC C → sumC C ≤ room → (∀ p ∈ l, nmOk p.1 = true) ∧ (l.map (·.1)).Nodup ∧ (∀ p ∈ l, hasC C p.1 = false) ∧ sumC C + sumC l ≤ room
  | [], C, C', _, _, h => ⟨(fun _ h => by cases h), List.nodup_nil, (fun _ h => by cases h), by show sumC C + 0 ≤ room; omega⟩
  | p :: r, C, C', h, hs, hr => by
    unfold ldC at h
    split at h
    · cases h
    · rename_i hn
      have a1 : hasC C p.1 = false := by cases e : hasC C p.1; rfl; exact absurd (.inl e) hn
      have a2 : nmOk p.1 = true := by cases e : nmOk p.1; exact absurd (.inr (.inl e)) hn; rfl
      have a3 : sumC C + p.2.length ≤ room := by by_cases k : room < sumC C + p.2.length; exact absurd (.inr (.inr k)) hn; omega
      have s := sum_set hs p.1 p.2
      rw [bytC_no a1] at s
      simp only [List.length_nil, Nat.add_zero] at s
      obtain ⟨r1, r2, r3, r4⟩ := ldC_inv room r _ _ h (sorted_setC _ _ hs) (by omega)
      refine ⟨?_, ?_, ?_, ?_⟩
      · intro q hq
        rcases List.mem_cons.1 hq with rfl | hq
        · exact a2
        · exact r1 q hq
      · rw [List.map_cons, List.nodup_cons]
        refine ⟨fun hm => ?_, r2⟩
        obtain ⟨q, hq, e⟩ := List.mem_map.1 hm
        have := r3 q hq
        rw [hasC_setC] at this
        have e' : (q.1 == p.1) = true := by simpa using e
        rw [e', Bool.true_or] at this
        cases this
      · intro q hq
        rcases List.mem_cons.1 hq with rfl | hq
        · exact a1
        · have := r3 q hq
          rw [hasC_setC, Bool.or_eq_false_iff] at this
          exact this.2
      · have h3 : sumC (p :: r) = p.2.length + sumC r := rfl
        rw [h3]; omega
theorem ldC_perm (room : Nat) {l m : Con} (h : l.Perm m) : ldC room l [] = ldC room m [] := by
  have main : ∀ {l m : Con}, l.Perm m → ∀ C, ldC room l [] = some C → ldC room m [] = some C := by
    intro l m h C hC
    obtain ⟨r1, r2, r3, r4⟩ := ldC_inv room l [] C hC List.Pairwise.nil (Nat.zero_le _)
    obtain ⟨C2, e2, p2⟩ := ldC_some room m [] List.Pairwise.nil (fun p hp => r1 p (h.mem_iff.2 hp)) ((h.map _).nodup_iff.1 r2) (fun _ _ => rfl) (by rw [← sumC_perm h]; exact r4)
    obtain ⟨C1, e1, p1⟩ := ldC_some room l [] List.Pairwise.nil r1 r2 (fun _ _ => rfl) r4
    rw [hC] at e1
    cases e1
    have s1 := (ldC_ok room l [] C hC List.Pairwise.nil (fun _ h => by cases h) (Nat.zero_le _)).1
    have s2 := (ldC_ok room m [] C2 e2 List.Pairwise.nil (fun _ h => by cases h) (Nat.zero_le _)).1
    rw [e2, SortedC.perm s2 s1 ((p2.trans (by simpa using h.symm)).trans p1.symm)]
  cases e : ldC room l [] with
  | some C => exact (main h C e).symm
  | none =>
    cases e2 : ldC room m [] with
    | none => rfl
    | some C => rw [main h.symm C e2] at e; cases e
theorem loadR_perm (room : Int) {l m : Con} (h : l.Perm m) : loadR room l = loadR room m := by
  unfold loadR
  rw [ldC_perm _ h, h.length_eq]
/-- A disk's own files. -/
theorem loadR_self {s : DS} (h : s.ok) : loadR (s.room : Int) s.C = (0, some { DS.new s.room with C := s.C }) := by
  have h1 := h.r1; have h2 := h.r2; have h3 := h.len
  unfold loadR
  rw [if_neg (by omega), if_neg (by omega), Int.toNat_natCast]
  obtain ⟨C, e, p⟩ := ldC_some s.room s.C [] List.Pairwise.nil h.nm h.so.nodup (fun _ _ => rfl) (by have := h.sum; show 0 + sumC s.C ≤ s.room; omega)
  have s1 := (ldC_ok _ _ _ _ e List.Pairwise.nil (fun _ h => by cases h) (Nat.zero_le _)).1
  rw [e, SortedC.perm s1 h.so (by simpa using p)]
/-- What a Load that is OK has taken. -/
theorem loadR_took {room : Int} {l : Con} {s : DS} {e : Int} (h : loadR room l = (e, some s)) : s.C.Perm l ∧ (l.map (·.1)).Nodup ∧ l.length = s.C.length := by
  obtain ⟨_, _, _, _, _, _, _, hC, _, _⟩ := loadR_ok h
  obtain ⟨r1, r2, r3, r4⟩ := ldC_inv _ _ _ _ hC List.Pairwise.nil (Nat.zero_le _)
  obtain ⟨C1, e1, p1⟩ := ldC_some _ l [] List.Pairwise.nil r1 r2 (fun _ _ => rfl) r4
  rw [hC] at e1
  cases e1
  have p1' : s.C.Perm l := by simpa using p1
  exact ⟨p1', r2, p1'.length_eq.symm⟩
end Go.Proofs.YtcmllfnhdodbdaaDoor
