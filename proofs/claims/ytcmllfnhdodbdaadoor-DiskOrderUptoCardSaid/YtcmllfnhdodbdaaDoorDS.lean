/- What a disk answers, in plain words: a state and what each call makes of it. -/
import Derived.Test.YtcmllfnhdodbdaaDoorPlainD
namespace Go.Proofs.YtcmllfnhdodbdaaDoor
set_option linter.unusedVariables false
set_option linter.unusedSimpArgs false
open Go.RowKit
structure DS where
  room : Nat
  C : Con
  armed : Int
  keep : Int
  off : Bool
  writes : Nat
def DS.new (room : Nat) : DS := ⟨room, [], 0, 0, false, 0⟩
structure DS.ok (s : DS) : Prop where
  so : SortedC s.C
  nm : ∀ p ∈ s.C, nmOk p.1 = true
  len : s.C.length ≤ 64
  sum : sumC s.C ≤ s.room
  r1 : 1 ≤ s.room
  r2 : s.room ≤ 268435456
  a1 : 0 ≤ s.armed
  a2 : s.armed ≤ 9223372036854775807
/-- Why a call about these names is refused. -/
def DS.may (s : DS) (there : Bool) (Ns : List (List UInt8)) : Int :=
  if s.off = true then 94 else if Ns.all nmOk = false then 91 else if there = true ∧ hasC s.C (Ns.headD []) = false then 92 else 0
/-- A write's beginning. -/
def DS.wr (s : DS) : DS := { s with writes := s.writes + 1, armed := if 0 < s.armed then s.armed - 1 else s.armed, off := s.off || decide (s.armed = 1) }
/-- So many bytes are kept. -/
def keptB (b : List UInt8) (keep : Int) : List UInt8 := b.take (max 0 (min keep b.length)).toNat
def DS.put (s : DS) (nm b : List UInt8) : DS := { s with C := setC s.C nm b }
def DS.del (s : DS) (nm : List UInt8) : DS := { s with C := delC s.C nm }
def DS.append (s : DS) (nm b : List UInt8) : Int × DS :=
  if s.may false [nm] ≠ 0 then (s.may false [nm], s)
  else if (hasC s.C nm = false ∧ 64 ≤ s.C.length) ∨ s.room < sumC s.C + b.length then (93, s)
  else if s.armed = 1 then (94, if hasC s.C nm = true ∨ 0 < s.keep then s.wr.put nm (bytC s.C nm ++ keptB b s.keep) else s.wr)
  else (0, s.wr.put nm (bytC s.C nm ++ b))
/-- A write that is done or not. -/
def DS.whole (s : DS) (f : DS → DS) : Int × DS :=
  if s.armed = 1 then (94, if 0 < s.keep then f s.wr else s.wr) else (0, f s.wr)
def DS.cut (s : DS) (nm : List UInt8) (n : Int) : Int × DS :=
  if s.may true [nm] ≠ 0 then (s.may true [nm], s)
  else if n < 0 ∨ (bytC s.C nm).length < n then (95, s)
  else s.whole fun t => t.put nm ((bytC s.C nm).take n.toNat)
def DS.rename (s : DS) (a b : List UInt8) : Int × DS :=
  if s.may true [a, b] ≠ 0 then (s.may true [a, b], s)
  else s.whole fun t => if a = b then t else (t.del a).put b (bytC s.C a)
def DS.remove (s : DS) (nm : List UInt8) : Int × DS :=
  if s.may true [nm] ≠ 0 then (s.may true [nm], s) else s.whole fun t => t.del nm
def DS.arm (s : DS) (n keep : Int) : DS := { s with armed := max 0 n, keep := keep }
def DS.on (s : DS) : DS := { s with off := false }
theorem DS.may_cases (s : DS) (there : Bool) (Ns : List (List UInt8)) (h : s.may there Ns = 0) : s.off = false ∧ Ns.all nmOk = true ∧ (there = true → hasC s.C (Ns.headD []) = true) := by
  unfold DS.may at h
  split at h
  · omega
  · rename_i h1
    split at h
    · omega
    · rename_i h2
      split at h
      · omega
      · rename_i h3
        refine ⟨by simpa using h1, by simpa using h2, fun ht => ?_⟩
        cases hh : hasC s.C (Ns.headD []) with
        | true => rfl
        | false => exact absurd ⟨ht, hh⟩ h3
theorem DS.may_range (s : DS) (there : Bool) (Ns : List (List UInt8)) : 0 ≤ s.may there Ns ∧ s.may there Ns ≤ 94 := by
  unfold DS.may
  repeat (first | omega | split)
/-! What stays ok. -/
theorem DS.ok.wr {s : DS} (h : s.ok) : s.wr.ok := by
  refine ⟨h.so, h.nm, h.len, h.sum, h.r1, h.r2, ?_, ?_⟩
  · show (0 : Int) ≤ if 0 < s.armed then s.armed - 1 else s.armed
    have := h.a1
    split <;> omega
  · show (if 0 < s.armed then s.armed - 1 else s.armed) ≤ 9223372036854775807
    have := h.a2
    split <;> omega
theorem DS.ok.put {s : DS} (h : s.ok) (nm b : List UInt8) (hn : nmOk nm = true) (hl : hasC s.C nm = true ∨ s.C.length < 64) (hs : sumC s.C + b.length ≤ s.room + (bytC s.C nm).length) : (s.put nm b).ok := by
  refine ⟨sorted_setC nm b h.so, ?_, ?_, ?_, h.r1, h.r2, h.a1, h.a2⟩
  · intro p hp
    rcases mem_setC.1 hp with rfl | ⟨hp, _⟩
    · exact hn
    · exact h.nm p hp
  · show (setC s.C nm b).length ≤ 64
    have h1 := len_set h.so nm b
    have h2 := h.len
    split at h1
    · omega
    · rename_i hh
      rcases hl with k | k
      · exact absurd k hh
      · omega
  · show sumC (setC s.C nm b) ≤ s.room
    have := sum_set h.so nm b
    omega
theorem DS.ok.del {s : DS} (h : s.ok) (nm : List UInt8) : (s.del nm).ok := by
  refine ⟨sorted_delC nm h.so, fun p hp => h.nm p (mem_delC.1 hp).1, ?_, ?_, h.r1, h.r2, h.a1, h.a2⟩
  · show (delC s.C nm).length ≤ 64
    have := len_del h.so nm
    have := h.len
    omega
  · show sumC (delC s.C nm) ≤ s.room
    have := sum_del h.so nm
    have := h.sum
    omega
theorem DS.new_ok (room : Nat) (h1 : 1 ≤ room) (h2 : room ≤ 268435456) : (DS.new room).ok :=
  ⟨List.Pairwise.nil, (fun _ h => by cases h), Nat.zero_le _, Nat.zero_le _, h1, h2, Int.le_refl _, show (0 : Int) ≤ 9223372036854775807 by decide⟩
theorem keptB_len (b : List UInt8) (keep : Int) : (keptB b keep).length ≤ b.length := by unfold keptB; rw [List.length_take]; omega
theorem DS.ok.append {s : DS} (h : s.ok) (nm b : List UInt8) : (s.append nm b).2.ok := by
  unfold DS.append
  split
  · exact h
  · rename_i h1
    have h1' : s.may false [nm] = 0 := by omega
    obtain ⟨_, h2, _⟩ := s.may_cases _ _ h1'
    have hn : nmOk nm = true := by simpa using h2
    split
    · exact h
    · rename_i h3
      have hl : hasC s.wr.C nm = true ∨ s.wr.C.length < 64 := by
        cases e : hasC s.C nm with
        | true => exact .inl e
        | false => exact .inr (by by_cases k : s.C.length < 64; exact k; exact absurd (.inl ⟨e, by omega⟩) h3)
      have hs : sumC s.C + b.length ≤ s.room := by by_cases k : sumC s.C + b.length ≤ s.room; exact k; exact absurd (.inr (by omega)) h3
      split
      · show (if _ then _ else _ : DS).ok
        split
        · refine h.wr.put nm _ hn hl ?_
          have := keptB_len b s.keep
          rw [List.length_append]
          show sumC s.C + ((bytC s.C nm).length + _) ≤ s.room + (bytC s.C nm).length
          omega
        · exact h.wr
      · refine h.wr.put nm _ hn hl ?_
        rw [List.length_append]
        show sumC s.C + ((bytC s.C nm).length + _) ≤ s.room + (bytC s.C nm).length
        omega
theorem DS.ok.whole {s : DS} (h : s.ok) (f : DS → DS) (hf : (f s.wr).ok) : (s.whole f).2.ok := by
  unfold DS.whole
  split
  · show (if _ then _ else _ : DS).ok
    split
    · exact hf
    · exact h.wr
  · exact hf
theorem DS.ok.cut {s : DS} (h : s.ok) (nm : List UInt8) (n : Int) : (s.cut nm n).2.ok := by
  unfold DS.cut
  split
  · exact h
  · rename_i h1
    obtain ⟨_, h2, h3⟩ := s.may_cases _ _ (show s.may true [nm] = 0 by omega)
    split
    · exact h
    · refine h.whole _ (h.wr.put nm _ (by simpa using h2) (.inl (h3 rfl)) ?_)
      rw [List.length_take]
      show sumC s.C + _ ≤ s.room + (bytC s.C nm).length
      have := h.sum
      omega
theorem DS.ok.rename {s : DS} (h : s.ok) (a b : List UInt8) : (s.rename a b).2.ok := by
  unfold DS.rename
  split
  · exact h
  · rename_i h1
    obtain ⟨_, h2, h3⟩ := s.may_cases _ _ (show s.may true [a, b] = 0 by omega)
    refine h.whole _ ?_
    show (if a = b then s.wr else (s.wr.del a).put b (bytC s.C a)).ok
    split
    · exact h.wr
    · have h4 : hasC s.C a = true := h3 rfl
      have l1 := len_del h.so a
      rw [if_pos h4] at l1
      have l2 := h.len
      have s1 := sum_del h.so a
      have s2 := h.sum
      refine (h.wr.del a).put b _ (by simp at h2; exact h2.2) (.inr ?_) ?_
      · show (delC s.C a).length < 64
        omega
      · show sumC (delC s.C a) + (bytC s.C a).length ≤ s.room + _
        omega
theorem DS.ok.remove {s : DS} (h : s.ok) (nm : List UInt8) : (s.remove nm).2.ok := by
  unfold DS.remove
  split
  · exact h
  · exact h.whole _ (h.wr.del nm)
theorem DS.ok.arm {s : DS} (h : s.ok) (n keep : Int) (hn : n ≤ 9223372036854775807) : (s.arm n keep).ok :=
  ⟨h.so, h.nm, h.len, h.sum, h.r1, h.r2, by show (0 : Int) ≤ max 0 n; omega, by show max 0 n ≤ 9223372036854775807; omega⟩
theorem DS.ok.on {s : DS} (h : s.ok) : s.on.ok := ⟨h.so, h.nm, h.len, h.sum, h.r1, h.r2, h.a1, h.a2⟩
theorem DS.ok.byt {s : DS} (h : s.ok) (nm : List UInt8) : (bytC s.C nm).length ≤ 268435456 := by have := byt_le_sum h.so nm; have := h.sum; have := h.r2; omega
end Go.Proofs.YtcmllfnhdodbdaaDoor
