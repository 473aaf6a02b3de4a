/- A disk with two files at most, with its arming, in plain words. -/
import Derived.Test.YtnbpkignkfabkaaDoorWalU
namespace Go.Proofs.YtnbpkignkfabkaaDoor
set_option linter.unusedVariables false
set_option linter.unusedSimpArgs false
open Go.RowKit Go.Maps
structure Ab (n1 n2 : List UInt8) (s : DS) (l1 l2 : List UInt8) (a keep : Int) (off : Bool) (n : Nat) : Prop where
  rm : s.room = 4194304
  ar : s.armed = a
  kp : s.keep = keep
  of_ : s.off = off
  wr : s.writes = n
  so : SortedC s.C
  b1 : bytC s.C n1 = l1
  b2 : bytC s.C n2 = l2
  sum : sumC s.C = l1.length + l2.length
  len : s.C.length = (if hasC s.C n1 = true then 1 else 0) + (if hasC s.C n2 = true then 1 else 0)
section
variable {n1 n2 : List UInt8} {s : DS} {l1 l2 b x : List UInt8} {a keep : Int} {off : Bool} {n : Nat}
theorem Ab.symm (h : Ab n1 n2 s l1 l2 a keep off n) : Ab n2 n1 s l2 l1 a keep off n := ⟨h.rm, h.ar, h.kp, h.of_, h.wr, h.so, h.b2, h.b1, by rw [h.sum]; omega, by rw [h.len]; omega⟩
theorem Ab.new (n1 n2 : List UInt8) : Ab n1 n2 (DS.new 4194304) [] [] 0 0 false 0 := ⟨rfl, rfl, rfl, rfl, rfl, List.Pairwise.nil, rfl, rfl, rfl, rfl⟩
theorem Ab.arm (h : Ab n1 n2 s l1 l2 a keep off n) (m k : Int) : Ab n1 n2 (s.arm m k) l1 l2 (max 0 m) k off n := ⟨h.rm, rfl, rfl, h.of_, h.wr, h.so, h.b1, h.b2, h.sum, h.len⟩
theorem Ab.on (h : Ab n1 n2 s l1 l2 a keep off n) : Ab n1 n2 s.on l1 l2 a keep false n := ⟨h.rm, h.ar, h.kp, rfl, h.wr, h.so, h.b1, h.b2, h.sum, h.len⟩
theorem Ab.wrt (h : Ab n1 n2 s l1 l2 a keep false n) (ha : 0 ≤ a) : Ab n1 n2 s.wr l1 l2 (decA a) keep (decide (a = 1)) (n + 1) :=
  ⟨h.rm, by show (if 0 < s.armed then s.armed - 1 else s.armed) = _; rw [h.ar]; rfl, h.kp, by show (s.off || decide (s.armed = 1)) = _; rw [h.of_, h.ar]; rfl, by show s.writes + 1 = _; rw [h.wr], h.so, h.b1, h.b2, h.sum, h.len⟩
theorem Ab.put (h : Ab n1 n2 s l1 l2 a keep off n) (hne : n1 ≠ n2) (x : List UInt8) : Ab n1 n2 (s.put n1 x) x l2 a keep off n := by
  refine ⟨h.rm, h.ar, h.kp, h.of_, h.wr, sorted_setC _ _ h.so, bytC_set_same h.so _ _, ?_, ?_, ?_⟩
  · show bytC (setC s.C n1 x) n2 = _
    rw [bytC_set_other h.so _ (fun e => hne e.symm), h.b2]
  · show sumC (setC s.C n1 x) = _
    have := sum_set h.so n1 x
    rw [h.b1, h.sum] at this
    omega
  · show (setC s.C n1 x).length = (if hasC (setC s.C n1 x) n1 = true then 1 else 0) + (if hasC (setC s.C n1 x) n2 = true then 1 else 0)
    have := len_set h.so n1 x
    have h9 := h.len
    rw [hasC_setC, hasC_setC]
    have e1 : (n1 == n1) = true := beq_self_eq_true _
    have e2 : (n2 == n1) = false := by simpa using fun e : n2 = n1 => hne e.symm
    rw [e1, e2]
    simp only [Bool.true_or, Bool.false_or, if_true]
    generalize (if hasC s.C n1 = true then 1 else 0) = p at this h9
    generalize (if hasC s.C n2 = true then 1 else 0) = q at h9 ⊢
    omega
theorem Ab.may (h : Ab n1 n2 s l1 l2 a keep false n) (hn : nmOk n1 = true) (t : Bool) : s.may t [n1] = if t = true ∧ hasC s.C n1 = false then 92 else 0 := by
  unfold DS.may
  rw [if_neg (by rw [h.of_]; decide), if_neg (by simp [hn])]
  rfl
theorem Ab.app (h : Ab n1 n2 s l1 l2 a keep false n) (hn : nmOk n1 = true) (hne : n1 ≠ n2) (hb : l1.length + l2.length + b.length ≤ 4194304) (ha : 0 ≤ a) (h1 : a ≠ 1) : ∃ s', s.append n1 b = (0, s') ∧ Ab n1 n2 s' (l1 ++ b) l2 (decA a) keep false (n + 1) := by
  refine ⟨s.wr.put n1 (bytC s.C n1 ++ b), ?_, ?_⟩
  · unfold DS.append
    rw [if_neg (by rw [h.may hn, if_neg (by simp)]; decide), if_neg, if_neg (by rw [h.ar]; exact h1)]
    rintro (h2 | h2)
    · have h3 := h.len
      have := h2.2
      split at h3 <;> split at h3 <;> omega
    · rw [h.sum, h.rm] at h2
      omega
  · have h9 := (h.wrt ha).put hne (bytC s.C n1 ++ b)
    rw [decide_eq_false h1] at h9
    have e : bytC s.C n1 ++ b = l1 ++ b := by rw [h.b1]
    rw [← e]
    exact h9
theorem Ab.app1 (h : Ab n1 n2 s l1 l2 1 keep false n) (hn : nmOk n1 = true) (hne : n1 ≠ n2) (hb : l1.length + l2.length + b.length ≤ 4194304) : ∃ s', s.append n1 b = (94, s') ∧ Ab n1 n2 s' (l1 ++ keptB b keep) l2 0 keep true (n + 1) := by
  refine ⟨if hasC s.C n1 = true ∨ 0 < s.keep then s.wr.put n1 (bytC s.C n1 ++ keptB b s.keep) else s.wr, ?_, ?_⟩
  · unfold DS.append
    rw [if_neg (by rw [h.may hn, if_neg (by simp)]; decide), if_neg, if_pos h.ar]
    rintro (h2 | h2)
    · have h3 := h.len
      have := h2.2
      split at h3 <;> split at h3 <;> omega
    · rw [h.sum, h.rm] at h2
      omega
  · have h8 := h.wrt (by decide)
    by_cases c : hasC s.C n1 = true ∨ 0 < s.keep
    · rw [if_pos c]
      have h9 := h8.put hne (bytC s.C n1 ++ keptB b s.keep)
      have e : bytC s.C n1 ++ keptB b s.keep = l1 ++ keptB b keep := by rw [h.b1, h.kp]
      rw [e] at h9
      rw [e]
      exact h9
    · rw [if_neg c]
      have c1 : hasC s.C n1 = false := by cases e : hasC s.C n1 with
        | true => exact absurd (.inl e) c
        | false => rfl
      have c2 : ¬ 0 < keep := by rw [← h.kp]; exact fun h => c (.inr h)
      have e1 : keptB b keep = [] := by unfold keptB; rw [show (max 0 (min keep (b.length : Int))).toNat = 0 by omega]; rfl
      rw [e1, List.append_nil]
      exact h8
theorem Ab.read (h : Ab n1 n2 s l1 l2 a keep false n) (hn : nmOk n1 = true) : readB s n1 = l1 := by
  unfold readB
  rw [h.may hn]
  by_cases c : hasC s.C n1 = true
  · rw [if_pos (by rw [if_neg (by simp [c])])]; exact h.b1
  · have c1 : hasC s.C n1 = false := by simpa using c
    rw [if_neg (by rw [if_pos ⟨rfl, c1⟩]; decide), ← h.b1, bytC_no c1]
theorem Ab.walA (h : Ab n1 n2 s l1 l2 a keep false n) (hn : nmOk n1 = true) (hne : n1 ≠ n2) (hx : x.length ≤ 16777216) (hb : l1.length + l2.length + (x.length + 13) ≤ 4194304) (ha : 0 ≤ a) (h1 : a ≠ 1) (k : Nat) : ∃ s', Go.Proofs.YtnbpkignkfabkaaDoor.walA s n1 k false x = (0, k + (x.length + 13), false, s') ∧ Ab n1 n2 s' (l1 ++ frm x) l2 (decA a) keep false (n + 1) := by
  obtain ⟨s', e, h9⟩ := h.app (b := frm x) hn hne (by rw [frm_length]; exact hb) ha h1
  refine ⟨s', ?_, h9⟩
  unfold Go.Proofs.YtnbpkignkfabkaaDoor.walA
  rw [if_neg (by decide), if_neg (by omega), e]
  rfl
theorem Ab.walA1 (h : Ab n1 n2 s l1 l2 1 keep false n) (hn : nmOk n1 = true) (hne : n1 ≠ n2) (hx : x.length ≤ 16777216) (hb : l1.length + l2.length + (x.length + 13) ≤ 4194304) (k : Nat) : ∃ s', Go.Proofs.YtnbpkignkfabkaaDoor.walA s n1 k false x = (94, k, true, s') ∧ Ab n1 n2 s' (l1 ++ keptB (frm x) keep) l2 0 keep true (n + 1) := by
  obtain ⟨s', e, h9⟩ := h.app1 (b := frm x) hn hne (by rw [frm_length]; exact hb)
  refine ⟨s', ?_, h9⟩
  unfold Go.Proofs.YtnbpkignkfabkaaDoor.walA
  rw [if_neg (by decide), if_neg (by omega), e]
  rfl
theorem Ab.opened (h : Ab n1 n2 s l1 l2 0 keep false n) (hn : nmOk n1 = true) (hne : n1 ≠ n2) {xs : List (List UInt8)} {t : List UInt8} (hl : l1 = flw xs ++ t) (ht : t = [] ∨ recOf t = ([], 0, 30)) (hs : ∀ x ∈ xs, x.length ≤ 16777216) :
    ∃ s' n', openR s n1 = (0, some (xs, flen xs), s') ∧ Ab n1 n2 s' (flw xs) l2 0 keep false n' ∧ n' ≤ n + 1 := by
  have hr : recOf l1 = (xs, flen xs, if t = [] then 0 else 30) := by
    rw [hl, recOf_fl _ _ hs]
    rcases ht with e | e
    · subst e
      rw [recOf_nil]
      simp
    · rw [e, if_neg (by rintro rfl; rw [recOf_nil] at e; cases e)]
      simp
  have hm : ¬ (s.may true [n1] ≠ 0 ∧ s.may true [n1] ≠ 92) := by
    rw [h.may hn]
    split <;> omega
  by_cases e : t = []
  · rw [if_pos e] at hr
    refine ⟨s, n, ?_, ?_, by omega⟩
    · unfold openR
      rw [if_neg hm, h.read hn, hr, if_neg (by show ¬ (0 : Int) = 101; decide), if_pos (show (0 : Int) = 0 from rfl)]
    · rw [hl, e, List.append_nil] at h
      exact h
  · rw [if_neg e] at hr
    have hk : flen xs ≤ l1.length := by have := recOf_at l1; rw [hr] at this; exact this
    have hh : hasC s.C n1 = true := by
      cases c : hasC s.C n1 with
      | true => rfl
      | false =>
        have h9 := h.b1
        rw [bytC_no c] at h9
        rw [← h9, recOf_nil] at hr
        cases hr
    have ec : s.cut n1 (flen xs : Nat) = (0, s.wr.put n1 (l1.take (flen xs))) := by
      unfold DS.cut
      rw [if_neg (by rw [h.may hn, if_neg (by simp [hh])]; decide), h.b1, if_neg (by omega), Int.toNat_natCast]
      unfold DS.whole
      rw [if_neg (by rw [h.ar]; decide)]
    have et : l1.take (flen xs) = flw xs := by rw [hl, ← flw_len, List.take_left]
    have h9 := (h.wrt (by decide)).put hne (l1.take (flen xs))
    rw [et] at h9
    refine ⟨_, n + 1, ?_, h9, by omega⟩
    unfold openR
    rw [if_neg hm, h.read hn, hr, if_neg (by show ¬ (30 : Int) = 101; decide), if_neg (by show ¬ (30 : Int) = 0; decide)]
    simp only [ec, et]
    rfl
end
end Go.Proofs.YtnbpkignkfabkaaDoor
