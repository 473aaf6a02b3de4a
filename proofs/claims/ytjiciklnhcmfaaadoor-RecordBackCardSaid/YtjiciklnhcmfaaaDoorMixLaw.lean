/- Four bytes next to each other that are changed: the sum tells it. No program in sight. -/
import Derived.Test.YtjiciklnhcmfaaaDoorFrmLaw
namespace Go.Proofs.YtjiciklnhcmfaaaDoor
set_option linter.unusedVariables false
set_option linter.unusedSimpArgs false
/-- x with the bytes from j on, K of them, changed by y. -/
def bk (x : List UInt8) (j : Nat) (y : Nat → UInt8) (K : Nat) : List UInt8 := x.take j ++ (List.range K).map (fun i => x.getD (j + i) 0 ^^^ y i) ++ x.drop (j + K)
def ck (y : Nat → UInt8) (K : Nat) : Bool := (List.range K).any fun i => y i != 0
theorem ck_zero (y : Nat → UInt8) : ck y 0 = false := rfl
theorem ck_succ (y : Nat → UInt8) (K : Nat) : ck y (K + 1) = (ck y K || (y K != 0)) := by simp [ck, List.range_succ]
theorem bk_zero (x : List UInt8) (j : Nat) (y : Nat → UInt8) : bk x j y 0 = x := by simp [bk]
theorem bk_length (x : List UInt8) (j : Nat) (y : Nat → UInt8) (K : Nat) (h : j + K ≤ x.length) : (bk x j y K).length = x.length := by simp [bk]; omega
theorem bk_get (x : List UInt8) (j : Nat) (y : Nat → UInt8) (K : Nat) (h : j + K < x.length) : (bk x j y K)[j + K]? = some (x.getD (j + K) 0) := by
  unfold bk
  rw [List.getElem?_append_right (by simp; omega)]
  simp [List.getD, Nat.min_eq_left (show j ≤ x.length by omega), h]
theorem bk_succ (x : List UInt8) (j : Nat) (y : Nat → UInt8) (K : Nat) (h : j + K < x.length) : (bk x j y K).set (j + K) (x.getD (j + K) 0 ^^^ y K) = bk x j y (K + 1) := by
  have e : x.drop (j + K) = x[j + K] :: x.drop (j + K + 1) := List.drop_eq_getElem_cons h
  have l : (x.take j ++ (List.range K).map (fun i => x.getD (j + i) 0 ^^^ y i)).length = j + K := by simp; omega
  unfold bk
  rw [List.set_append_right _ _ (by rw [l]; exact Nat.le_refl _), l, Nat.sub_self, e, List.set_cons_zero, List.range_succ, List.map_append, ← Nat.add_assoc]
  simp
theorem split3 (x : List UInt8) (j K : Nat) (h : j + K ≤ x.length) : x = x.take j ++ (List.range K).map (fun i => x.getD (j + i) 0) ++ x.drop (j + K) := by
  have := bk_length x j (fun _ => 0) K h
  apply List.ext_getElem
  · rw [← this]; simp [bk]
  · intro i h1 h2
    by_cases c : i < j
    · rw [List.getElem_append_left (by simp; omega), List.getElem_append_left (by simp; omega)]; simp
    · by_cases c2 : i < j + K
      · rw [List.getElem_append_left (by simp; omega), List.getElem_append_right (by simp; omega)]
        have e : j + (i - j) = i := by omega
        simp [Nat.min_eq_left (show j ≤ x.length by omega), e, List.getD, h1]
      · rw [List.getElem_append_right (by simp; omega)]
        simp [Nat.min_eq_left (show j ≤ x.length by omega)]
        congr 1; omega
theorem bk_ck (x : List UInt8) (j : Nat) (y : Nat → UInt8) (K : Nat) (hK : K ≤ 4) (h : j + K ≤ x.length) : (ck y K == (sumN (bk x j y K) == sumN x)) = false := by
  by_cases c : ck y K = true
  · rw [c]
    have : ¬ sumN (bk x j y K) = sumN x := by
      intro e
      have e2 : Crc.sum (bk x j y K) = Crc.sum x := BitVec.eq_of_toNat_eq e
      have e3 : Crc.sum (x.take j ++ (List.range K).map (fun i => x.getD (j + i) 0 ^^^ y i) ++ x.drop (j + K)) = Crc.sum (x.take j ++ (List.range K).map (fun i => x.getD (j + i) 0) ++ x.drop (j + K)) := by rw [← split3 x j K h]; exact e2
      have e4 := Crc.sum_burst _ _ _ _ (by simp) (by simp; exact hK) e3
      simp only [ck, List.any_eq_true, List.mem_range] at c
      obtain ⟨i, hi, hy⟩ := c
      have e5 := congrArg (fun l => l[i]?) e4
      simp only [List.getElem?_map, List.getElem?_range hi, Option.map_some, Option.some.injEq] at e5
      exact xor_ne _ _ (by simpa using hy) e5
    simp [this]
  · have c' : ck y K = false := by simpa using c
    have z : ∀ i, i < K → y i = 0 := by
      intro i hi
      simp only [ck, List.any_eq_false, List.mem_range] at c'
      simpa using c' i hi
    have : bk x j y K = x := by
      have e : (List.range K).map (fun i => x.getD (j + i) 0 ^^^ y i) = (List.range K).map (fun i => x.getD (j + i) 0) := by
        apply List.map_congr_left
        intro i hi
        rw [z i (List.mem_range.1 hi)]; simp
      unfold bk
      rw [e, ← split3 x j K h]
    rw [c', this]; simp
end Go.Proofs.YtjiciklnhcmfaaaDoor
