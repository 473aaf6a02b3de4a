/- The records of some bytes, in plain words. -/
import Derived.Test.YtnbpkignkfabkaaDoorFrmLaw
namespace Go.Proofs.YtnbpkignkfabkaaDoor
set_option linter.unusedVariables false
set_option linter.unusedSimpArgs false
open Go.RowKit
def recR : Nat → List UInt8 → List (List UInt8) × Nat × Int
  | 0, _ => ([], 0, 0)
  | f + 1, b => if b.length = 0 then ([], 0, 0) else if (UnframeR b).2.2 = 0 then ((UnframeR b).1 :: (recR f (b.drop (UnframeR b).2.1)).1, (UnframeR b).2.1 + (recR f (b.drop (UnframeR b).2.1)).2.1, (recR f (b.drop (UnframeR b).2.1)).2.2) else if (UnframeR b).2.2 = 30 then ([], 0, 30) else ([], 0, 101)
def recOf (b : List UInt8) : List (List UInt8) × Nat × Int := recR (b.length + 1) b
theorem unframe_n {b : List UInt8} (h : (UnframeR b).2.2 = 0) : 13 ≤ (UnframeR b).2.1 ∧ (UnframeR b).2.1 ≤ b.length ∧ (UnframeR b).1.length ≤ b.length := by
  unfold UnframeR at h ⊢
  split at h
  · simp at h
  · rename_i h1
    rw [if_neg h1]
    split at h
    · simp at h
    · rename_i h2
      rw [if_neg h2]
      split at h
      · simp at h
      · rename_i h3
        rw [if_neg h3]
        split at h
        · simp at h
        · rename_i h4
          rw [if_neg h4]
          split at h
          · simp at h
          · rename_i h5
            rw [if_neg h5]
            split at h
            · simp at h
            · rename_i h6
              rw [if_neg h6]
              split at h
              · simp at h
              · rename_i h7
                rw [if_neg h7]
                refine ⟨Nat.le_add_left _ _, by show ofBe _ + 13 ≤ _; omega, by show (List.take _ _).length ≤ _; rw [List.length_take, List.length_drop]; omega⟩
theorem recR_fuel : ∀ (f g : Nat) (b : List UInt8), b.length < f → b.length < g → recR f b = recR g b
  | 0, _, _, h, _ => absurd h (Nat.not_lt_zero _)
  | _ + 1, 0, _, _, h => absurd h (Nat.not_lt_zero _)
  | f + 1, g + 1, b, h1, h2 => by
    unfold recR
    by_cases h0 : b.length = 0
    · rw [if_pos h0, if_pos h0]
    · rw [if_neg h0, if_neg h0]
      by_cases hc : (UnframeR b).2.2 = 0
      · rw [if_pos hc, if_pos hc]
        have hn := unframe_n hc
        rw [recR_fuel f g (b.drop (UnframeR b).2.1) (by rw [List.length_drop]; omega) (by rw [List.length_drop]; omega)]
      · rw [if_neg hc, if_neg hc]
theorem recOf_nil : recOf [] = ([], 0, 0) := rfl
theorem recOf_step {b : List UInt8} (h0 : b.length ≠ 0) (hc : (UnframeR b).2.2 = 0) : recOf b = ((UnframeR b).1 :: (recOf (b.drop (UnframeR b).2.1)).1, (UnframeR b).2.1 + (recOf (b.drop (UnframeR b).2.1)).2.1, (recOf (b.drop (UnframeR b).2.1)).2.2) := by
  have hn := unframe_n hc
  have e : recR b.length (b.drop (UnframeR b).2.1) = recOf (b.drop (UnframeR b).2.1) := recR_fuel _ _ _ (by rw [List.length_drop]; omega) (Nat.lt_succ_self _)
  unfold recOf at e ⊢
  rw [recR, if_neg h0, if_pos hc, e]
theorem recOf_short {b : List UInt8} (h0 : b.length ≠ 0) (hc : (UnframeR b).2.2 = 30) : recOf b = ([], 0, 30) := by
  unfold recOf
  rw [recR, if_neg h0, if_neg (by rw [hc]; decide), if_pos hc]
theorem recOf_hurt {b : List UInt8} (h0 : b.length ≠ 0) (hc : (UnframeR b).2.2 ≠ 0) (hc2 : (UnframeR b).2.2 ≠ 30) : recOf b = ([], 0, 101) := by
  unfold recOf
  rw [recR, if_neg h0, if_neg hc, if_neg hc2]
theorem recOf_status (b : List UInt8) : (recOf b).2.2 = 0 ∨ (recOf b).2.2 = 30 ∨ (recOf b).2.2 = 101 := by
  unfold recOf
  generalize b.length + 1 = f
  induction f generalizing b with
  | zero => exact .inl rfl
  | succ f ih =>
    unfold recR
    split
    · exact .inl rfl
    · split
      · exact ih _
      · split
        · exact .inr (.inl rfl)
        · exact .inr (.inr rfl)
theorem recOf_at (b : List UInt8) : (recOf b).2.1 ≤ b.length := by
  unfold recOf
  have : ∀ f (b : List UInt8), b.length < f → (recR f b).2.1 ≤ b.length := by
    intro f
    induction f with
    | zero => intro b h; omega
    | succ f ih =>
      intro b h
      unfold recR
      split
      · exact Nat.zero_le _
      · split
        · rename_i h0 hc
          have hn := unframe_n hc
          have := ih (b.drop (UnframeR b).2.1) (by rw [List.length_drop]; omega)
          rw [List.length_drop] at this
          show _ + _ ≤ _
          omega
        · split <;> exact Nat.zero_le _
  exact this _ _ (Nat.lt_succ_self _)
theorem recOf_whole : ∀ (f : Nat) (b : List UInt8), b.length < f → (recR f b).2.2 = 0 → (recR f b).2.1 = b.length
  | 0, _, h, _ => absurd h (Nat.not_lt_zero _)
  | f + 1, b, h, hs => by
    unfold recR at hs ⊢
    by_cases h0 : b.length = 0
    · rw [if_pos h0]; exact h0.symm
    · rw [if_neg h0] at hs ⊢
      by_cases hc : (UnframeR b).2.2 = 0
      · rw [if_pos hc] at hs ⊢
        have hn := unframe_n hc
        have := recOf_whole f (b.drop (UnframeR b).2.1) (by rw [List.length_drop]; omega) hs
        rw [List.length_drop] at this
        show _ + _ = _
        omega
      · rw [if_neg hc] at hs
        split at hs
        · exact absurd hs (by decide)
        · exact absurd hs (by decide)
theorem frm_ne (x : List UInt8) (t : List UInt8) : (frm x ++ t).length ≠ 0 := by rw [List.length_append, frm_length]; omega
theorem recOf_frm (x t : List UInt8) (hx : x.length ≤ 16777216) : recOf (frm x ++ t) = (x :: (recOf t).1, x.length + 13 + (recOf t).2.1, (recOf t).2.2) := by
  have e := unframe_frm x t hx
  have h2 := recOf_step (frm_ne x t) (by rw [e])
  have e2 : (frm x ++ t).drop (x.length + 13) = t := by rw [← frm_length, List.drop_left]
  rw [h2, e]
  simp only [e2]
def flw (l : List (List UInt8)) : List UInt8 := l.flatMap frm
theorem flw_snoc (l : List (List UInt8)) (x : List UInt8) : flw (l ++ [x]) = flw l ++ frm x := by simp [flw]
theorem flw_app (l m : List (List UInt8)) : flw (l ++ m) = flw l ++ flw m := by simp [flw]
theorem flw_cons (x : List UInt8) (l : List (List UInt8)) : flw (x :: l) = frm x ++ flw l := rfl
def flen (l : List (List UInt8)) : Nat := (l.map fun x => x.length + 13).sum
theorem flw_len : ∀ l : List (List UInt8), (flw l).length = flen l
  | [] => rfl
  | x :: l => by rw [flw_cons, List.length_append, frm_length, flw_len l]; simp [flen]
theorem flen_snoc (l : List (List UInt8)) (x : List UInt8) : flen (l ++ [x]) = flen l + (x.length + 13) := by simp [flen]
theorem recOf_fl : ∀ (l : List (List UInt8)) (t : List UInt8), (∀ x ∈ l, x.length ≤ 16777216) → recOf (flw l ++ t) = (l ++ (recOf t).1, flen l + (recOf t).2.1, (recOf t).2.2)
  | [], t, _ => by simp [flw, flen]
  | x :: l, t, h => by
    rw [flw_cons, List.append_assoc, recOf_frm x _ (h x (by simp)), recOf_fl l t (fun y hy => h y (List.mem_cons_of_mem _ hy))]
    simp [flen, Nat.add_assoc]
theorem recOf_flw (l : List (List UInt8)) (h : ∀ x ∈ l, x.length ≤ 16777216) : recOf (flw l) = (l, flen l, 0) := by
  have := recOf_fl l [] h
  rw [List.append_nil, recOf_nil] at this
  simpa using this
theorem recOf_torn (x : List UInt8) (k : Nat) (hx : x.length ≤ 16777216) (hk : k < (frm x).length) (h0 : 0 < k) : recOf ((frm x).take k) = ([], 0, 30) := by
  refine recOf_short ?_ (by rw [unframe_short x k hx hk])
  rw [List.length_take]; omega
theorem recOf_bent (x t : List UInt8) (i : Nat) (y : UInt8) (hx : x.length ≤ 16777216) (hi : i < (frm x).length) (hy : y ≠ 0) : recOf (bent (frm x) i y ++ t) = ([], 0, 101) := by
  obtain ⟨e, h1, h2⟩ := unframe_bent x t i y hx hi hy
  refine recOf_hurt (by rw [List.length_append, bent_length, frm_length]; omega) ?_ ?_
  · rw [h1]; rcases h2 with rfl | rfl <;> decide
  · rw [h1]; rcases h2 with rfl | rfl <;> decide
end Go.Proofs.YtnbpkignkfabkaaDoor
