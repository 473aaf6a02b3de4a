/- RecordLong: rows and bodies at their limits. -/
import Derived.Test.YtcmllfnhdodbdaaDoorWorks
namespace Go.Proofs.YtcmllfnhdodbdaaDoor
set_option linter.unusedVariables false
set_option linter.unusedSimpArgs false
open Go.RowKit
set_option maxRecDepth 100000 in
theorem Within_calls (i n : Int) (w : World) (hn : 0 < n) (hn2 : n ≤ 4611686018427387904) (hi1 : -9223372036854775808 ≤ i) (hi2 : i ≤ 9223372036854775807) :
    Calls Tryd.prog 6 #[.int .i64 i, .int .i64 n] w fun r w' => r = .returned (.int .i64 (i % n)) ∧ w = w' := by
  have t0 : (n == 0) = false := beq_eq_false_iff_ne.2 (by omega)
  have hlt := Int.emod_lt_of_pos i hn
  have hge := Int.emod_nonneg i (show n ≠ 0 by omega)
  by_cases h : i.tmod n < 0
  · have e : i.tmod n + n = i % n := by
      have := Int.tmod_eq_emod (a := i) (b := n)
      split at this <;> omega
    have E := Lib.hid e; clear e
    have b1 : -n ≤ i.tmod n := by have := E.out; omega
    go_enter Tryd.func6, Tryd.ntmps6
    go_wp2
    go_ret
    exact ⟨by rw [← E.out]; rfl, rfl⟩
  · have e : i.tmod n = i % n := by
      have := Int.tmod_eq_emod (a := i) (b := n)
      split at this <;> omega
    have E := Lib.hid e; clear e
    go_enter Tryd.func6, Tryd.ntmps6
    go_wp2
    go_ret
    exact ⟨by rw [← E.out]; rfl, rfl⟩

theorem rBytes_text (t u : List UInt8) (h : t.length ≤ 1048576) : rBytes (be t.length 4 ++ t ++ u) 0 = (t, u, 0) := by
  have h4 : (be t.length 4).length = 4 := be_length _ _
  have hl : (be t.length 4 ++ t ++ u).length = 4 + t.length + u.length := by simp only [List.length_append, h4]
  have e1 : ofBe ((be t.length 4 ++ t ++ u).take 4) = t.length := by
    rw [List.append_assoc, List.take_left' h4, ofBe_be]
    exact Nat.mod_eq_of_lt (by omega)
  have e2 : (be t.length 4 ++ t ++ u).drop 4 = t ++ u := by rw [List.append_assoc]; exact List.drop_left' h4
  unfold rBytes
  rw [if_pos rfl, if_pos (by omega), e1, if_pos h, if_pos (by omega), e2, List.take_left, List.drop_left]

end Go.Proofs.YtcmllfnhdodbdaaDoor
