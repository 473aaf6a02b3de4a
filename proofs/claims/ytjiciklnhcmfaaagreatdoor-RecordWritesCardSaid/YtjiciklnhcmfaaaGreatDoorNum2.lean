/- (*record.Writer).Num as one contract; Int, Flag. -/
import Derived.Test.YtjiciklnhcmfaaaGreatDoorNum
namespace Go.Proofs.YtjiciklnhcmfaaaGreatDoor
set_option linter.unusedVariables false
set_option linter.unusedSimpArgs false
open Go.RowKit
def wNum (l : List UInt8) (e : Int) (n : Nat) (k : Int) : List UInt8 × Int :=
  if e = 0 then (if 1 ≤ k ∧ k ≤ 8 ∧ (k = 8 ∨ n / 2 ^ (8 * k.toNat) = 0) then (l ++ be n k.toNat, 0) else (l, 34)) else (l, e)

set_option maxRecDepth 100000 in
set_option maxHeartbeats 1000000 in
theorem Num_off (pb po base n : Nat) (k : Int) (w : World) (v : Value) (l : List UInt8) (e : Int) (h : Wri w pb po base l e v) (he : e ≠ 0) :
    Calls Tryz.prog 9 #[.pointer (some ⟨pb, po, none⟩), .int .u64 n, .int .i64 k] w fun r w' => r = .returned (.tuple #[]) ∧ w = w' := by
  obtain ⟨h0, h1, f0, f1, _, _⟩ := h
  have t0 : (e != 0) = true := by simpa using he
  clear he
  go_enter Tryz.func9, Tryz.ntmps9
  go_wp2
  refine bodyPost_ret (results_none rfl _ _ _) rfl ?_
  exact ⟨rfl, rfl⟩

set_option maxRecDepth 100000 in
set_option maxHeartbeats 1000000 in
theorem Num_form (pb po base n : Nat) (k : Int) (w : World) (v : Value) (l : List UInt8) (h : Wri w pb po base l 0 v) (hk : ¬ (1 ≤ k ∧ k ≤ 8 ∧ (k = 8 ∨ n / 2 ^ (8 * k.toNat) = 0))) :
    Calls Tryz.prog 9 #[.pointer (some ⟨pb, po, none⟩), .int .u64 n, .int .i64 k] w fun r w' => r = .returned (.tuple #[]) ∧ w.setCell ⟨pb, po + 1, none⟩ (.int .i64 34) = w' := by
  obtain ⟨h0, h1, f0, f1, _, _⟩ := h
  have t0 : ((0 : Int) != 0) = false := rfl
  by_cases h1 : k < 1
  · have t1 : decide (k < 1) = true := by simpa using h1
    clear hk
    go_enter Tryz.func9, Tryz.ntmps9
    go_wp2
    all_goals ((try simp only [Exit.inBlock, Exit.then]); refine bodyPost_ret (results_none rfl _ _ _) rfl ?_; exact ⟨rfl, rfl⟩)
  · by_cases h2 : 8 < k
    · have t1 : decide (k < 1) = false := by simpa using h1
      have t2 : decide (8 < k) = true := by simpa using h2
      clear hk
      go_enter Tryz.func9, Tryz.ntmps9
      go_wp2
      all_goals ((try simp only [Exit.inBlock, Exit.then]); refine bodyPost_ret (results_none rfl _ _ _) rfl ?_; exact ⟨rfl, rfl⟩)
    · have t1 : decide (k < 1) = false := by simpa using h1
      have t2 : decide (8 < k) = false := by simpa using h2
      have h3 : k < 8 := by
        by_cases h4 : k = 8
        · exact absurd ⟨by omega, by omega, .inl h4⟩ hk
        · omega
      have t3 : decide (k < 8) = true := by simpa using h3
      obtain ⟨j, rfl⟩ := Int.eq_ofNat_of_zero_le (show 0 ≤ k by omega)
      have h5 : ¬ n / 2 ^ (8 * j) = 0 := fun h => hk ⟨by omega, by omega, .inr (by simpa using h)⟩
      have t4 : (((n : Int) / 2 ^ (8 * j)) != 0) = true := by
        have e2 : (n : Int) / 2 ^ (8 * j) = ((n / 2 ^ (8 * j) : Nat) : Int) := by norm_cast
        rw [e2, bne_iff_ne]
        omega
      have t5 : (((n : Int) / 2 ^ (8 * (j : Int)).toNat) != 0) = true := by
        rw [show (8 * (j : Int)).toNat = 8 * j by omega]; exact t4
      clear hk h5
      go_enter Tryz.func9, Tryz.ntmps9
      go_wp2
      all_goals ((try simp only [Exit.inBlock, Exit.then]); refine bodyPost_ret (results_none rfl _ _ _) rfl ?_; exact ⟨rfl, rfl⟩)

theorem Num_calls (pb po base n : Nat) (k : Int) (w : World) (v : Value) (l : List UInt8) (e : Int) (h : Wri w pb po base l e v) (hb : base ≤ pb) (hl : l.length ≤ 140737488000000) :
    Calls Tryz.prog 9 #[.pointer (some ⟨pb, po, none⟩), .int .u64 n, .int .i64 k] w fun r w' => r = .returned (.tuple #[]) ∧ ∃ v', Wri w' pb po base (wNum l e n k).1 (wNum l e n k).2 v' ∧ WUpd w w' pb po v v' := by
  unfold wNum
  by_cases he : e = 0
  · subst he
    rw [if_pos rfl]
    by_cases hk : 1 ≤ k ∧ k ≤ 8 ∧ (k = 8 ∨ n / 2 ^ (8 * k.toNat) = 0)
    · rw [if_pos hk]
      obtain ⟨j, rfl⟩ := Int.eq_ofNat_of_zero_le (show 0 ≤ k by omega)
      exact Num_ok pb po base n j w v l h hb (by omega) (by omega) (by rcases hk.2.2 with h | h; exact .inl (by omega); exact .inr (by simpa using h)) hl
    · rw [if_neg hk]
      refine (Num_form pb po base n k w v l h hk).mono fun r w' => ?_
      rintro ⟨rfl, rfl⟩
      exact ⟨rfl, v, h.bad⟩
  · rw [if_neg he]
    refine (Num_off pb po base n k w v l e h he).mono fun r w' => ?_
    rintro ⟨rfl, rfl⟩
    exact ⟨rfl, v, h, WUpd.refl _ _ _ _⟩

set_option maxRecDepth 100000 in
set_option maxHeartbeats 1000000 in
theorem Flag_calls (pb po base : Nat) (b : Bool) (w : World) (v : Value) (l : List UInt8) (e : Int) (h : Wri w pb po base l e v) (hb : base ≤ pb) (hl : l.length ≤ 140737488000000) :
    Calls Tryz.prog 13 #[.pointer (some ⟨pb, po, none⟩), .bool b] w fun r w' => r = .returned (.tuple #[]) ∧ ∃ v', Wri w' pb po base (wNum l e b.toNat 1).1 (wNum l e b.toNat 1).2 v' ∧ WUpd w w' pb po v v' := by
  have H := Lib.hid h; clear h
  have HL := Lib.hid hl; clear hl
  cases b
  · go_enter Tryz.func13, Tryz.ntmps13
    go_wp2_with fail
    refine (Num_calls pb po base 0 1 _ v l e H.out hb HL.out).mono ?_
    rintro r w1 ⟨rfl, hq⟩
    have HQ := Lib.hid hq; clear hq
    go_wp2
    go_end0
    exact ⟨rfl, HQ.out⟩
  · go_enter Tryz.func13, Tryz.ntmps13
    go_wp2_with fail
    refine (Num_calls pb po base 1 1 _ v l e H.out hb HL.out).mono ?_
    rintro r w1 ⟨rfl, hq⟩
    have HQ := Lib.hid hq; clear hq
    go_wp2
    go_end0
    exact ⟨rfl, HQ.out⟩

/-- A signed number as the sixty-four bits that it has. -/
def i64n (x : Int) : Nat := (x % 18446744073709551616).toNat
set_option maxRecDepth 100000 in
set_option maxHeartbeats 1000000 in
theorem Int_calls (pb po base : Nat) (x : Int) (w : World) (v : Value) (l : List UInt8) (e : Int) (h : Wri w pb po base l e v) (hb : base ≤ pb) (hl : l.length ≤ 140737488000000) :
    Calls Tryz.prog 11 #[.pointer (some ⟨pb, po, none⟩), .int .i64 x] w fun r w' => r = .returned (.tuple #[]) ∧ ∃ v', Wri w' pb po base (wNum l e (i64n x) 8).1 (wNum l e (i64n x) 8).2 v' ∧ WUpd w w' pb po v v' := by
  have H := Lib.hid h; clear h
  have HL := Lib.hid hl; clear hl
  go_enter Tryz.func11, Tryz.ntmps11
  have e64 : IntKind.u64.wrap x = ((i64n x : Nat) : Int) := by
    have : IntKind.u64.wrap x = x % 18446744073709551616 := by simp [IntKind.wrap, IntKind.bits, IntKind.signed]
    rw [this]; unfold i64n; omega
  go_wp2_with fail
  refine (Num_calls pb po base (i64n x) 8 _ v l e H.out hb HL.out).mono ?_
  rintro r w1 ⟨rfl, hq⟩
  have HQ := Lib.hid hq; clear hq
  go_wp2
  go_end0
  exact ⟨rfl, HQ.out⟩
end Go.Proofs.YtjiciklnhcmfaaaGreatDoor
