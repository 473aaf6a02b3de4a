/- (*record.Writer).Num as one contract; Int, Flag. -/
import Derived.Test.YtnbpkignkfabkaaDoorWri
/- (*record.Writer).Num: all its cases. -/
namespace Go.Proofs.YtnbpkignkfabkaaDoor
set_option linter.unusedVariables false
set_option linter.unusedSimpArgs false
open Go.RowKit
/-- What a number in so many bytes makes of a writer. -/
def fitsB (n : Nat) (k : Int) : Bool := decide (1 ≤ k) && decide (k ≤ 8) && (decide (k = 8) || decide (n / 2 ^ (8 * k).toNat = 0))

set_option maxRecDepth 100000 in
set_option maxHeartbeats 1000000 in
theorem Num_ok (pb po base n k : Nat) (w : World) (v : Value) (l : List UInt8) (h : Wri w pb po base l 0 v) (hb : base ≤ pb) (hk1 : 1 ≤ k) (hk8 : k ≤ 8) (hfit : k = 8 ∨ n / 2 ^ (8 * k) = 0)
  (hl : l.length ≤ 140737488000000) :
    Calls Tryd.prog 40 #[.pointer (some ⟨pb, po, none⟩), .int .u64 n, .int .i64 k] w fun r w' => r = .returned (.tuple #[]) ∧ ∃ v', Wri w' pb po base (l ++ be n k) 0 v' ∧ WUpd w w' pb po v v' := by
  have H := Lib.hid h
  obtain ⟨h0, h1, f0, f1, _, _⟩ := h
  have hbad : (((0 : Int)) != 0) = false := rfl
  have t1 : decide ((k : Int) < 1) = false := by simp; omega
  have t2 : decide (8 < (k : Int)) = false := by simp; omega
  by_cases hk : k < 8
  case' pos =>
    have t3 : decide ((k : Int) < 8) = true := by simp; omega
    have t4 : (((n : Int) / 2 ^ (8 * (k : Int)).toNat) != 0) = false := by
      have e : (8 * (k : Int)).toNat = 8 * k := by omega
      have e2 : (n : Int) / 2 ^ (8 * k) = ((n / 2 ^ (8 * k) : Nat) : Int) := by norm_cast
      rw [e, e2, hfit.resolve_left (by omega)]
      rfl
    have t5 : (((n : Int) / 2 ^ (8 * k)) != 0) = false := by
      have e2 : (n : Int) / 2 ^ (8 * k) = ((n / 2 ^ (8 * k) : Nat) : Int) := by norm_cast
      rw [e2, hfit.resolve_left (by omega)]
      rfl
  case' neg =>
    have t3 : decide ((k : Int) < 8) = false := by simp; omega
  all_goals
    clear hfit
    have HO := Lib.hid hl; clear hl
    go_enter Tryd.func40, Tryd.ntmps40
    go_wp2
    go_loopw [6] (fun s wr => ∃ (j : Nat) (pre : List UInt8) (v1 : Value), j ≤ k ∧ pre ++ be n j = be n k ∧ s = .int .i64 (8 * (j : Int) - 8) ∧ Wri wr pb po base (l ++ pre) 0 v1 ∧ WUpd w wr pb po v v1) (fun s wr => ((intOf s + 8) / 8).toNat)
    case atStart => exact ⟨k, [], v, by omega, rfl, by congr 1; omega, by simpa using H.out, WUpd.refl _ _ _ _⟩
    case round =>
      obtain ⟨j, pre, v1, hj, hpre, rfl, hw, hu⟩ := hrel
      cases j with
      | zero =>
        have HW := Lib.hid hw; clear hw
        have HU := Lib.hid hu; clear hu
        have HP := Lib.hid hpre; clear hpre
        go_wp2
        go_end0
        exact ⟨rfl, v1, by have := HW.out; rw [← HP.out]; simpa [be] using this, HU.out⟩
      | succ j =>
        have HW := Lib.hid hw
        have HU := Lib.hid hu; clear hu
        have HP := Lib.hid hpre; clear hpre
        obtain ⟨g0, g1, q0, q1, _, _⟩ := hw
        have b0 : (8 : Int) * ((j + 1 : Nat) : Int) - 8 = 8 * (j : Int) := by omega
        rw [b0]
        clear b0
        go_wp2
        obtain ⟨c, hc⟩ : ∃ c, UInt8.ofNat (n / 256 ^ j) = c := ⟨_, rfl⟩
        have eb : IntKind.u8.wrap ((n : Int) / 2 ^ (8 * (j : Int)).toNat) = ((c.toNat : Nat) : Int) := by rw [wrap_u8, byte_of, hc]
        have HC := Lib.hid hc; clear hc
        have hpl : pre.length = k - (j + 1) := by have := congrArg List.length HP.out; simp only [List.length_append, be_length] at this; omega
        have M1 : Hid ((l ++ pre).length + 1 ≤ maxLen) := by show _ ≤ _; have := HO.out; unfold maxLen; rw [List.length_append]; omega
        have M2 : Hid (((l ++ pre).length + 1) * 1 ≤ 140737488355328) := by show _ ≤ _; have := HO.out; rw [List.length_append]; omega
        have M3 : Hid (base ≤ (wr.alloc (.cells #[.int .u8 (c.toNat : Int)] 5)).drew.heap.size) := by show _ ≤ _; have := HW.out.lt; simp; omega
        have plt := HW.out.lt
        clear hpl
        go_region_law (refine step_append rfl (.tmp 43) (.tmp 48) 35 35 rfl base 5 (.int .u8 0) 1 1 Tryd.underlying35 infoByte rfl (v := v1) (n := (l ++ pre).length) (xs := bys (l ++ pre)) (HW.out.own.alloc _).drew rfl (xv := .slice (some ⟨wr.heap.size, 0, none⟩) 1 1) (m := 1) (news := [.int .u8 (c.toNat : Int)]) (Src_new Tryd.underlying35 (e := 5) (heap_alloc_new wr _) rfl) rfl M1.out M2.out M3.out ?_; intro v2 w2 ho2 hg2 _ hv2; obtain ⟨g, cap, rfl⟩ := ho2.shape (Nat.succ_pos _); have U2 : Hid (Upd (fun k => v1.ownBlock = some k) wr w2) := (((Upd.refl _ wr).alloc _).drew).grown hg2 (fun _ h _ => h); have s0 := U2.out.cell' HW.out.c0 HW.out.ne; have s1 := (U2.out.frozen (p := ⟨pb, po, none⟩) HW.out.lt HW.out.ne).trans HW.out.f0; have O2 := Lib.hid ho2; clear ho2 hg2; have V2 := Lib.hid hv2; clear hv2)
        all_goals
          go_wp2
          go_roundw
          case rel =>
            obtain ⟨R1, R2⟩ := HW.out.put (l' := l ++ (pre ++ [c])) (v' := .slice (some ⟨g, 0, none⟩) ((l ++ pre).length + 1) cap) hb (by
              have := O2.out
              rw [bys_one_snoc, List.append_assoc] at this
              rw [show (l ++ (pre ++ [c])).length = (l ++ pre).length + 1 by simp [Nat.add_assoc]]
              exact this) U2.out (by
              rcases V2.out with e | e
              · exact .inl e
              · exact .inr (fun i hi => by rw [e] at hi; injection hi with hi; simp at hi; omega))
            rw [show (l ++ pre).length = l.length + pre.length from List.length_append] at R1 R2
            exact ⟨j, pre ++ [c], _, by omega, by rw [← HP.out, ← HC.out]; simp [be], rfl, R1, HU.out.trans R2⟩
          case measure => simp [intOf]; omega
end Go.Proofs.YtnbpkignkfabkaaDoor
namespace Go.Proofs.YtnbpkignkfabkaaDoor
open Go.RowKit
def wNum (l : List UInt8) (e : Int) (n : Nat) (k : Int) : List UInt8 × Int :=
  if e = 0 then (if 1 ≤ k ∧ k ≤ 8 ∧ (k = 8 ∨ n / 2 ^ (8 * k.toNat) = 0) then (l ++ be n k.toNat, 0) else (l, 34)) else (l, e)

set_option maxRecDepth 100000 in
set_option maxHeartbeats 1000000 in
theorem Num_off (pb po base n : Nat) (k : Int) (w : World) (v : Value) (l : List UInt8) (e : Int) (h : Wri w pb po base l e v) (he : e ≠ 0) :
    Calls Tryd.prog 40 #[.pointer (some ⟨pb, po, none⟩), .int .u64 n, .int .i64 k] w fun r w' => r = .returned (.tuple #[]) ∧ w = w' := by
  obtain ⟨h0, h1, f0, f1, _, _⟩ := h
  have t0 : (e != 0) = true := by simpa using he
  clear he
  go_enter Tryd.func40, Tryd.ntmps40
  go_wp2
  refine bodyPost_ret (results_none rfl _ _ _) rfl ?_
  exact ⟨rfl, rfl⟩

set_option maxRecDepth 100000 in
set_option maxHeartbeats 1000000 in
theorem Num_form (pb po base n : Nat) (k : Int) (w : World) (v : Value) (l : List UInt8) (h : Wri w pb po base l 0 v) (hk : ¬ (1 ≤ k ∧ k ≤ 8 ∧ (k = 8 ∨ n / 2 ^ (8 * k.toNat) = 0))) :
    Calls Tryd.prog 40 #[.pointer (some ⟨pb, po, none⟩), .int .u64 n, .int .i64 k] w fun r w' => r = .returned (.tuple #[]) ∧ w.setCell ⟨pb, po + 1, none⟩ (.int .i64 34) = w' := by
  obtain ⟨h0, h1, f0, f1, _, _⟩ := h
  have t0 : ((0 : Int) != 0) = false := rfl
  by_cases h1 : k < 1
  · have t1 : decide (k < 1) = true := by simpa using h1
    clear hk
    go_enter Tryd.func40, Tryd.ntmps40
    go_wp2
    all_goals ((try simp only [Exit.inBlock, Exit.then]); refine bodyPost_ret (results_none rfl _ _ _) rfl ?_; exact ⟨rfl, rfl⟩)
  · by_cases h2 : 8 < k
    · have t1 : decide (k < 1) = false := by simpa using h1
      have t2 : decide (8 < k) = true := by simpa using h2
      clear hk
      go_enter Tryd.func40, Tryd.ntmps40
      go_wp2
      all_goals ((try simp only [Exit.inBlock, Exit.then]); refine bodyPost_ret (results_none rfl _ _ _) rfl ?_; exact ⟨rfl, rfl⟩)
    · have t1 : decide (k < 1) = false := by simpa using h1
      have t2 : decide (8 < k) = false := by simpa using h2
      have h3 : k < 8 := by
        by_cases h4 : k = 8
        · exact absurd ⟨by omega, by omega, .inl h4⟩ hk
        · omega
      have t3 : decide (k < 8) = true := by simpa using h3
      obtain ⟨j, rfl⟩ := Int.eq_ofNat_of_zero_le (show 0 ≤ k by omega)
      have h5 : ¬ n / 2 ^ (8 * j) = 0 := fun h => hk ⟨by omega, by omega, .inr (by simpa using h)⟩
      have t4 : (((n : Int) / 2 ^ (8 * j)) != 0) = true := by
        have e2 : (n : Int) / 2 ^ (8 * j) = ((n / 2 ^ (8 * j) : Nat) : Int) := by norm_cast
        rw [e2, bne_iff_ne]
        omega
      have t5 : (((n : Int) / 2 ^ (8 * (j : Int)).toNat) != 0) = true := by
        rw [show (8 * (j : Int)).toNat = 8 * j by omega]; exact t4
      clear hk h5
      go_enter Tryd.func40, Tryd.ntmps40
      go_wp2
      all_goals ((try simp only [Exit.inBlock, Exit.then]); refine bodyPost_ret (results_none rfl _ _ _) rfl ?_; exact ⟨rfl, rfl⟩)

theorem Num_calls (pb po base n : Nat) (k : Int) (w : World) (v : Value) (l : List UInt8) (e : Int) (h : Wri w pb po base l e v) (hb : base ≤ pb) (hl : l.length ≤ 140737488000000) :
    Calls Tryd.prog 40 #[.pointer (some ⟨pb, po, none⟩), .int .u64 n, .int .i64 k] w fun r w' => r = .returned (.tuple #[]) ∧ ∃ v', Wri w' pb po base (wNum l e n k).1 (wNum l e n k).2 v' ∧ WUpd w w' pb po v v' := by
  unfold wNum
  by_cases he : e = 0
  · subst he
    rw [if_pos rfl]
    by_cases hk : 1 ≤ k ∧ k ≤ 8 ∧ (k = 8 ∨ n / 2 ^ (8 * k.toNat) = 0)
    · rw [if_pos hk]
      obtain ⟨j, rfl⟩ := Int.eq_ofNat_of_zero_le (show 0 ≤ k by omega)
      exact Num_ok pb po base n j w v l h hb (by omega) (by omega) (by rcases hk.2.2 with h | h; exact .inl (by omega); exact .inr (by simpa using h)) hl
    · rw [if_neg hk]
      refine (Num_form pb po base n k w v l h hk).mono fun r w' => ?_
      rintro ⟨rfl, rfl⟩
      exact ⟨rfl, v, h.bad⟩
  · rw [if_neg he]
    refine (Num_off pb po base n k w v l e h he).mono fun r w' => ?_
    rintro ⟨rfl, rfl⟩
    exact ⟨rfl, v, h, WUpd.refl _ _ _ _⟩

/-- A signed number as the sixty-four bits that it has. -/
def i64n (x : Int) : Nat := (x % 18446744073709551616).toNat
end Go.Proofs.YtnbpkignkfabkaaDoor
