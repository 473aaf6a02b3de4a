/- (*record.Writer).Text, Bytes, ID, Done; slices.Clone of bytes. -/
import Derived.Test.YtcmllfnhdodbdaaGreatDoorWri
import Derived.Deep.QuietTactic
import Derived.BigQuiet
/- (*record.Writer).Num as one contract; Int, Flag. -/
/- (*record.Writer).Num: all its cases. -/
namespace Go.Proofs.YtcmllfnhdodbdaaGreatDoor
set_option linter.unusedVariables false
set_option linter.unusedSimpArgs false
open Go.RowKit
/-- What a number in so many bytes makes of a writer. -/
def fitsB (n : Nat) (k : Int) : Bool := decide (1 ≤ k) && decide (k ≤ 8) && (decide (k = 8) || decide (n / 2 ^ (8 * k).toNat = 0))

end Go.Proofs.YtcmllfnhdodbdaaGreatDoor
namespace Go.Proofs.YtcmllfnhdodbdaaGreatDoor
set_option linter.unusedVariables false
set_option linter.unusedSimpArgs false
open Go.RowKit
def wNum (l : List UInt8) (e : Int) (n : Nat) (k : Int) : List UInt8 × Int :=
  if e = 0 then (if 1 ≤ k ∧ k ≤ 8 ∧ (k = 8 ∨ n / 2 ^ (8 * k.toNat) = 0) then (l ++ be n k.toNat, 0) else (l, 34)) else (l, e)

/-- A signed number as the sixty-four bits that it has. -/
def i64n (x : Int) : Nat := (x % 18446744073709551616).toNat
end Go.Proofs.YtcmllfnhdodbdaaGreatDoor
namespace Go.Proofs.YtcmllfnhdodbdaaGreatDoor
set_option linter.unusedVariables false
set_option linter.unusedSimpArgs false
open Go.RowKit
def wText (l : List UInt8) (e : Int) (t : List UInt8) : List UInt8 × Int :=
  if e = 0 then (if t.length ≤ 1048576 then (l ++ be t.length 4 ++ t, 0) else (l, 31)) else (l, e)

theorem wNum_off {l : List UInt8} {e : Int} {n : Nat} {k : Int} (h : e ≠ 0) : wNum l e n k = (l, e) := if_neg h
theorem wNum_len {l : List UInt8} {n : Nat} (h : n ≤ 4294967295) : wNum l 0 n 4 = (l ++ be n 4, 0) := by
  have c : 1 ≤ (4 : Int) ∧ (4 : Int) ≤ 8 ∧ ((4 : Int) = 8 ∨ n / 2 ^ (8 * (4 : Int).toNat) = 0) := ⟨by decide, by decide, .inr (by show n / 2 ^ 32 = 0; omega)⟩
  unfold wNum
  rw [if_pos rfl, if_pos c]
  rfl

set_option maxRecDepth 100000 in
set_option maxHeartbeats 1000000 in
theorem Clone_calls (a : Option Addr) (cap : Nat) (t : List UInt8) (w : World) (ht : Byt w a t) (hs : t.length ≤ 140737488355328) :
    Calls Tryz.prog 32 #[.slice a t.length cap] w fun r w' => ∃ v', r = .returned v' ∧ Own w' w.heap.size 5 1 v' t.length (bys t) ∧ Below w.heap.size w w' := by
  have HT := Lib.hid ht; clear ht
  have hnil := Lib.run_eql_slice_nil (P := Tryz.prog) w 33 5 a t.length cap 0 0 Tryz.underlying33
  cases a with
  | none =>
    obtain rfl := HT.out.none_nil
    simp only [Option.isNone_none, List.length_nil] at hnil
    go_enter Tryz.func32, Tryz.ntmps32
    go_wp2
    go_ret
    exact ⟨_, rfl, Own.nil _ _ _ _, Below.refl _ _⟩
  | some ad =>
    simp only [Option.isNone_some] at hnil
    have M1 : Hid (0 + t.length ≤ maxLen) := by show _ ≤ _; unfold maxLen; omega
    have M2 : Hid ((0 + t.length) * 1 ≤ 140737488355328) := by show _ ≤ _; omega
    have O1 : Hid (Own (w.alloc (.cells #[] 5)) w.heap.size 5 1 (.slice (some ⟨w.heap.size, 0, none⟩) 0 0) 0 []) :=
      ⟨rfl, .inr ⟨w.heap.size, 0, #[], (0, 0), rfl, Nat.le_refl _, heap_alloc_new w _, NoFr.zero _, Nat.le_refl _, Nat.zero_le _, rfl, rfl⟩⟩
    go_enter Tryz.func32, Tryz.ntmps32
    go_wp2_with (at_builtin; refine wpList_append rfl (.tmp 5) (.tmp 6) 33 33 rfl w.heap.size 5 (.int .u8 0) 1 1 Tryz.underlying33 infoByte rfl (v := .slice (some ⟨w.heap.size, 0, none⟩) 0 0) (n := 0) (xs := []) O1.out rfl (xv := .slice (some ad) t.length cap) (m := t.length) (news := bys t) (Src_byt Tryz.underlying33 (HT.out.alloc _) (fun _ => .inr trivial)) rfl M1.out M2.out (by simp) ?_)
    intro v2 w2 ho2 hg2 hn2 hv2
    have B2 : Hid (Below w.heap.size w w2) := ((Below.refl _ w).alloc (Nat.le_refl _) _).grown hg2 (by simp) (by intro k hk; simp [Value.ownBlock] at hk; omega)
    have O2 := Lib.hid ho2; clear ho2 hg2 hn2 hv2
    go_wp2
    go_ret
    exact ⟨_, rfl, O2.out, B2.out⟩

/-- What a writer has laid, and the first error. -/
def wDone (l : List UInt8) (e : Int) : List UInt8 × Int := if e = 0 then (l, 0) else ([], e)
end Go.Proofs.YtcmllfnhdodbdaaGreatDoor
