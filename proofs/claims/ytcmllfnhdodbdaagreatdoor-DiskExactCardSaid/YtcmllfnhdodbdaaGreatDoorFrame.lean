/- record.Frame. -/
import Derived.Test.YtcmllfnhdodbdaaGreatDoorRdr2
import Derived.Test.YtcmllfnhdodbdaaGreatDoorSum
/- record.Reader: Text, Left, End, From. -/
namespace Go.Proofs.YtcmllfnhdodbdaaGreatDoor
set_option linter.unusedVariables false
set_option linter.unusedSimpArgs false
open Go.RowKit

theorem frozen_of_row {w : World} {g : Nat} {cur : Array Value} {e : TypeId} (h : w.heap[g]? = some (.cells cur e (0, 0))) (j : Nat) : w.frozen? ⟨g, j, none⟩ = false := by
  unfold World.frozen?
  rw [h]
  simp
def rEnd (l : List UInt8) (e : Int) : Int := if e = 0 ∧ 0 < l.length then 33 else e
/-- A reader that the call made. -/
def NewRdr (w w' : World) (r : Ending) (l : List UInt8) : Prop := ∃ rb B a cap, r = .returned (.pointer (some ⟨rb, 0, none⟩)) ∧ Rdr w' rb 0 B l 0 a cap ∧ w.heap.size ≤ rb ∧ (∀ ad, a = some ad → w.heap.size ≤ B ∧ B < w'.heap.size) ∧ Below w.heap.size w w'
end Go.Proofs.YtcmllfnhdodbdaaGreatDoor
namespace Go.Proofs.YtcmllfnhdodbdaaGreatDoor
set_option linter.unusedVariables false
set_option linter.unusedSimpArgs false
open Go.RowKit
def sumN (l : List UInt8) : Nat := (Crc.sum l).toNat
theorem sumN_lt (l : List UInt8) : sumN l < 4294967296 := (Crc.sum l).isLt
def hd (n : Nat) : List UInt8 := be 201 1 ++ be n 4
def frm (b : List UInt8) : List UInt8 := hd b.length ++ be (sumN (hd b.length)) 4 ++ b ++ be (sumN b) 4
theorem hd_length (n : Nat) : (hd n).length = 5 := by simp [hd, be_length]
theorem frm_length (b : List UInt8) : (frm b).length = b.length + 13 := by simp [frm, hd_length, be_length]; omega
def FrameR (b : List UInt8) : List UInt8 × Int := if b.length ≤ 16777216 then (frm b, 0) else ([], 31)

theorem wNum_fit {l : List UInt8} {n : Nat} {k : Nat} (h1 : 1 ≤ k) (h8 : k ≤ 8) (h : n < 256 ^ k) : wNum l 0 n k = (l ++ be n k, 0) := by
  have e : n / 2 ^ (8 * ((k : Int)).toNat) = 0 := by
    rw [Int.toNat_natCast, Nat.pow_mul]
    exact Nat.div_eq_of_lt h
  have c : 1 ≤ (k : Int) ∧ (k : Int) ≤ 8 ∧ ((k : Int) = 8 ∨ n / 2 ^ (8 * ((k : Int)).toNat) = 0) := ⟨by omega, by omega, .inr e⟩
  unfold wNum
  rw [if_pos rfl, if_pos c, Int.toNat_natCast]

/-- Bytes of the call's own, and an error. -/
def OwnErr (w w' : World) (r : Ending) (q : List UInt8 × Int) : Prop := ∃ v, r = .returned (.tuple #[v, .int .i64 q.2]) ∧ Own w' w.heap.size 5 1 v q.1.length (bys q.1) ∧ Below w.heap.size w w'

end Go.Proofs.YtcmllfnhdodbdaaGreatDoor
