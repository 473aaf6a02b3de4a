/- disk.named: whether a name may be a file's. -/
import Derived.Test.YtcmllfnhdodbdaaDoorTrim
import Derived.WalkKit
import Derived.WalkSpells
import Derived.WalkLawsBesides
import Derived.Lib.Hide
namespace Go.Proofs.YtcmllfnhdodbdaaDoor
set_option linter.unusedVariables false
set_option linter.unusedSimpArgs false
open Go.RowKit
/-- The bytes that a name may have. -/
def nmCs : List UInt8 := [97, 98, 99, 100, 101, 102, 103, 104, 105, 106, 107, 108, 109, 110, 111, 112, 113, 114, 115, 116, 117, 118, 119, 120, 121, 122, 48, 49, 50, 51, 52, 53, 54, 55, 56, 57, 46, 45, 95]
def nmOk (l : List UInt8) : Bool := !l.isEmpty && decide (l.length ≤ 64) && l.all (nmCs.contains ·)
theorem dropWhile_nil {α : Type} (p : α → Bool) : ∀ l : List α, (l.dropWhile p).isEmpty = l.all p
  | [] => rfl
  | x :: l => by
    cases h : p x
    · simp [List.dropWhile, h]
    · simp [List.dropWhile, h, dropWhile_nil p l]
theorem all_dropWhile {α : Type} (p : α → Bool) : ∀ l : List α, (l.dropWhile p).all p = l.all p
  | [] => rfl
  | x :: l => by
    cases h : p x
    · simp [List.dropWhile, h]
    · simp [List.dropWhile, h, all_dropWhile p l]
theorem trim_nil (l cs : List UInt8) : (Lib.trimS l cs).isEmpty = l.all (cs.contains ·) := by
  unfold Lib.trimS Lib.trimLeftS Lib.trimRightS
  rw [dropWhile_nil, List.all_reverse, all_dropWhile, List.all_reverse]
theorem named_trim (l : List UInt8) (w : World) (hs : l.length ≤ 9223372036854775807) :
    Calls Tryd.prog 49 #[.string ⟨l.toArray⟩, .string ⟨#[97, 98, 99, 100, 101, 102, 103, 104, 105, 106, 107, 108, 109, 110, 111, 112, 113, 114, 115, 116, 117, 118, 119, 120, 121, 122, 48, 49, 50, 51, 52, 53, 54, 55, 56, 57, 46, 45, 95]⟩] w (fun e w' => e = .returned (.string ⟨(Lib.trimS l nmCs).toArray⟩) ∧ Below w.heap.size w w') :=
  Any.strings_Trim_laid lays160 (by kernel_rfl) ⟨l.toArray⟩ ⟨#[97, 98, 99, 100, 101, 102, 103, 104, 105, 106, 107, 108, 109, 110, 111, 112, 113, 114, 115, 116, 117, 118, 119, 120, 121, 122, 48, 49, 50, 51, 52, 53, 54, 55, 56, 57, 46, 45, 95]⟩ w (by show l.toArray.size ≤ _; rw [List.size_toArray]; exact hs) (by decide) (ascii_of_all (by decide))
set_option maxRecDepth 100000 in
set_option maxHeartbeats 1000000 in
theorem named_calls (l : List UInt8) (w : World) (hs : l.length ≤ 9223372036854775807) :
    Calls Tryd.prog 36 #[.string ⟨l.toArray⟩] w fun r w' => r = .returned (.bool (nmOk l)) ∧ Below w.heap.size w w' := by
  cases l with
  | nil =>
    rw [show nmOk [] = false from rfl]
    go_enter Tryd.func36, Tryd.ntmps36
    go_wp2
    go_ret
    exact ⟨rfl, Below.refl _ _⟩
  | cons c l =>
    obtain ⟨m, hm⟩ : ∃ m, c :: l = m := ⟨_, rfl⟩
    have t0 : m.isEmpty = false := by rw [← hm]; rfl
    have t0' : ¬ m = [] := by rw [← hm]; simp
    rw [hm] at hs ⊢
    clear hm
    by_cases c1 : m.length ≤ 64
    · have t1 : decide ((m.length : Int) ≤ 64) = true := decide_eq_true (by omega)
      have t1' : decide (m.length ≤ 64) = true := decide_eq_true c1
      have e : nmOk m = (Lib.trimS m nmCs).isEmpty := by rw [trim_nil]; unfold nmOk; rw [t0, decide_eq_true c1]; simp
      rw [e]
      have hcon := named_trim m w hs
      generalize Lib.trimS m nmCs = q at *
      have HC := Lib.hid hcon
      clear hcon e
      cases q with
      | nil =>
        go_enter Tryd.func36, Tryd.ntmps36
        go_wp2_with (go_at_call 49; refine HC.out.mono ?_; rintro r w' ⟨rfl, hB⟩)
        go_ret
        exact ⟨rfl, hB⟩
      | cons x q =>
        go_enter Tryd.func36, Tryd.ntmps36
        go_wp2_with (go_at_call 49; refine HC.out.mono ?_; rintro r w' ⟨rfl, hB⟩)
        go_ret
        exact ⟨by simp, hB⟩
    · have t1 : decide ((m.length : Int) ≤ 64) = false := decide_eq_false (by omega)
      have t1' : decide (m.length ≤ 64) = false := decide_eq_false c1
      have e : nmOk m = false := by unfold nmOk; rw [decide_eq_false c1]; simp
      rw [e]
      clear e
      go_enter Tryd.func36, Tryd.ntmps36
      go_wp2
      go_ret
      exact ⟨rfl, Below.refl _ _⟩
end Go.Proofs.YtcmllfnhdodbdaaDoor
