/- disk.named: whether a name may be a file's. -/
import Derived.Test.YtnbpkignkfabkaaDoorProg
import Derived.WalkKit
import Derived.Ground.NamesProg
import Derived.Shelf.Strings.SlTrimAscii
import Derived.Conc.RwLib
import Derived.Conc.MuData
import Derived.KernelRfl
import Derived.WalkSpells
import Derived.WalkLawsBesides
import Derived.Lib.Hide
/- The shelf's contracts at this program: which numbers its functions and types bear (printed by the kit's lay-plain, turned into a template by detpl.py). -/
namespace Go.Proofs.YtnbpkignkfabkaaDoor
set_option linter.unusedVariables false
set_option linter.unusedSimpArgs false
open Go.Shelf
def lays160_ren : Go.Shelf.Ren := ⟨fun | 160 => 47 | 232 => 59 | 231 => 58 | 227 => 60 | 234 => 62 | 233 => 61 | 236 => 64 | 235 => 63 | 228 => 73 | 271 => 76 | 151 => 75 | 197 => 74 | 120 => 81 | 152 => 80 | 260 => 79 | 137 => 93 | 119 => 94 | 224 => 95 | 225 => 96 | 217 => 103 | 266 => 105 | n => n, fun | 9 => 9 | 4 => 4 | 3 => 3 | 5 => 5 | 117 => 109 | 116 => 108 | 0 => 0 | 124 => 112 | 21 => 21 | 105 => 119 | 46 => 96 | 119 => 136 | 139 => 139 | 138 => 138 | n => n, fun | 3 => 1 | 4 => 2 | n => n⟩
theorem lays160 : Go.Proofs.Lays.n160 Tryd.prog lays160_ren := {
  mixed := by kernel_rfl
  f119 := Tryd.func94.trans (congrArg some (by kernel_rfl))
  f120 := Tryd.func81.trans (congrArg some (by kernel_rfl))
  f137 := Tryd.func93.trans (congrArg some (by kernel_rfl))
  f151 := Tryd.func75.trans (congrArg some (by kernel_rfl))
  f152 := Tryd.func80.trans (congrArg some (by kernel_rfl))
  f160 := Tryd.func47.trans (congrArg some (by kernel_rfl))
  f197 := Tryd.func74.trans (congrArg some (by kernel_rfl))
  f217 := Tryd.func103.trans (congrArg some (by kernel_rfl))
  f224 := Tryd.func95.trans (congrArg some (by kernel_rfl))
  f225 := Tryd.func96.trans (congrArg some (by kernel_rfl))
  f227 := Tryd.func60.trans (congrArg some (by kernel_rfl))
  f228 := Tryd.func73.trans (congrArg some (by kernel_rfl))
  f231 := Tryd.func58.trans (congrArg some (by kernel_rfl))
  f232 := Tryd.func59.trans (congrArg some (by kernel_rfl))
  f233 := Tryd.func61.trans (congrArg some (by kernel_rfl))
  f234 := Tryd.func62.trans (congrArg some (by kernel_rfl))
  f235 := Tryd.func63.trans (congrArg some (by kernel_rfl))
  f236 := Tryd.func64.trans (congrArg some (by kernel_rfl))
  f260 := Tryd.func79.trans (congrArg some (by kernel_rfl))
  f266 := Tryd.func105.trans (congrArg some (by kernel_rfl))
  f271 := Tryd.func76.trans (congrArg some (by kernel_rfl))
  t0 := Tryd.underlying0
  a0 := Tryd.isAgg0
  z0 := Tryd.sizeOf0
  v0 := Tryd.zeroValue0
  t3 := Tryd.underlying3
  a3 := Tryd.isAgg3
  z3 := Tryd.sizeOf3
  v3 := Tryd.zeroValue3
  t4 := Tryd.underlying4
  a4 := Tryd.isAgg4
  z4 := Tryd.sizeOf4
  v4 := Tryd.zeroValue4
  t5 := Tryd.underlying5
  a5 := Tryd.isAgg5
  z5 := Tryd.sizeOf5
  v5 := Tryd.zeroValue5
  t9 := Tryd.underlying9
  a9 := Tryd.isAgg9
  z9 := Tryd.sizeOf9
  v9 := Tryd.zeroValue9
  t21 := Tryd.underlying21
  a21 := Tryd.isAgg21
  z21 := Tryd.sizeOf21
  v21 := Tryd.zeroValue21
  t46 := Tryd.underlying96
  a46 := Tryd.isAgg96
  z46 := Tryd.sizeOf96
  v46 := Tryd.zeroValue96
  t105 := Tryd.underlying119
  a105 := Tryd.isAgg119
  z105 := Tryd.sizeOf119
  v105 := Tryd.zeroValue119
  t116 := Tryd.underlying108
  a116 := Tryd.isAgg108
  z116 := Tryd.sizeOf108
  t117 := Tryd.underlying109
  a117 := Tryd.isAgg109
  z117 := Tryd.sizeOf109
  v117 := Tryd.zeroValue109
  t119 := Tryd.underlying136
  a119 := Tryd.isAgg136
  z119 := Tryd.sizeOf136
  t124 := Tryd.underlying112
  a124 := Tryd.isAgg112
  z124 := Tryd.sizeOf112
  v124 := Tryd.zeroValue112
  t138 := Tryd.underlying138
  a138 := Tryd.isAgg138
  z138 := Tryd.sizeOf138
  v138 := Tryd.zeroValue138
  t139 := Tryd.underlying139
  a139 := Tryd.isAgg139
  z139 := Tryd.sizeOf139
  v139 := Tryd.zeroValue139
  g3 := by kernel_rfl
  g4 := by kernel_rfl }
end Go.Proofs.YtnbpkignkfabkaaDoor
/- Where this program holds the library's lock. -/
namespace Go.Proofs.YtnbpkignkfabkaaDoor
abbrev muLink : Go.Conc.Locks.MuLink := { lock := 30, unlock := 31, ilock := 45, iunlock := 46, lockSlow := 54, unlockSlow := 57, disable := 50, enable := 52, acquire := 53, relMerge := 55, cas32 := 51, add32 := 56, tMutex := 74, tIMutex := 72, tPMutex := 92, tPIMutex := 99, tPI32 := 101, tUP := 103, tNoCopy := 69, tU32 := 70 }
theorem muLib : Go.Conc.Locks.MuLib Tryd.prog muLink :=
  ⟨Tryd.func30, Tryd.func31, Tryd.func45, Tryd.func46, Tryd.func50, Tryd.func52, Tryd.func53, Tryd.func55, Tryd.func51, Tryd.func56,
    Tryd.underlying72, Tryd.runUnderlying72, Tryd.sizeOf72, Tryd.isAgg72, Tryd.zeroValue72,
    Tryd.underlying74, Tryd.runUnderlying74, Tryd.sizeOf74, Tryd.isAgg74, Tryd.zeroValue74,
    Tryd.underlying92, Tryd.runUnderlying92, Tryd.sizeOf92, Tryd.isAgg92, Tryd.zeroValue92,
    Tryd.underlying99, Tryd.runUnderlying99, Tryd.sizeOf99, Tryd.isAgg99, Tryd.zeroValue99,
    Tryd.underlying101, Tryd.runUnderlying101, Tryd.sizeOf101, Tryd.isAgg101, Tryd.zeroValue101,
    Tryd.underlying103, Tryd.runUnderlying103, Tryd.sizeOf103, Tryd.isAgg103, Tryd.zeroValue103,
    Tryd.underlying69, Tryd.runUnderlying69, Tryd.sizeOf69, Tryd.isAgg69, Tryd.zeroValue69,
    Tryd.underlying21, Tryd.runUnderlying21, Tryd.sizeOf21, Tryd.isAgg21, Tryd.zeroValue21, (by kernel_rfl)⟩
theorem muData : Go.Conc.Locks.MuData Tryd.prog muLink := ⟨Tryd.underlying70, by kernel_rfl, by kernel_rfl, by kernel_rfl, by kernel_rfl, by kernel_rfl⟩
end Go.Proofs.YtnbpkignkfabkaaDoor
namespace Go.Proofs.YtnbpkignkfabkaaDoor
open Go.RowKit
/-- The bytes that a name may have. -/
def nmCs : List UInt8 := [97, 98, 99, 100, 101, 102, 103, 104, 105, 106, 107, 108, 109, 110, 111, 112, 113, 114, 115, 116, 117, 118, 119, 120, 121, 122, 48, 49, 50, 51, 52, 53, 54, 55, 56, 57, 46, 45, 95]
def nmOk (l : List UInt8) : Bool := !l.isEmpty && decide (l.length ≤ 64) && l.all (nmCs.contains ·)
theorem dropWhile_nil {α : Type} (p : α → Bool) : ∀ l : List α, (l.dropWhile p).isEmpty = l.all p
  | [] => rfl
  | x :: l => by
    cases h : p x
    · simp [List.dropWhile, h]
    · simp [List.dropWhile, h, dropWhile_nil p l]
theorem all_dropWhile {α : Type} (p : α → Bool) : ∀ l : List α, (l.dropWhile p).all p = l.all p
  | [] => rfl
  | x :: l => by
    cases h : p x
    · simp [List.dropWhile, h]
    · simp [List.dropWhile, h, all_dropWhile p l]
theorem trim_nil (l cs : List UInt8) : (Lib.trimS l cs).isEmpty = l.all (cs.contains ·) := by
  unfold Lib.trimS Lib.trimLeftS Lib.trimRightS
  rw [dropWhile_nil, List.all_reverse, all_dropWhile, List.all_reverse]
theorem named_trim (l : List UInt8) (w : World) (hs : l.length ≤ 9223372036854775807) :
    Calls Tryd.prog 47 #[.string ⟨l.toArray⟩, .string ⟨#[97, 98, 99, 100, 101, 102, 103, 104, 105, 106, 107, 108, 109, 110, 111, 112, 113, 114, 115, 116, 117, 118, 119, 120, 121, 122, 48, 49, 50, 51, 52, 53, 54, 55, 56, 57, 46, 45, 95]⟩] w (fun e w' => e = .returned (.string ⟨(Lib.trimS l nmCs).toArray⟩) ∧ Below w.heap.size w w') :=
  Any.strings_Trim_laid lays160 (by kernel_rfl) ⟨l.toArray⟩ ⟨#[97, 98, 99, 100, 101, 102, 103, 104, 105, 106, 107, 108, 109, 110, 111, 112, 113, 114, 115, 116, 117, 118, 119, 120, 121, 122, 48, 49, 50, 51, 52, 53, 54, 55, 56, 57, 46, 45, 95]⟩ w (by show l.toArray.size ≤ _; rw [List.size_toArray]; exact hs) (by decide) (ascii_of_all (by decide))
set_option maxRecDepth 100000 in
set_option maxHeartbeats 1000000 in
theorem named_calls (l : List UInt8) (w : World) (hs : l.length ≤ 9223372036854775807) :
    Calls Tryd.prog 34 #[.string ⟨l.toArray⟩] w fun r w' => r = .returned (.bool (nmOk l)) ∧ Below w.heap.size w w' := by
  cases l with
  | nil =>
    rw [show nmOk [] = false from rfl]
    go_enter Tryd.func34, Tryd.ntmps34
    go_wp2
    go_ret
    exact ⟨rfl, Below.refl _ _⟩
  | cons c l =>
    obtain ⟨m, hm⟩ : ∃ m, c :: l = m := ⟨_, rfl⟩
    have t0 : m.isEmpty = false := by rw [← hm]; rfl
    have t0' : ¬ m = [] := by rw [← hm]; simp
    rw [hm] at hs ⊢
    clear hm
    by_cases c1 : m.length ≤ 64
    · have t1 : decide ((m.length : Int) ≤ 64) = true := decide_eq_true (by omega)
      have t1' : decide (m.length ≤ 64) = true := decide_eq_true c1
      have e : nmOk m = (Lib.trimS m nmCs).isEmpty := by rw [trim_nil]; unfold nmOk; rw [t0, decide_eq_true c1]; simp
      rw [e]
      have hcon := named_trim m w hs
      generalize Lib.trimS m nmCs = q at *
      have HC := Lib.hid hcon
      clear hcon e
      cases q with
      | nil =>
        go_enter Tryd.func34, Tryd.ntmps34
        go_wp2_with (go_at_call 47; refine HC.out.mono ?_; rintro r w' ⟨rfl, hB⟩)
        go_ret
        exact ⟨rfl, hB⟩
      | cons x q =>
        go_enter Tryd.func34, Tryd.ntmps34
        go_wp2_with (go_at_call 47; refine HC.out.mono ?_; rintro r w' ⟨rfl, hB⟩)
        go_ret
        exact ⟨by simp, hB⟩
    · have t1 : decide ((m.length : Int) ≤ 64) = false := decide_eq_false (by omega)
      have t1' : decide (m.length ≤ 64) = false := decide_eq_false c1
      have e : nmOk m = false := by unfold nmOk; rw [decide_eq_false c1]; simp
      rw [e]
      clear e
      go_enter Tryd.func34, Tryd.ntmps34
      go_wp2
      go_ret
      exact ⟨rfl, Below.refl _ _⟩
end Go.Proofs.YtnbpkignkfabkaaDoor
