/- disk.named: whether a name may be a file's. -/
import Derived.Test.YtcmllfnhdodbdaaDoorProg
import Derived.WalkKit
import Derived.Ground.NamesProg
import Derived.Shelf.Strings.SlTrimAscii
import Derived.Conc.RwLib
import Derived.Conc.MuData
import Derived.KernelRfl
import Derived.WalkSpells
import Derived.WalkLawsBesides
import Derived.Lib.Hide
/- The shelf's contracts at this program: which numbers its functions and types bear (printed by the kit's lay-plain, turned into a template by detpl.py). -/
namespace Go.Proofs.YtcmllfnhdodbdaaDoor
set_option linter.unusedVariables false
set_option linter.unusedSimpArgs false
open Go.Shelf
def lays160_ren : Go.Shelf.Ren := ⟨fun | 160 => 49 | 232 => 63 | 231 => 62 | 227 => 64 | 234 => 66 | 233 => 65 | 236 => 68 | 235 => 67 | 228 => 78 | 271 => 81 | 151 => 80 | 197 => 79 | 120 => 95 | 152 => 94 | 260 => 93 | 137 => 102 | 119 => 103 | 224 => 104 | 225 => 105 | 217 => 107 | 266 => 108 | n => n, fun | 9 => 9 | 4 => 4 | 3 => 3 | 5 => 5 | 117 => 100 | 116 => 99 | 0 => 0 | 124 => 103 | 21 => 21 | 105 => 112 | 46 => 106 | 119 => 134 | 139 => 137 | 138 => 136 | n => n, fun | 3 => 0 | 4 => 1 | n => n⟩
theorem lays160 : Go.Proofs.Lays.n160 Tryd.prog lays160_ren := {
  mixed := by kernel_rfl
  f119 := Tryd.func103.trans (congrArg some (by kernel_rfl))
  f120 := Tryd.func95.trans (congrArg some (by kernel_rfl))
  f137 := Tryd.func102.trans (congrArg some (by kernel_rfl))
  f151 := Tryd.func80.trans (congrArg some (by kernel_rfl))
  f152 := Tryd.func94.trans (congrArg some (by kernel_rfl))
  f160 := Tryd.func49.trans (congrArg some (by kernel_rfl))
  f197 := Tryd.func79.trans (congrArg some (by kernel_rfl))
  f217 := Tryd.func107.trans (congrArg some (by kernel_rfl))
  f224 := Tryd.func104.trans (congrArg some (by kernel_rfl))
  f225 := Tryd.func105.trans (congrArg some (by kernel_rfl))
  f227 := Tryd.func64.trans (congrArg some (by kernel_rfl))
  f228 := Tryd.func78.trans (congrArg some (by kernel_rfl))
  f231 := Tryd.func62.trans (congrArg some (by kernel_rfl))
  f232 := Tryd.func63.trans (congrArg some (by kernel_rfl))
  f233 := Tryd.func65.trans (congrArg some (by kernel_rfl))
  f234 := Tryd.func66.trans (congrArg some (by kernel_rfl))
  f235 := Tryd.func67.trans (congrArg some (by kernel_rfl))
  f236 := Tryd.func68.trans (congrArg some (by kernel_rfl))
  f260 := Tryd.func93.trans (congrArg some (by kernel_rfl))
  f266 := Tryd.func108.trans (congrArg some (by kernel_rfl))
  f271 := Tryd.func81.trans (congrArg some (by kernel_rfl))
  t0 := Tryd.underlying0
  a0 := Tryd.isAgg0
  z0 := Tryd.sizeOf0
  v0 := Tryd.zeroValue0
  t3 := Tryd.underlying3
  a3 := Tryd.isAgg3
  z3 := Tryd.sizeOf3
  v3 := Tryd.zeroValue3
  t4 := Tryd.underlying4
  a4 := Tryd.isAgg4
  z4 := Tryd.sizeOf4
  v4 := Tryd.zeroValue4
  t5 := Tryd.underlying5
  a5 := Tryd.isAgg5
  z5 := Tryd.sizeOf5
  v5 := Tryd.zeroValue5
  t9 := Tryd.underlying9
  a9 := Tryd.isAgg9
  z9 := Tryd.sizeOf9
  v9 := Tryd.zeroValue9
  t21 := Tryd.underlying21
  a21 := Tryd.isAgg21
  z21 := Tryd.sizeOf21
  v21 := Tryd.zeroValue21
  t46 := Tryd.underlying106
  a46 := Tryd.isAgg106
  z46 := Tryd.sizeOf106
  v46 := Tryd.zeroValue106
  t105 := Tryd.underlying112
  a105 := Tryd.isAgg112
  z105 := Tryd.sizeOf112
  v105 := Tryd.zeroValue112
  t116 := Tryd.underlying99
  a116 := Tryd.isAgg99
  z116 := Tryd.sizeOf99
  t117 := Tryd.underlying100
  a117 := Tryd.isAgg100
  z117 := Tryd.sizeOf100
  v117 := Tryd.zeroValue100
  t119 := Tryd.underlying134
  a119 := Tryd.isAgg134
  z119 := Tryd.sizeOf134
  t124 := Tryd.underlying103
  a124 := Tryd.isAgg103
  z124 := Tryd.sizeOf103
  v124 := Tryd.zeroValue103
  t138 := Tryd.underlying136
  a138 := Tryd.isAgg136
  z138 := Tryd.sizeOf136
  v138 := Tryd.zeroValue136
  t139 := Tryd.underlying137
  a139 := Tryd.isAgg137
  z139 := Tryd.sizeOf137
  v139 := Tryd.zeroValue137
  g3 := by kernel_rfl
  g4 := by kernel_rfl }
end Go.Proofs.YtcmllfnhdodbdaaDoor
/- Where this program holds the library's lock. -/
namespace Go.Proofs.YtcmllfnhdodbdaaDoor
abbrev muLink : Go.Conc.Locks.MuLink := { lock := 29, unlock := 30, ilock := 47, iunlock := 48, lockSlow := 58, unlockSlow := 61, disable := 54, enable := 56, acquire := 57, relMerge := 59, cas32 := 55, add32 := 60, tMutex := 70, tIMutex := 68, tPMutex := 86, tPIMutex := 90, tPI32 := 92, tUP := 94, tNoCopy := 65, tU32 := 66 }
theorem muLib : Go.Conc.Locks.MuLib Tryd.prog muLink :=
  ⟨Tryd.func29, Tryd.func30, Tryd.func47, Tryd.func48, Tryd.func54, Tryd.func56, Tryd.func57, Tryd.func59, Tryd.func55, Tryd.func60,
    Tryd.underlying68, Tryd.runUnderlying68, Tryd.sizeOf68, Tryd.isAgg68, Tryd.zeroValue68,
    Tryd.underlying70, Tryd.runUnderlying70, Tryd.sizeOf70, Tryd.isAgg70, Tryd.zeroValue70,
    Tryd.underlying86, Tryd.runUnderlying86, Tryd.sizeOf86, Tryd.isAgg86, Tryd.zeroValue86,
    Tryd.underlying90, Tryd.runUnderlying90, Tryd.sizeOf90, Tryd.isAgg90, Tryd.zeroValue90,
    Tryd.underlying92, Tryd.runUnderlying92, Tryd.sizeOf92, Tryd.isAgg92, Tryd.zeroValue92,
    Tryd.underlying94, Tryd.runUnderlying94, Tryd.sizeOf94, Tryd.isAgg94, Tryd.zeroValue94,
    Tryd.underlying65, Tryd.runUnderlying65, Tryd.sizeOf65, Tryd.isAgg65, Tryd.zeroValue65,
    Tryd.underlying21, Tryd.runUnderlying21, Tryd.sizeOf21, Tryd.isAgg21, Tryd.zeroValue21, (by kernel_rfl)⟩
theorem muData : Go.Conc.Locks.MuData Tryd.prog muLink := ⟨Tryd.underlying66, by kernel_rfl, by kernel_rfl, by kernel_rfl, by kernel_rfl, by kernel_rfl⟩
end Go.Proofs.YtcmllfnhdodbdaaDoor
namespace Go.Proofs.YtcmllfnhdodbdaaDoor
open Go.RowKit
/-- The bytes that a name may have. -/
def nmCs : List UInt8 := [97, 98, 99, 100, 101, 102, 103, 104, 105, 106, 107, 108, 109, 110, 111, 112, 113, 114, 115, 116, 117, 118, 119, 120, 121, 122, 48, 49, 50, 51, 52, 53, 54, 55, 56, 57, 46, 45, 95]
def nmOk (l : List UInt8) : Bool := !l.isEmpty && decide (l.length ≤ 64) && l.all (nmCs.contains ·)
theorem dropWhile_nil {α : Type} (p : α → Bool) : ∀ l : List α, (l.dropWhile p).isEmpty = l.all p
  | [] => rfl
  | x :: l => by
    cases h : p x
    · simp [List.dropWhile, h]
    · simp [List.dropWhile, h, dropWhile_nil p l]
theorem all_dropWhile {α : Type} (p : α → Bool) : ∀ l : List α, (l.dropWhile p).all p = l.all p
  | [] => rfl
  | x :: l => by
    cases h : p x
    · simp [List.dropWhile, h]
    · simp [List.dropWhile, h, all_dropWhile p l]
theorem trim_nil (l cs : List UInt8) : (Lib.trimS l cs).isEmpty = l.all (cs.contains ·) := by
  unfold Lib.trimS Lib.trimLeftS Lib.trimRightS
  rw [dropWhile_nil, List.all_reverse, all_dropWhile, List.all_reverse]
theorem named_trim (l : List UInt8) (w : World) (hs : l.length ≤ 9223372036854775807) :
    Calls Tryd.prog 49 #[.string ⟨l.toArray⟩, .string ⟨#[97, 98, 99, 100, 101, 102, 103, 104, 105, 106, 107, 108, 109, 110, 111, 112, 113, 114, 115, 116, 117, 118, 119, 120, 121, 122, 48, 49, 50, 51, 52, 53, 54, 55, 56, 57, 46, 45, 95]⟩] w (fun e w' => e = .returned (.string ⟨(Lib.trimS l nmCs).toArray⟩) ∧ Below w.heap.size w w') :=
  Any.strings_Trim_laid lays160 (by kernel_rfl) ⟨l.toArray⟩ ⟨#[97, 98, 99, 100, 101, 102, 103, 104, 105, 106, 107, 108, 109, 110, 111, 112, 113, 114, 115, 116, 117, 118, 119, 120, 121, 122, 48, 49, 50, 51, 52, 53, 54, 55, 56, 57, 46, 45, 95]⟩ w (by show l.toArray.size ≤ _; rw [List.size_toArray]; exact hs) (by decide) (ascii_of_all (by decide))
set_option maxRecDepth 100000 in
set_option maxHeartbeats 1000000 in
theorem named_calls (l : List UInt8) (w : World) (hs : l.length ≤ 9223372036854775807) :
    Calls Tryd.prog 36 #[.string ⟨l.toArray⟩] w fun r w' => r = .returned (.bool (nmOk l)) ∧ Below w.heap.size w w' := by
  cases l with
  | nil =>
    rw [show nmOk [] = false from rfl]
    go_enter Tryd.func36, Tryd.ntmps36
    go_wp2
    go_ret
    exact ⟨rfl, Below.refl _ _⟩
  | cons c l =>
    obtain ⟨m, hm⟩ : ∃ m, c :: l = m := ⟨_, rfl⟩
    have t0 : m.isEmpty = false := by rw [← hm]; rfl
    have t0' : ¬ m = [] := by rw [← hm]; simp
    rw [hm] at hs ⊢
    clear hm
    by_cases c1 : m.length ≤ 64
    · have t1 : decide ((m.length : Int) ≤ 64) = true := decide_eq_true (by omega)
      have t1' : decide (m.length ≤ 64) = true := decide_eq_true c1
      have e : nmOk m = (Lib.trimS m nmCs).isEmpty := by rw [trim_nil]; unfold nmOk; rw [t0, decide_eq_true c1]; simp
      rw [e]
      have hcon := named_trim m w hs
      generalize Lib.trimS m nmCs = q at *
      have HC := Lib.hid hcon
      clear hcon e
      cases q with
      | nil =>
        go_enter Tryd.func36, Tryd.ntmps36
        go_wp2_with (go_at_call 49; refine HC.out.mono ?_; rintro r w' ⟨rfl, hB⟩)
        go_ret
        exact ⟨rfl, hB⟩
      | cons x q =>
        go_enter Tryd.func36, Tryd.ntmps36
        go_wp2_with (go_at_call 49; refine HC.out.mono ?_; rintro r w' ⟨rfl, hB⟩)
        go_ret
        exact ⟨by simp, hB⟩
    · have t1 : decide ((m.length : Int) ≤ 64) = false := decide_eq_false (by omega)
      have t1' : decide (m.length ≤ 64) = false := decide_eq_false c1
      have e : nmOk m = false := by unfold nmOk; rw [decide_eq_false c1]; simp
      rw [e]
      clear e
      go_enter Tryd.func36, Tryd.ntmps36
      go_wp2
      go_ret
      exact ⟨rfl, Below.refl _ _⟩
end Go.Proofs.YtcmllfnhdodbdaaDoor
