/- How many writes a write counts. -/
import Derived.Test.YtnbpkignkfabkaaGreatDoorProg
import Derived.WalkKit
import Derived.Ground.NamesProg
import Derived.Shelf.Strings.SlTrimAscii
import Derived.Conc.RwLib
import Derived.Conc.MuData
import Derived.KernelRfl
import Derived.WalkSpells
import Derived.WalkLawsBesides
import Derived.Lib.Hide
/- What a disk answers, in plain words: a state and what each call makes of it. -/
/- disk.named: whether a name may be a file's. -/
/- The shelf's contracts at this program: which numbers its functions and types bear (printed by the kit's lay-plain, turned into a template by detpl.py). -/
namespace Go.Proofs.YtnbpkignkfabkaaGreatDoor
set_option linter.unusedVariables false
set_option linter.unusedSimpArgs false
open Go.Shelf
def lays160_ren : Go.Shelf.Ren := ⟨fun | 160 => 100 | 232 => 150 | 231 => 149 | 227 => 151 | 234 => 153 | 233 => 152 | 236 => 155 | 235 => 154 | 228 => 170 | 271 => 173 | 151 => 172 | 197 => 171 | 120 => 194 | 152 => 193 | 260 => 192 | 137 => 201 | 119 => 202 | 224 => 203 | 225 => 204 | 217 => 206 | 266 => 207 | n => n, fun | 9 => 9 | 4 => 4 | 3 => 3 | 5 => 5 | 117 => 254 | 116 => 253 | 0 => 0 | 124 => 257 | 21 => 21 | 105 => 271 | 46 => 222 | 119 => 294 | 139 => 297 | 138 => 296 | n => n, fun | 3 => 1 | 4 => 2 | n => n⟩
theorem lays160 : Go.Proofs.Lays.n160 Tryz.prog lays160_ren := {
  mixed := by kernel_rfl
  f119 := Tryz.func202.trans (congrArg some (by kernel_rfl))
  f120 := Tryz.func194.trans (congrArg some (by kernel_rfl))
  f137 := Tryz.func201.trans (congrArg some (by kernel_rfl))
  f151 := Tryz.func172.trans (congrArg some (by kernel_rfl))
  f152 := Tryz.func193.trans (congrArg some (by kernel_rfl))
  f160 := Tryz.func100.trans (congrArg some (by kernel_rfl))
  f197 := Tryz.func171.trans (congrArg some (by kernel_rfl))
  f217 := Tryz.func206.trans (congrArg some (by kernel_rfl))
  f224 := Tryz.func203.trans (congrArg some (by kernel_rfl))
  f225 := Tryz.func204.trans (congrArg some (by kernel_rfl))
  f227 := Tryz.func151.trans (congrArg some (by kernel_rfl))
  f228 := Tryz.func170.trans (congrArg some (by kernel_rfl))
  f231 := Tryz.func149.trans (congrArg some (by kernel_rfl))
  f232 := Tryz.func150.trans (congrArg some (by kernel_rfl))
  f233 := Tryz.func152.trans (congrArg some (by kernel_rfl))
  f234 := Tryz.func153.trans (congrArg some (by kernel_rfl))
  f235 := Tryz.func154.trans (congrArg some (by kernel_rfl))
  f236 := Tryz.func155.trans (congrArg some (by kernel_rfl))
  f260 := Tryz.func192.trans (congrArg some (by kernel_rfl))
  f266 := Tryz.func207.trans (congrArg some (by kernel_rfl))
  f271 := Tryz.func173.trans (congrArg some (by kernel_rfl))
  t0 := Tryz.underlying0
  a0 := Tryz.isAgg0
  z0 := Tryz.sizeOf0
  v0 := Tryz.zeroValue0
  t3 := Tryz.underlying3
  a3 := Tryz.isAgg3
  z3 := Tryz.sizeOf3
  v3 := Tryz.zeroValue3
  t4 := Tryz.underlying4
  a4 := Tryz.isAgg4
  z4 := Tryz.sizeOf4
  v4 := Tryz.zeroValue4
  t5 := Tryz.underlying5
  a5 := Tryz.isAgg5
  z5 := Tryz.sizeOf5
  v5 := Tryz.zeroValue5
  t9 := Tryz.underlying9
  a9 := Tryz.isAgg9
  z9 := Tryz.sizeOf9
  v9 := Tryz.zeroValue9
  t21 := Tryz.underlying21
  a21 := Tryz.isAgg21
  z21 := Tryz.sizeOf21
  v21 := Tryz.zeroValue21
  t46 := Tryz.underlying222
  a46 := Tryz.isAgg222
  z46 := Tryz.sizeOf222
  v46 := Tryz.zeroValue222
  t105 := Tryz.underlying271
  a105 := Tryz.isAgg271
  z105 := Tryz.sizeOf271
  v105 := Tryz.zeroValue271
  t116 := Tryz.underlying253
  a116 := Tryz.isAgg253
  z116 := Tryz.sizeOf253
  t117 := Tryz.underlying254
  a117 := Tryz.isAgg254
  z117 := Tryz.sizeOf254
  v117 := Tryz.zeroValue254
  t119 := Tryz.underlying294
  a119 := Tryz.isAgg294
  z119 := Tryz.sizeOf294
  t124 := Tryz.underlying257
  a124 := Tryz.isAgg257
  z124 := Tryz.sizeOf257
  v124 := Tryz.zeroValue257
  t138 := Tryz.underlying296
  a138 := Tryz.isAgg296
  z138 := Tryz.sizeOf296
  v138 := Tryz.zeroValue296
  t139 := Tryz.underlying297
  a139 := Tryz.isAgg297
  z139 := Tryz.sizeOf297
  v139 := Tryz.zeroValue297
  g3 := by kernel_rfl
  g4 := by kernel_rfl }
end Go.Proofs.YtnbpkignkfabkaaGreatDoor
/- Where this program holds the library's lock. -/
namespace Go.Proofs.YtnbpkignkfabkaaGreatDoor
set_option linter.unusedVariables false
set_option linter.unusedSimpArgs false
abbrev muLink : Go.Conc.Locks.MuLink := { lock := 54, unlock := 55, ilock := 113, iunlock := 114, lockSlow := 161, unlockSlow := 164, disable := 157, enable := 159, acquire := 160, relMerge := 162, cas32 := 158, add32 := 163, tMutex := 112, tIMutex := 110, tPMutex := 159, tPIMutex := 260, tPI32 := 262, tUP := 264, tNoCopy := 107, tU32 := 108 }
theorem muLib : Go.Conc.Locks.MuLib Tryz.prog muLink :=
  ⟨Tryz.func54, Tryz.func55, Tryz.func113, Tryz.func114, Tryz.func157, Tryz.func159, Tryz.func160, Tryz.func162, Tryz.func158, Tryz.func163,
    Tryz.underlying110, Tryz.runUnderlying110, Tryz.sizeOf110, Tryz.isAgg110, Tryz.zeroValue110,
    Tryz.underlying112, Tryz.runUnderlying112, Tryz.sizeOf112, Tryz.isAgg112, Tryz.zeroValue112,
    Tryz.underlying159, Tryz.runUnderlying159, Tryz.sizeOf159, Tryz.isAgg159, Tryz.zeroValue159,
    Tryz.underlying260, Tryz.runUnderlying260, Tryz.sizeOf260, Tryz.isAgg260, Tryz.zeroValue260,
    Tryz.underlying262, Tryz.runUnderlying262, Tryz.sizeOf262, Tryz.isAgg262, Tryz.zeroValue262,
    Tryz.underlying264, Tryz.runUnderlying264, Tryz.sizeOf264, Tryz.isAgg264, Tryz.zeroValue264,
    Tryz.underlying107, Tryz.runUnderlying107, Tryz.sizeOf107, Tryz.isAgg107, Tryz.zeroValue107,
    Tryz.underlying21, Tryz.runUnderlying21, Tryz.sizeOf21, Tryz.isAgg21, Tryz.zeroValue21, (by kernel_rfl)⟩
theorem muData : Go.Conc.Locks.MuData Tryz.prog muLink := ⟨Tryz.underlying108, by kernel_rfl, by kernel_rfl, by kernel_rfl, by kernel_rfl, by kernel_rfl⟩
end Go.Proofs.YtnbpkignkfabkaaGreatDoor
namespace Go.Proofs.YtnbpkignkfabkaaGreatDoor
set_option linter.unusedVariables false
set_option linter.unusedSimpArgs false
open Go.RowKit
/-- The bytes that a name may have. -/
def nmCs : List UInt8 := [97, 98, 99, 100, 101, 102, 103, 104, 105, 106, 107, 108, 109, 110, 111, 112, 113, 114, 115, 116, 117, 118, 119, 120, 121, 122, 48, 49, 50, 51, 52, 53, 54, 55, 56, 57, 46, 45, 95]
def nmOk (l : List UInt8) : Bool := !l.isEmpty && decide (l.length ≤ 64) && l.all (nmCs.contains ·)
theorem dropWhile_nil {α : Type} (p : α → Bool) : ∀ l : List α, (l.dropWhile p).isEmpty = l.all p
  | [] => rfl
  | x :: l => by
    cases h : p x
    · simp [List.dropWhile, h]
    · simp [List.dropWhile, h, dropWhile_nil p l]
theorem all_dropWhile {α : Type} (p : α → Bool) : ∀ l : List α, (l.dropWhile p).all p = l.all p
  | [] => rfl
  | x :: l => by
    cases h : p x
    · simp [List.dropWhile, h]
    · simp [List.dropWhile, h, all_dropWhile p l]
theorem trim_nil (l cs : List UInt8) : (Lib.trimS l cs).isEmpty = l.all (cs.contains ·) := by
  unfold Lib.trimS Lib.trimLeftS Lib.trimRightS
  rw [dropWhile_nil, List.all_reverse, all_dropWhile, List.all_reverse]
theorem named_trim (l : List UInt8) (w : World) (hs : l.length ≤ 9223372036854775807) :
    Calls Tryz.prog 100 #[.string ⟨l.toArray⟩, .string ⟨#[97, 98, 99, 100, 101, 102, 103, 104, 105, 106, 107, 108, 109, 110, 111, 112, 113, 114, 115, 116, 117, 118, 119, 120, 121, 122, 48, 49, 50, 51, 52, 53, 54, 55, 56, 57, 46, 45, 95]⟩] w (fun e w' => e = .returned (.string ⟨(Lib.trimS l nmCs).toArray⟩) ∧ Below w.heap.size w w') :=
  Any.strings_Trim_laid lays160 (by kernel_rfl) ⟨l.toArray⟩ ⟨#[97, 98, 99, 100, 101, 102, 103, 104, 105, 106, 107, 108, 109, 110, 111, 112, 113, 114, 115, 116, 117, 118, 119, 120, 121, 122, 48, 49, 50, 51, 52, 53, 54, 55, 56, 57, 46, 45, 95]⟩ w (by show l.toArray.size ≤ _; rw [List.size_toArray]; exact hs) (by decide) (ascii_of_all (by decide))
set_option maxRecDepth 100000 in
set_option maxHeartbeats 1000000 in
theorem named_calls (l : List UInt8) (w : World) (hs : l.length ≤ 9223372036854775807) :
    Calls Tryz.prog 42 #[.string ⟨l.toArray⟩] w fun r w' => r = .returned (.bool (nmOk l)) ∧ Below w.heap.size w w' := by
  cases l with
  | nil =>
    rw [show nmOk [] = false from rfl]
    go_enter Tryz.func42, Tryz.ntmps42
    go_wp2
    go_ret
    exact ⟨rfl, Below.refl _ _⟩
  | cons c l =>
    obtain ⟨m, hm⟩ : ∃ m, c :: l = m := ⟨_, rfl⟩
    have t0 : m.isEmpty = false := by rw [← hm]; rfl
    have t0' : ¬ m = [] := by rw [← hm]; simp
    rw [hm] at hs ⊢
    clear hm
    by_cases c1 : m.length ≤ 64
    · have t1 : decide ((m.length : Int) ≤ 64) = true := decide_eq_true (by omega)
      have t1' : decide (m.length ≤ 64) = true := decide_eq_true c1
      have e : nmOk m = (Lib.trimS m nmCs).isEmpty := by rw [trim_nil]; unfold nmOk; rw [t0, decide_eq_true c1]; simp
      rw [e]
      have hcon := named_trim m w hs
      generalize Lib.trimS m nmCs = q at *
      have HC := Lib.hid hcon
      clear hcon e
      cases q with
      | nil =>
        go_enter Tryz.func42, Tryz.ntmps42
        go_wp2_with (go_at_call 100; refine HC.out.mono ?_; rintro r w' ⟨rfl, hB⟩)
        go_ret
        exact ⟨rfl, hB⟩
      | cons x q =>
        go_enter Tryz.func42, Tryz.ntmps42
        go_wp2_with (go_at_call 100; refine HC.out.mono ?_; rintro r w' ⟨rfl, hB⟩)
        go_ret
        exact ⟨by simp, hB⟩
    · have t1 : decide ((m.length : Int) ≤ 64) = false := decide_eq_false (by omega)
      have t1' : decide (m.length ≤ 64) = false := decide_eq_false c1
      have e : nmOk m = false := by unfold nmOk; rw [decide_eq_false c1]; simp
      rw [e]
      clear e
      go_enter Tryz.func42, Tryz.ntmps42
      go_wp2
      go_ret
      exact ⟨rfl, Below.refl _ _⟩
end Go.Proofs.YtnbpkignkfabkaaGreatDoor
/- The files of a disk as a list in the order of their names: plain facts, no program in sight. -/
namespace Go.Proofs.YtnbpkignkfabkaaGreatDoor
set_option linter.unusedVariables false
set_option linter.unusedSimpArgs false
open Go.RowKit
abbrev Con := List (List UInt8 × List UInt8)
def hasC (C : Con) (nm : List UInt8) : Bool := C.any fun p => p.1 == nm
def bytC (C : Con) (nm : List UInt8) : List UInt8 := ((C.find? fun p => p.1 == nm).map (·.2)).getD []
def delC (C : Con) (nm : List UInt8) : Con := C.filter fun p => !(p.1 == nm)
def insC (p : List UInt8 × List UInt8) : Con → Con
  | [] => [p]
  | q :: C => if p.1 < q.1 then p :: q :: C else q :: insC p C
def setC (C : Con) (nm b : List UInt8) : Con := insC (nm, b) (delC C nm)
def sumC (C : Con) : Nat := (C.map fun p => p.2.length).sum
def SortedC (C : Con) : Prop := C.Pairwise fun p q => p.1 < q.1
theorem nm_irrefl (a : List UInt8) : ¬ a < a := List.lt_irrefl a
theorem nm_trans {a b c : List UInt8} (h : a < b) (k : b < c) : a < c := List.lt_trans h k
theorem nm_asymm {a b : List UInt8} (h : a < b) : ¬ b < a := fun k => nm_irrefl a (nm_trans h k)
theorem nm_ne {a b : List UInt8} (h : a < b) : a ≠ b := fun e => nm_irrefl b (e ▸ h)
theorem nm_tri {a b : List UInt8} (h : ¬ a < b) (hne : a ≠ b) : b < a := by
  have h1 : b ≤ a := List.not_lt.1 h
  rcases List.le_iff_lt_or_eq.1 h1 with k | k
  · exact k
  · exact absurd k.symm hne
theorem hasC_iff {C : Con} {nm : List UInt8} : hasC C nm = true ↔ ∃ p ∈ C, p.1 = nm := by simp [hasC]
theorem hasC_no {C : Con} {nm : List UInt8} : hasC C nm = false ↔ ∀ p ∈ C, p.1 ≠ nm := by
  rw [← Bool.not_eq_true, hasC_iff]
  constructor
  · intro h p hp e; exact h ⟨p, hp, e⟩
  · rintro h ⟨p, hp, e⟩; exact h p hp e
theorem mem_delC {C : Con} {nm : List UInt8} {p : List UInt8 × List UInt8} : p ∈ delC C nm ↔ p ∈ C ∧ p.1 ≠ nm := by simp [delC]
theorem mem_insC {p q : List UInt8 × List UInt8} : ∀ {C : Con}, q ∈ insC p C ↔ q = p ∨ q ∈ C
  | [] => by simp [insC]
  | r :: C => by
    unfold insC
    split
    · simp
    · rw [List.mem_cons, mem_insC, List.mem_cons]
      constructor
      · rintro (h | h | h)
        · exact .inr (.inl h)
        · exact .inl h
        · exact .inr (.inr h)
      · rintro (h | h | h)
        · exact .inr (.inl h)
        · exact .inl h
        · exact .inr (.inr h)
theorem insC_perm (p : List UInt8 × List UInt8) : ∀ C : Con, (insC p C).Perm (p :: C)
  | [] => List.Perm.refl _
  | r :: C => by
    unfold insC
    split
    · exact List.Perm.refl _
    · exact (List.Perm.cons r (insC_perm p C)).trans (List.Perm.swap p r C)
theorem mem_setC {C : Con} {nm b : List UInt8} {q : List UInt8 × List UInt8} : q ∈ setC C nm b ↔ q = (nm, b) ∨ (q ∈ C ∧ q.1 ≠ nm) := by
  unfold setC
  rw [mem_insC, mem_delC]
theorem sorted_insC {p : List UInt8 × List UInt8} : ∀ {C : Con}, SortedC C → (∀ q ∈ C, q.1 ≠ p.1) → SortedC (insC p C)
  | [], _, _ => by simp [insC, SortedC]
  | r :: C, h, hn => by
    unfold insC
    unfold SortedC at h ⊢
    rw [List.pairwise_cons] at h
    split
    · rename_i hlt
      rw [List.pairwise_cons, List.pairwise_cons]
      refine ⟨?_, h⟩
      intro q hq
      rcases List.mem_cons.1 hq with rfl | hq
      · exact hlt
      · exact nm_trans hlt (h.1 q hq)
    · rename_i hlt
      rw [List.pairwise_cons]
      refine ⟨?_, sorted_insC h.2 (fun q hq => hn q (List.mem_cons_of_mem _ hq))⟩
      intro q hq
      rcases mem_insC.1 hq with rfl | hq
      · exact nm_tri hlt (fun e => hn r (by simp) e.symm)
      · exact h.1 q hq
theorem sorted_delC {C : Con} (nm : List UInt8) (h : SortedC C) : SortedC (delC C nm) := List.Pairwise.sublist List.filter_sublist h
theorem sorted_setC {C : Con} (nm b : List UInt8) (h : SortedC C) : SortedC (setC C nm b) := sorted_insC (sorted_delC nm h) (fun _ hq => (mem_delC.1 hq).2)
/-- A name stands once. -/
theorem SortedC.uniq : ∀ {C : Con}, SortedC C → ∀ {p q : List UInt8 × List UInt8}, p ∈ C → q ∈ C → p.1 = q.1 → p = q
  | [], _, _, _, hp, _, _ => by cases hp
  | r :: C, h, p, q, hp, hq, e => by
    unfold SortedC at h
    rw [List.pairwise_cons] at h
    rcases List.mem_cons.1 hp with rfl | hp
    · rcases List.mem_cons.1 hq with rfl | hq
      · rfl
      · exact absurd e (nm_ne (h.1 q hq))
    · rcases List.mem_cons.1 hq with e2 | hq
      · rw [e2] at e; exact absurd e.symm (nm_ne (h.1 p hp))
      · exact SortedC.uniq h.2 hp hq e
theorem bytC_mem {C : Con} (h : SortedC C) {p : List UInt8 × List UInt8} (hp : p ∈ C) : bytC C p.1 = p.2 := by
  unfold bytC
  cases e : C.find? (fun q => q.1 == p.1) with
  | none =>
    have := List.find?_eq_none.1 e p hp
    simp at this
  | some q =>
    have h1 := List.mem_of_find?_eq_some e
    have h2 := List.find?_some e
    rw [SortedC.uniq h h1 hp (by simpa using h2)]
    rfl
theorem bytC_no {C : Con} {nm : List UInt8} (h : hasC C nm = false) : bytC C nm = [] := by
  unfold bytC
  cases e : C.find? (fun q => q.1 == nm) with
  | none => rfl
  | some q => exact absurd (by simpa using List.find?_some e) (hasC_no.1 h q (List.mem_of_find?_eq_some e))
theorem mem_of_hasC {C : Con} (h : SortedC C) {nm : List UInt8} (hn : hasC C nm = true) : (nm, bytC C nm) ∈ C := by
  obtain ⟨p, hp, rfl⟩ := hasC_iff.1 hn
  rw [bytC_mem h hp]
  exact hp
theorem SortedC.nodup {C : Con} (h : SortedC C) : (C.map (·.1)).Nodup := by
  unfold List.Nodup
  rw [List.pairwise_map]
  exact List.Pairwise.imp (fun h => nm_ne h) h
theorem SortedC.nodup' {C : Con} (h : SortedC C) : C.Nodup := by
  unfold List.Nodup
  refine List.Pairwise.imp ?_ h
  intro a b hab e
  exact nm_ne hab (congrArg Prod.fst e)
/-- Two lists in order that hold the same are the same. -/
theorem SortedC.ext : ∀ {C C' : Con}, SortedC C → SortedC C' → (∀ p, p ∈ C ↔ p ∈ C') → C = C'
  | [], [], _, _, _ => rfl
  | [], q :: C', _, _, h => absurd ((h q).2 (by simp)) (by simp)
  | q :: C, [], _, _, h => absurd ((h q).1 (by simp)) (by simp)
  | p :: C, q :: C', h, h', hm => by
    unfold SortedC at h h'
    rw [List.pairwise_cons] at h h'
    have e : p = q := by
      rcases List.mem_cons.1 ((hm p).1 (by simp)) with e | e
      · exact e
      · rcases List.mem_cons.1 ((hm q).2 (by simp)) with e2 | e2
        · exact e2.symm
        · exact absurd (h'.1 p e) (nm_asymm (h.1 q e2))
    subst e
    congr 1
    refine SortedC.ext h.2 h'.2 fun r => ?_
    constructor
    · intro hr
      rcases List.mem_cons.1 ((hm r).1 (List.mem_cons_of_mem _ hr)) with e | e
      · subst e; exact absurd (h.1 r hr) (nm_irrefl _)
      · exact e
    · intro hr
      rcases List.mem_cons.1 ((hm r).2 (List.mem_cons_of_mem _ hr)) with e | e
      · subst e; exact absurd (h'.1 r hr) (nm_irrefl _)
      · exact e
theorem SortedC.perm {C C' : Con} (h : SortedC C) (h' : SortedC C') (hp : C.Perm C') : C = C' := SortedC.ext h h' fun _ => hp.mem_iff
theorem sumC_perm {C C' : Con} (h : C.Perm C') : sumC C = sumC C' := (h.map _).sum_nat
theorem hasC_setC (C : Con) (nm b m : List UInt8) : hasC (setC C nm b) m = (m == nm || hasC C m) := by
  rw [Bool.eq_iff_iff, Bool.or_eq_true, hasC_iff, hasC_iff, beq_iff_eq]
  constructor
  · rintro ⟨p, hp, rfl⟩
    rcases mem_setC.1 hp with rfl | ⟨h, _⟩
    · exact .inl rfl
    · exact .inr ⟨p, h, rfl⟩
  · rintro (rfl | ⟨p, hp, rfl⟩)
    · exact ⟨_, mem_setC.2 (.inl rfl), rfl⟩
    · by_cases e : p.1 = nm
      · exact ⟨(nm, b), mem_setC.2 (.inl rfl), e.symm⟩
      · exact ⟨p, mem_setC.2 (.inr ⟨hp, e⟩), rfl⟩
theorem hasC_delC (C : Con) (nm m : List UInt8) : hasC (delC C nm) m = (hasC C m && !(m == nm)) := by
  rw [Bool.eq_iff_iff, Bool.and_eq_true, hasC_iff, hasC_iff]
  constructor
  · rintro ⟨p, hp, rfl⟩
    obtain ⟨h1, h2⟩ := mem_delC.1 hp
    exact ⟨⟨p, h1, rfl⟩, by simpa using h2⟩
  · rintro ⟨⟨p, hp, rfl⟩, h⟩
    exact ⟨p, mem_delC.2 ⟨hp, by simpa using h⟩, rfl⟩
theorem bytC_set_same {C : Con} (h : SortedC C) (nm b : List UInt8) : bytC (setC C nm b) nm = b := bytC_mem (sorted_setC nm b h) (p := (nm, b)) (mem_setC.2 (.inl rfl))
theorem bytC_set_other {C : Con} (h : SortedC C) {nm m : List UInt8} (b : List UInt8) (hne : m ≠ nm) : bytC (setC C nm b) m = bytC C m := by
  by_cases hh : hasC C m = true
  · have := mem_of_hasC h hh
    exact bytC_mem (sorted_setC nm b h) (p := (m, bytC C m)) (mem_setC.2 (.inr ⟨this, hne⟩))
  · have hh' : hasC C m = false := by simpa using hh
    rw [bytC_no hh', bytC_no]
    rw [hasC_setC, hh']
    simpa using hne
theorem bytC_del_other {C : Con} (h : SortedC C) {nm m : List UInt8} (hne : m ≠ nm) : bytC (delC C nm) m = bytC C m := by
  by_cases hh : hasC C m = true
  · have := mem_of_hasC h hh
    exact bytC_mem (sorted_delC nm h) (p := (m, bytC C m)) (mem_delC.2 ⟨this, hne⟩)
  · have hh' : hasC C m = false := by simpa using hh
    rw [bytC_no hh', bytC_no]
    rw [hasC_delC, hh']
    rfl
theorem delC_no {C : Con} {nm : List UInt8} (h : hasC C nm = false) : delC C nm = C := by
  unfold delC
  rw [List.filter_eq_self]
  intro p hp
  simpa using hasC_no.1 h p hp
theorem sum_del : ∀ {C : Con}, SortedC C → ∀ nm, sumC (delC C nm) + (bytC C nm).length = sumC C
  | [], _, nm => rfl
  | p :: C, h, nm => by
    have h' := h
    unfold SortedC at h
    rw [List.pairwise_cons] at h
    by_cases e : p.1 = nm
    · have hn : hasC C nm = false := hasC_no.2 fun q hq eq => nm_irrefl nm (by have := h.1 q hq; rw [e, eq] at this; exact this)
      have h1 : delC (p :: C) nm = delC C nm := by simp [delC, e]
      have h2 : bytC (p :: C) nm = p.2 := by simp [bytC, e]
      rw [h1, delC_no hn, h2]
      simp [sumC]; omega
    · have h1 : delC (p :: C) nm = p :: delC C nm := by simp [delC, e]
      have h2 : bytC (p :: C) nm = bytC C nm := by simp [bytC, e]
      rw [h1, h2]
      have := sum_del h.2 nm
      simp [sumC] at this ⊢
      omega
theorem sum_set {C : Con} (h : SortedC C) (nm b : List UInt8) : sumC (setC C nm b) + (bytC C nm).length = sumC C + b.length := by
  unfold setC
  rw [sumC_perm (insC_perm _ _)]
  have := sum_del h nm
  simp [sumC] at this ⊢
  omega
theorem len_del {C : Con} (h : SortedC C) (nm : List UInt8) : (delC C nm).length + (if hasC C nm = true then 1 else 0) = C.length := by
  induction C with
  | nil => rfl
  | cons p C ih =>
    unfold SortedC at h
    rw [List.pairwise_cons] at h
    by_cases e : p.1 = nm
    · have hn : hasC C nm = false := hasC_no.2 fun q hq eq => nm_irrefl nm (by have := h.1 q hq; rw [e, eq] at this; exact this)
      have h1 : delC (p :: C) nm = delC C nm := by simp [delC, e]
      have h2 : hasC (p :: C) nm = true := by simp [hasC, e]
      rw [h1, delC_no hn, h2]
      simp
    · have h1 : delC (p :: C) nm = p :: delC C nm := by simp [delC, e]
      have h2 : hasC (p :: C) nm = hasC C nm := by simp [hasC, e]
      have := ih h.2
      rw [h1, h2, List.length_cons, List.length_cons]
      omega
theorem len_set {C : Con} (h : SortedC C) (nm b : List UInt8) : (setC C nm b).length + (if hasC C nm = true then 1 else 0) = C.length + 1 := by
  unfold setC
  rw [(insC_perm _ _).length_eq, List.length_cons]
  have := len_del h nm
  omega
theorem byt_le_sum {C : Con} (h : SortedC C) (nm : List UInt8) : (bytC C nm).length ≤ sumC C := by
  have := sum_del h nm
  omega
end Go.Proofs.YtnbpkignkfabkaaGreatDoor
namespace Go.Proofs.YtnbpkignkfabkaaGreatDoor
set_option linter.unusedVariables false
set_option linter.unusedSimpArgs false
open Go.RowKit
structure DS where
  room : Nat
  C : Con
  armed : Int
  keep : Int
  off : Bool
  writes : Nat
def DS.new (room : Nat) : DS := ⟨room, [], 0, 0, false, 0⟩
structure DS.ok (s : DS) : Prop where
  so : SortedC s.C
  nm : ∀ p ∈ s.C, nmOk p.1 = true
  len : s.C.length ≤ 64
  sum : sumC s.C ≤ s.room
  r1 : 1 ≤ s.room
  r2 : s.room ≤ 268435456
  a1 : 0 ≤ s.armed
  a2 : s.armed ≤ 9223372036854775807
/-- Why a call about these names is refused. -/
def DS.may (s : DS) (there : Bool) (Ns : List (List UInt8)) : Int :=
  if s.off = true then 94 else if Ns.all nmOk = false then 91 else if there = true ∧ hasC s.C (Ns.headD []) = false then 92 else 0
/-- A write's beginning. -/
def DS.wr (s : DS) : DS := { s with writes := s.writes + 1, armed := if 0 < s.armed then s.armed - 1 else s.armed, off := s.off || decide (s.armed = 1) }
/-- So many bytes are kept. -/
def keptB (b : List UInt8) (keep : Int) : List UInt8 := b.take (max 0 (min keep b.length)).toNat
def DS.put (s : DS) (nm b : List UInt8) : DS := { s with C := setC s.C nm b }
def DS.del (s : DS) (nm : List UInt8) : DS := { s with C := delC s.C nm }
def DS.append (s : DS) (nm b : List UInt8) : Int × DS :=
  if s.may false [nm] ≠ 0 then (s.may false [nm], s)
  else if (hasC s.C nm = false ∧ 64 ≤ s.C.length) ∨ s.room < sumC s.C + b.length then (93, s)
  else if s.armed = 1 then (94, if hasC s.C nm = true ∨ 0 < s.keep then s.wr.put nm (bytC s.C nm ++ keptB b s.keep) else s.wr)
  else (0, s.wr.put nm (bytC s.C nm ++ b))
/-- A write that is done or not. -/
def DS.whole (s : DS) (f : DS → DS) : Int × DS :=
  if s.armed = 1 then (94, if 0 < s.keep then f s.wr else s.wr) else (0, f s.wr)
def DS.cut (s : DS) (nm : List UInt8) (n : Int) : Int × DS :=
  if s.may true [nm] ≠ 0 then (s.may true [nm], s)
  else if n < 0 ∨ (bytC s.C nm).length < n then (95, s)
  else s.whole fun t => t.put nm ((bytC s.C nm).take n.toNat)
def DS.rename (s : DS) (a b : List UInt8) : Int × DS :=
  if s.may true [a, b] ≠ 0 then (s.may true [a, b], s)
  else s.whole fun t => if a = b then t else (t.del a).put b (bytC s.C a)
def DS.remove (s : DS) (nm : List UInt8) : Int × DS :=
  if s.may true [nm] ≠ 0 then (s.may true [nm], s) else s.whole fun t => t.del nm
def DS.arm (s : DS) (n keep : Int) : DS := { s with armed := max 0 n, keep := keep }
def DS.on (s : DS) : DS := { s with off := false }
theorem DS.may_cases (s : DS) (there : Bool) (Ns : List (List UInt8)) (h : s.may there Ns = 0) : s.off = false ∧ Ns.all nmOk = true ∧ (there = true → hasC s.C (Ns.headD []) = true) := by
  unfold DS.may at h
  split at h
  · omega
  · rename_i h1
    split at h
    · omega
    · rename_i h2
      split at h
      · omega
      · rename_i h3
        refine ⟨by simpa using h1, by simpa using h2, fun ht => ?_⟩
        cases hh : hasC s.C (Ns.headD []) with
        | true => rfl
        | false => exact absurd ⟨ht, hh⟩ h3
theorem DS.may_range (s : DS) (there : Bool) (Ns : List (List UInt8)) : 0 ≤ s.may there Ns ∧ s.may there Ns ≤ 94 := by
  unfold DS.may
  repeat (first | omega | split)
/-! What stays ok. -/
theorem DS.ok.wr {s : DS} (h : s.ok) : s.wr.ok := by
  refine ⟨h.so, h.nm, h.len, h.sum, h.r1, h.r2, ?_, ?_⟩
  · show (0 : Int) ≤ if 0 < s.armed then s.armed - 1 else s.armed
    have := h.a1
    split <;> omega
  · show (if 0 < s.armed then s.armed - 1 else s.armed) ≤ 9223372036854775807
    have := h.a2
    split <;> omega
theorem DS.ok.put {s : DS} (h : s.ok) (nm b : List UInt8) (hn : nmOk nm = true) (hl : hasC s.C nm = true ∨ s.C.length < 64) (hs : sumC s.C + b.length ≤ s.room + (bytC s.C nm).length) : (s.put nm b).ok := by
  refine ⟨sorted_setC nm b h.so, ?_, ?_, ?_, h.r1, h.r2, h.a1, h.a2⟩
  · intro p hp
    rcases mem_setC.1 hp with rfl | ⟨hp, _⟩
    · exact hn
    · exact h.nm p hp
  · show (setC s.C nm b).length ≤ 64
    have h1 := len_set h.so nm b
    have h2 := h.len
    split at h1
    · omega
    · rename_i hh
      rcases hl with k | k
      · exact absurd k hh
      · omega
  · show sumC (setC s.C nm b) ≤ s.room
    have := sum_set h.so nm b
    omega
theorem DS.ok.del {s : DS} (h : s.ok) (nm : List UInt8) : (s.del nm).ok := by
  refine ⟨sorted_delC nm h.so, fun p hp => h.nm p (mem_delC.1 hp).1, ?_, ?_, h.r1, h.r2, h.a1, h.a2⟩
  · show (delC s.C nm).length ≤ 64
    have := len_del h.so nm
    have := h.len
    omega
  · show sumC (delC s.C nm) ≤ s.room
    have := sum_del h.so nm
    have := h.sum
    omega
theorem DS.new_ok (room : Nat) (h1 : 1 ≤ room) (h2 : room ≤ 268435456) : (DS.new room).ok :=
  ⟨List.Pairwise.nil, (fun _ h => by cases h), Nat.zero_le _, Nat.zero_le _, h1, h2, Int.le_refl _, show (0 : Int) ≤ 9223372036854775807 by decide⟩
theorem keptB_len (b : List UInt8) (keep : Int) : (keptB b keep).length ≤ b.length := by unfold keptB; rw [List.length_take]; omega
theorem DS.ok.append {s : DS} (h : s.ok) (nm b : List UInt8) : (s.append nm b).2.ok := by
  unfold DS.append
  split
  · exact h
  · rename_i h1
    have h1' : s.may false [nm] = 0 := by omega
    obtain ⟨_, h2, _⟩ := s.may_cases _ _ h1'
    have hn : nmOk nm = true := by simpa using h2
    split
    · exact h
    · rename_i h3
      have hl : hasC s.wr.C nm = true ∨ s.wr.C.length < 64 := by
        cases e : hasC s.C nm with
        | true => exact .inl e
        | false => exact .inr (by by_cases k : s.C.length < 64; exact k; exact absurd (.inl ⟨e, by omega⟩) h3)
      have hs : sumC s.C + b.length ≤ s.room := by by_cases k : sumC s.C + b.length ≤ s.room; exact k; exact absurd (.inr (by omega)) h3
      split
      · show (if _ then _ else _ : DS).ok
        split
        · refine h.wr.put nm _ hn hl ?_
          have := keptB_len b s.keep
          rw [List.length_append]
          show sumC s.C + ((bytC s.C nm).length + _) ≤ s.room + (bytC s.C nm).length
          omega
        · exact h.wr
      · refine h.wr.put nm _ hn hl ?_
        rw [List.length_append]
        show sumC s.C + ((bytC s.C nm).length + _) ≤ s.room + (bytC s.C nm).length
        omega
theorem DS.ok.whole {s : DS} (h : s.ok) (f : DS → DS) (hf : (f s.wr).ok) : (s.whole f).2.ok := by
  unfold DS.whole
  split
  · show (if _ then _ else _ : DS).ok
    split
    · exact hf
    · exact h.wr
  · exact hf
theorem DS.ok.cut {s : DS} (h : s.ok) (nm : List UInt8) (n : Int) : (s.cut nm n).2.ok := by
  unfold DS.cut
  split
  · exact h
  · rename_i h1
    obtain ⟨_, h2, h3⟩ := s.may_cases _ _ (show s.may true [nm] = 0 by omega)
    split
    · exact h
    · refine h.whole _ (h.wr.put nm _ (by simpa using h2) (.inl (h3 rfl)) ?_)
      rw [List.length_take]
      show sumC s.C + _ ≤ s.room + (bytC s.C nm).length
      have := h.sum
      omega
theorem DS.ok.rename {s : DS} (h : s.ok) (a b : List UInt8) : (s.rename a b).2.ok := by
  unfold DS.rename
  split
  · exact h
  · rename_i h1
    obtain ⟨_, h2, h3⟩ := s.may_cases _ _ (show s.may true [a, b] = 0 by omega)
    refine h.whole _ ?_
    show (if a = b then s.wr else (s.wr.del a).put b (bytC s.C a)).ok
    split
    · exact h.wr
    · have h4 : hasC s.C a = true := h3 rfl
      have l1 := len_del h.so a
      rw [if_pos h4] at l1
      have l2 := h.len
      have s1 := sum_del h.so a
      have s2 := h.sum
      refine (h.wr.del a).put b _ (by simp at h2; exact h2.2) (.inr ?_) ?_
      · show (delC s.C a).length < 64
        omega
      · show sumC (delC s.C a) + (bytC s.C a).length ≤ s.room + _
        omega
theorem DS.ok.remove {s : DS} (h : s.ok) (nm : List UInt8) : (s.remove nm).2.ok := by
  unfold DS.remove
  split
  · exact h
  · exact h.whole _ (h.wr.del nm)
theorem DS.ok.arm {s : DS} (h : s.ok) (n keep : Int) (hn : n ≤ 9223372036854775807) : (s.arm n keep).ok :=
  ⟨h.so, h.nm, h.len, h.sum, h.r1, h.r2, by show (0 : Int) ≤ max 0 n; omega, by show max 0 n ≤ 9223372036854775807; omega⟩
theorem DS.ok.on {s : DS} (h : s.ok) : s.on.ok := ⟨h.so, h.nm, h.len, h.sum, h.r1, h.r2, h.a1, h.a2⟩
theorem DS.ok.byt {s : DS} (h : s.ok) (nm : List UInt8) : (bytC s.C nm).length ≤ 268435456 := by have := byt_le_sum h.so nm; have := h.sum; have := h.r2; omega
end Go.Proofs.YtnbpkignkfabkaaGreatDoor
namespace Go.Proofs.YtnbpkignkfabkaaGreatDoor
set_option linter.unusedVariables false
set_option linter.unusedSimpArgs false
open Go.RowKit
theorem whole_w {s : DS} {f : DS → DS} (hf : (f s.wr).writes = s.writes + 1) : (s.whole f).2.writes ≤ s.writes + 1 := by
  unfold DS.whole
  split
  · show (if 0 < s.keep then f s.wr else s.wr).writes ≤ _
    split
    · rw [hf]; exact Nat.le_refl _
    · exact Nat.le_refl _
  · show (f s.wr).writes ≤ _
    rw [hf]; exact Nat.le_refl _
theorem cut_w (s : DS) (nm : List UInt8) (n : Int) : (s.cut nm n).2.writes ≤ s.writes + 1 := by
  unfold DS.cut
  split
  · exact Nat.le_succ _
  · split
    · exact Nat.le_succ _
    · exact whole_w rfl
theorem rename_w (s : DS) (a b : List UInt8) : (s.rename a b).2.writes ≤ s.writes + 1 := by
  unfold DS.rename
  split
  · exact Nat.le_succ _
  · refine whole_w ?_
    show (if a = b then s.wr else (s.wr.del a).put b (bytC s.C a)).writes = _
    split <;> rfl
theorem remove_w (s : DS) (nm : List UInt8) : (s.remove nm).2.writes ≤ s.writes + 1 := by
  unfold DS.remove
  split
  · exact Nat.le_succ _
  · exact whole_w rfl
theorem append_w (s : DS) (nm b : List UInt8) : (s.append nm b).2.writes ≤ s.writes + 1 := by
  unfold DS.append
  split
  · exact Nat.le_succ _
  · split
    · exact Nat.le_succ _
    · split
      · show (if hasC s.C nm = true ∨ 0 < s.keep then s.wr.put nm (bytC s.C nm ++ keptB b s.keep) else s.wr).writes ≤ _
        split <;> exact Nat.le_refl _
      · exact Nat.le_refl _
end Go.Proofs.YtnbpkignkfabkaaGreatDoor
