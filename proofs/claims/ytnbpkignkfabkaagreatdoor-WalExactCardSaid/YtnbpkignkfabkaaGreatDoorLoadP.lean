/- Files that are handed in, and what Load makes of them. -/
import Derived.Test.YtnbpkignkfabkaaGreatDoorBase
import Derived.Deep.RegionHeld3
import Derived.Test.YtnbpkignkfabkaaGreatDoorDsk
import Derived.Test.YtnbpkignkfabkaaGreatDoorRep
import Derived.Test.YtnbpkignkfabkaaGreatDoorText
import Derived.Test.YtnbpkignkfabkaaGreatDoorFls3
/- A region that draws its order, operation by operation, over a condition on the world. -/
namespace Go.Proofs.YtnbpkignkfabkaaGreatDoor
set_option linter.unusedVariables false
set_option linter.unusedSimpArgs false
open Go.RowKit
/-- An operation is taken first; the frame behind it is written out. -/
theorem wpAnyH_taken {P : Program} {md : Region.Mode} {ops : Array Oper} {Q : Exit → Act → World → Prop} {S : World → Prop} {i : Nat} {oi : Oper} {v : Value} {fuel : Nat} {listed : Array Bool} {a a' : Act} {w : World} (hi : ops[i]? = some oi)
    (hs : Region.noSelect ops = true) (hf : Region.free md ops listed i = true) (hr : (Region.ready md ops listed).contains i = true)
    (hQ : ∀ c a w, Q (.panic c) (a.put oi.dst v) w → Q (.panic c) a w) (hy : YieldsIf P ops S oi v a) (hS : S w) (ha : a.put oi.dst v = a')
    (h : wpAnyH P md ops Q S fuel (listed.setIfInBounds i true) a' w) : wpAnyH P md ops Q S (fuel + 1) listed a w :=
  wpAnyH_take hi hs hf hr hQ hy hS (by rw [ha]; exact h)
end Go.Proofs.YtnbpkignkfabkaaGreatDoor
/- disk.New: an empty disk. -/
namespace Go.Proofs.YtnbpkignkfabkaaGreatDoor
set_option linter.unusedVariables false
set_option linter.unusedSimpArgs false
open Go.RowKit Go.Maps
def dk0 (room : Int) : DkV := ⟨room, 0, 0, 0, false, 0⟩
def NewP (w w' : World) (room : Int) (r : Ending) : Prop := ∃ db mb, r = .returned (.tuple #[.pointer (some ⟨db, 0, none⟩), .int .i64 0]) ∧ Dsk w' w.heap.size db mb 0 (dk0 room) [] (.map []) ∧ Below w.heap.size w w'
def NewS (w w' : World) (room : Int) : Prop := Dsk w' w.heap.size (w.heap.size + 1) w.heap.size 0 (dk0 room) [] (.map []) ∧ Below w.heap.size w w'
set_option maxRecDepth 100000 in
set_option maxHeartbeats 2000000 in
theorem LoadNil_calls (room : Int) (w : World) (h1 : 1 ≤ room) (h2 : room ≤ 268435456) :
    Calls Tryz.prog 14 #[.slice none 0 0, .int .i64 room] w fun r w' => NewP w w' room r := by
  have t1 : decide (room < 1) = false := decide_eq_false (by omega)
  have t2 : decide (268435456 < room) = false := decide_eq_false (by omega)
  have hmm := @run_makeMap Tryz.prog
  have blk := heap_alloc_new (w.alloc (.map #[] 0)) (.cells (dcells 0 (dk0 room) w.heap.size) 114)
  rw [World.size_alloc] at blk
  have NS : Hid (NewS w ((w.alloc (.map #[] 0)).alloc (.cells (dcells 0 (dk0 room) w.heap.size) 114)) room) :=
    ⟨⟨blk, Nat.le_succ _, (Fls.made w w.heap.size (Nat.le_refl _)).upd ((Upd.refl (fun _ => False) _).alloc _) (fun _ s => s.elim)⟩, ((Below.refl _ w).alloc (Nat.le_refl _) _).alloc (by simp) _⟩
  clear blk
  go_enter Tryz.func14, Tryz.ntmps14
  go_wp2
  go_loopw [26] (fun vi wr => vi = .int .i64 0 ∧ NewS w wr room) (fun _ _ => 0)
  case atStart => exact ⟨rfl, NS.out⟩
  case round =>
    obtain ⟨rfl, hs⟩ := hrel
    have HS := Lib.hid hs
    clear hs
    go_wp2
    go_ret2
    exact ⟨w.heap.size + 1, w.heap.size, rfl, HS.out⟩
set_option maxRecDepth 100000 in
set_option maxHeartbeats 1000000 in
theorem New_calls (room : Int) (w : World) (h1 : 1 ≤ room) (h2 : room ≤ 268435456) :
    Calls Tryz.prog 5 #[.int .i64 room] w fun r w' => NewP w w' room r := by
  have LC := Lib.hid (LoadNil_calls room w h1 h2)
  go_enter Tryz.func5, Tryz.ntmps5
  go_wp2_with fail
  refine LC.out.mono ?_
  rintro r w1 ⟨db, mb, rfl, hd, hb⟩
  have HD := Lib.hid hd; have HB := Lib.hid hb
  clear hd hb
  go_wp2
  go_ret2
  exact ⟨db, mb, rfl, HD.out, HB.out⟩
end Go.Proofs.YtnbpkignkfabkaaGreatDoor
namespace Go.Proofs.YtnbpkignkfabkaaGreatDoor
set_option linter.unusedVariables false
set_option linter.unusedSimpArgs false
open Go.RowKit Go.Maps
/-- Files stand at a. -/
def Fil (w : World) (a : Option Addr) (l : Con) : Prop :=
  ∀ i (h : i < l.length), ∃ b o ba bc, a = some ⟨b, o, none⟩ ∧ w.cell? ⟨b, o + i * 2, none⟩ = some (.string ⟨(l[i]).1.toArray⟩) ∧ w.cell? ⟨b, o + i * 2 + 1, none⟩ = some (.slice ba (l[i]).2.length bc) ∧ (l[i]).2.length ≤ bc ∧ Byt w ba (l[i]).2
theorem Fil.upd {S : Nat → Prop} {w w' : World} {a : Option Addr} {l : Con} (h : Fil w a l) (hu : Upd S w w') (hs : ∀ k, S k → w.heap.size ≤ k) : Fil w' a l := by
  intro i hi
  obtain ⟨b, o, ba, bc, e, h1, h2, h3, h4⟩ := h i hi
  have hn : b < w.heap.size := World.block_lt_of_cell? w _ h1
  refine ⟨b, o, ba, bc, e, hu.cell' h1 (fun s => ?_), hu.cell' h2 (fun s => ?_), h3, h4.upd hu ?_⟩
  · have : w.heap.size ≤ b := hs b s
    omega
  · have : w.heap.size ≤ b := hs b s
    omega
  · rintro ad rfl hne s
    have h5 := h4.lt hne
    have := hs _ s
    omega
theorem Fil.below {w w' : World} {a : Option Addr} {l : Con} (h : Fil w a l) (hb : Below w.heap.size w w') : Fil w' a l := h.upd (Upd.ofBelow hb) (fun _ s => s.elim)
/-- What Load makes of files, one by one. -/
def ldC (room : Nat) : Con → Con → Option Con
  | [], C => some C
  | p :: r, C => if hasC C p.1 = true ∨ nmOk p.1 = false ∨ room < sumC C + p.2.length then none else ldC room r (setC C p.1 p.2)
/-- The error of a Load, and its disk. -/
def loadR (room : Int) (l : Con) : Int × Option DS :=
  if room < 1 ∨ 268435456 < room then (90, none) else if 64 < l.length then (96, none)
  else match ldC room.toNat l [] with
    | none => (96, none)
    | some C => (0, some { DS.new room.toNat with C := C })
theorem ldC_ok (room : Nat) : ∀ (l C C' : Con), ldC room l C = some C' → SortedC C → (∀ p ∈ C, nmOk p.1 = true) → sumC C ≤ room → SortedC C' ∧ (∀ p ∈ C', nmOk p.1 = true) ∧ sumC C' ≤ room ∧ C'.length = C.length + l.length
  | [], C, C', h, h1, h2, h3 => by cases h; exact ⟨h1, h2, h3, rfl⟩
  | p :: r, C, C', h, h1, h2, h3 => by
    unfold ldC at h
    split at h
    · cases h
    · rename_i hn
      have a1 : hasC C p.1 = false := by cases e : hasC C p.1; rfl; exact absurd (.inl e) hn
      have a2 : nmOk p.1 = true := by cases e : nmOk p.1; exact absurd (.inr (.inl e)) hn; rfl
      have a3 : sumC C + p.2.length ≤ room := by by_cases k : room < sumC C + p.2.length; exact absurd (.inr (.inr k)) hn; omega
      have s := sum_set h1 p.1 p.2
      rw [bytC_no a1] at s
      have ln := len_set h1 p.1 p.2
      rw [a1] at ln
      obtain ⟨r1, r2, r3, r4⟩ := ldC_ok room r _ _ h (sorted_setC _ _ h1) (by
        intro q hq
        rcases mem_setC.1 hq with rfl | ⟨hq, _⟩
        · exact a2
        · exact h2 q hq) (by simp at s; omega)
      refine ⟨r1, r2, r3, ?_⟩
      simp at ln
      rw [r4, ln, List.length_cons]
      omega
theorem loadR_ok {room : Int} {l : Con} {s : DS} {e : Int} (h : loadR room l = (e, some s)) : s.ok ∧ e = 0 ∧ s.room = room.toNat ∧ s.armed = 0 ∧ s.keep = 0 ∧ s.off = false ∧ s.writes = 0 ∧ ldC room.toNat l [] = some s.C ∧ 1 ≤ room ∧ room ≤ 268435456 := by
  unfold loadR at h
  split at h
  · cases h
  · rename_i h1
    split at h
    · cases h
    · rename_i h2
      split at h
      · cases h
      · rename_i C hC
        cases h
        obtain ⟨r1, r2, r3, r4⟩ := ldC_ok _ _ _ _ hC List.Pairwise.nil (fun _ h => by cases h) (Nat.zero_le _)
        refine ⟨⟨r1, r2, ?_, r3, ?_, ?_, Int.le_refl _, ?_⟩, rfl, rfl, rfl, rfl, rfl, rfl, hC, by omega, by omega⟩
        · show C.length ≤ 64; rw [r4]; simp; omega
        · show 1 ≤ room.toNat; omega
        · show room.toNat ≤ 268435456; omega
        · show (0 : Int) ≤ 9223372036854775807; decide
/-- What a Load comes to. -/
def LoadP (w w' : World) (room : Int) (l : Con) (r : Ending) : Prop :=
  match (loadR room l).2 with
  | none => r = .returned (.tuple #[.pointer none, .int .i64 (loadR room l).1]) ∧ Below w.heap.size w w'
  | some s => ∃ db, r = .returned (.tuple #[.pointer (some ⟨db, 0, none⟩), .int .i64 (loadR room l).1]) ∧ Dk w' w.heap.size (fun i => w.heap.size ≤ i) db s ∧ Below w.heap.size w w'
/-- In the loop: the disk as far as it is. -/
def LdS (w wr : World) (room : Nat) (C : Con) : Prop :=
  ∃ L D, Dsk wr w.heap.size (w.heap.size + 1) w.heap.size 0 { dk0 (room : Int) with used := (sumC C : Int) } L D ∧ Rep L C ∧ Below w.heap.size w wr
end Go.Proofs.YtnbpkignkfabkaaGreatDoor
