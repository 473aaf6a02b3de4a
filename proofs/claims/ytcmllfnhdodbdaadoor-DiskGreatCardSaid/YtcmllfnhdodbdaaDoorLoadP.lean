/- Files that are handed in, and what Load makes of them. -/
import Derived.Test.YtcmllfnhdodbdaaDoorRep
import Derived.Test.YtcmllfnhdodbdaaDoorNewD
import Derived.Test.YtcmllfnhdodbdaaDoorText
import Derived.Test.YtcmllfnhdodbdaaDoorFls3
namespace Go.Proofs.YtcmllfnhdodbdaaDoor
set_option linter.unusedVariables false
set_option linter.unusedSimpArgs false
open Go.RowKit Go.Maps
/-- Files stand at a. -/
def Fil (w : World) (a : Option Addr) (l : Con) : Prop :=
  ∀ i (h : i < l.length), ∃ b o ba bc, a = some ⟨b, o, none⟩ ∧ w.cell? ⟨b, o + i * 2, none⟩ = some (.string ⟨(l[i]).1.toArray⟩) ∧ w.cell? ⟨b, o + i * 2 + 1, none⟩ = some (.slice ba (l[i]).2.length bc) ∧ (l[i]).2.length ≤ bc ∧ Byt w ba (l[i]).2
theorem Fil.upd {S : Nat → Prop} {w w' : World} {a : Option Addr} {l : Con} (h : Fil w a l) (hu : Upd S w w') (hs : ∀ k, S k → w.heap.size ≤ k) : Fil w' a l := by
  intro i hi
  obtain ⟨b, o, ba, bc, e, h1, h2, h3, h4⟩ := h i hi
  have hn : b < w.heap.size := World.block_lt_of_cell? w _ h1
  refine ⟨b, o, ba, bc, e, hu.cell' h1 (fun s => ?_), hu.cell' h2 (fun s => ?_), h3, h4.upd hu ?_⟩
  · have : w.heap.size ≤ b := hs b s
    omega
  · have : w.heap.size ≤ b := hs b s
    omega
  · rintro ad rfl hne s
    have h5 := h4.lt hne
    have := hs _ s
    omega
theorem Fil.below {w w' : World} {a : Option Addr} {l : Con} (h : Fil w a l) (hb : Below w.heap.size w w') : Fil w' a l := h.upd (Upd.ofBelow hb) (fun _ s => s.elim)
/-- What Load makes of files, one by one. -/
def ldC (room : Nat) : Con → Con → Option Con
  | [], C => some C
  | p :: r, C => if hasC C p.1 = true ∨ nmOk p.1 = false ∨ room < sumC C + p.2.length then none else ldC room r (setC C p.1 p.2)
/-- The error of a Load, and its disk. -/
def loadR (room : Int) (l : Con) : Int × Option DS :=
  if room < 1 ∨ 268435456 < room then (90, none) else if 64 < l.length then (96, none)
  else match ldC room.toNat l [] with
    | none => (96, none)
    | some C => (0, some { DS.new room.toNat with C := C })
theorem ldC_ok (room : Nat) : ∀ (l C C' : Con), ldC room l C = some C' → SortedC C → (∀ p ∈ C, nmOk p.1 = true) → sumC C ≤ room → SortedC C' ∧ (∀ p ∈ C', nmOk p.1 = true) ∧ sumC C' ≤ room ∧ C'.length = C.length + l.length
  | [], C, C', h, h1, h2, h3 => by cases h; exact ⟨h1, h2, h3, rfl⟩
  | p :: r, C, C', h, h1, h2, h3 => by
    unfold ldC at h
    split at h
    · cases h
    · rename_i hn
      have a1 : hasC C p.1 = false := by cases e : hasC C p.1; rfl; exact absurd (.inl e) hn
      have a2 : nmOk p.1 = true := by cases e : nmOk p.1; exact absurd (.inr (.inl e)) hn; rfl
      have a3 : sumC C + p.2.length ≤ room := by by_cases k : room < sumC C + p.2.length; exact absurd (.inr (.inr k)) hn; omega
      have s := sum_set h1 p.1 p.2
      rw [bytC_no a1] at s
      have ln := len_set h1 p.1 p.2
      rw [a1] at ln
      obtain ⟨r1, r2, r3, r4⟩ := ldC_ok room r _ _ h (sorted_setC _ _ h1) (by
        intro q hq
        rcases mem_setC.1 hq with rfl | ⟨hq, _⟩
        · exact a2
        · exact h2 q hq) (by simp at s; omega)
      refine ⟨r1, r2, r3, ?_⟩
      simp at ln
      rw [r4, ln, List.length_cons]
      omega
theorem loadR_ok {room : Int} {l : Con} {s : DS} {e : Int} (h : loadR room l = (e, some s)) : s.ok ∧ e = 0 ∧ s.room = room.toNat ∧ s.armed = 0 ∧ s.keep = 0 ∧ s.off = false ∧ s.writes = 0 ∧ ldC room.toNat l [] = some s.C ∧ 1 ≤ room ∧ room ≤ 268435456 := by
  unfold loadR at h
  split at h
  · cases h
  · rename_i h1
    split at h
    · cases h
    · rename_i h2
      split at h
      · cases h
      · rename_i C hC
        cases h
        obtain ⟨r1, r2, r3, r4⟩ := ldC_ok _ _ _ _ hC List.Pairwise.nil (fun _ h => by cases h) (Nat.zero_le _)
        refine ⟨⟨r1, r2, ?_, r3, ?_, ?_, Int.le_refl _, ?_⟩, rfl, rfl, rfl, rfl, rfl, rfl, hC, by omega, by omega⟩
        · show C.length ≤ 64; rw [r4]; simp; omega
        · show 1 ≤ room.toNat; omega
        · show room.toNat ≤ 268435456; omega
        · show (0 : Int) ≤ 9223372036854775807; decide
/-- What a Load comes to. -/
def LoadP (w w' : World) (room : Int) (l : Con) (r : Ending) : Prop :=
  match (loadR room l).2 with
  | none => r = .returned (.tuple #[.pointer none, .int .i64 (loadR room l).1]) ∧ Below w.heap.size w w'
  | some s => ∃ db, r = .returned (.tuple #[.pointer (some ⟨db, 0, none⟩), .int .i64 (loadR room l).1]) ∧ Dk w' w.heap.size (fun i => w.heap.size ≤ i) db s ∧ Below w.heap.size w w'
/-- In the loop: the disk as far as it is. -/
def LdS (w wr : World) (room : Nat) (C : Con) : Prop :=
  ∃ L D, Dsk wr w.heap.size (w.heap.size + 1) w.heap.size 0 { dk0 (room : Int) with used := (sumC C : Int) } L D ∧ Rep L C ∧ Below w.heap.size w wr
end Go.Proofs.YtcmllfnhdodbdaaDoor
