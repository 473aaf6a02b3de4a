/- record.Reader: Num, Int, Flag, Bytes, Text, Left, End, From. -/
import Derived.Test.YtnbpkignkfabkaaGreatDoorText
/- record.Reader: what stands at a reader; number and take. -/
namespace Go.Proofs.YtnbpkignkfabkaaGreatDoor
set_option linter.unusedVariables false
set_option linter.unusedSimpArgs false
open Go.RowKit

/-- The number in some bytes, the highest first. -/
def ofBe (l : List UInt8) : Nat := l.foldl (fun n c => n * 256 + c.toNat) 0
theorem ofBe_snoc (l : List UInt8) (c : UInt8) : ofBe (l ++ [c]) = ofBe l * 256 + c.toNat := by simp [ofBe]
theorem ofBe_foldl (l : List UInt8) (n : Nat) : l.foldl (fun n c => n * 256 + c.toNat) n = n * 256 ^ l.length + ofBe l := by
  induction l generalizing n with
  | nil => simp [ofBe]
  | cons c l ih =>
    unfold ofBe
    rw [List.foldl_cons, List.foldl_cons, ih, ih (0 * 256 + c.toNat), List.length_cons, Nat.pow_succ, Nat.add_mul, Nat.zero_mul, Nat.zero_add, Nat.mul_assoc, Nat.mul_comm 256, Nat.add_assoc]
theorem ofBe_cons (c : UInt8) (l : List UInt8) : ofBe (c :: l) = c.toNat * 256 ^ l.length + ofBe l := by
  show (c :: l).foldl _ 0 = _
  rw [List.foldl_cons, ofBe_foldl, Nat.zero_mul, Nat.zero_add]
theorem ofBe_lt (l : List UInt8) : ofBe l < 256 ^ l.length := by
  induction l with
  | nil => simp [ofBe]
  | cons c l ih =>
    rw [ofBe_cons, List.length_cons, Nat.pow_succ]
    have h1 := c.toNat_lt
    have h2 : c.toNat * 256 ^ l.length ≤ 255 * 256 ^ l.length := Nat.mul_le_mul_right _ (by omega)
    omega
theorem or_byte (n : Nat) (c : UInt8) (h : n * 256 < 18446744073709551616) : bits .or .u64 ((n : Int) * 256) ((c.toNat : Nat) : Int) = ((n * 256 + c.toNat : Nat) : Int) := by
  have hc := c.toNat_lt
  have h1 : (BitVec.ofInt 64 ((n : Int) * 256)).toNat = n * 256 := by
    rw [show ((n : Int) * 256) = ((n * 256 : Nat) : Int) by omega, BitVec.ofInt_natCast, BitVec.toNat_ofNat]; exact Nat.mod_eq_of_lt (by omega)
  have h2 : (BitVec.ofInt 64 ((c.toNat : Nat) : Int)).toNat = c.toNat := by
    rw [BitVec.ofInt_natCast, BitVec.toNat_ofNat]; exact Nat.mod_eq_of_lt (by omega)
  show IntKind.u64.wrap ((BitVec.ofInt 64 ((n : Int) * 256) ||| BitVec.ofInt 64 ((c.toNat : Nat) : Int)).toNat : Int) = _
  rw [BitVec.toNat_or, h1, h2, show n * 256 = 2 ^ 8 * n by omega, ← Nat.two_pow_add_eq_or_of_lt (by omega : c.toNat < 2 ^ 8), IntKind.wrap_u64]
  omega

set_option maxRecDepth 100000 in
set_option maxHeartbeats 1000000 in
theorem number_calls (a : Option Addr) (cap : Nat) (t : List UInt8) (w : World) (ht : Byt w a t) (hs : t.length ≤ 8) :
    Calls Tryz.prog 105 #[.slice a t.length cap] w fun r w' => r = .returned (.int .u64 (ofBe t)) ∧ w = w' := by
  have HC := Lib.hid ht; clear ht
  go_enter Tryz.func105, Tryz.ntmps105
  go_wp2
  go_loop [3, 8] (fun s k => ∃ i : Nat, i ≤ t.length ∧ k = .int .i64 i ∧ s = .int .u64 (ofBe (t.take i))) (fun _ k => t.length - (intOf k).toNat)
  case atStart => exact ⟨0, by omega, rfl, rfl⟩
  case round =>
    obtain ⟨i, hi, rfl, rfl⟩ := hrel
    by_cases hlt : i < t.length
    · obtain ⟨b, o, rfl, h1⟩ := HC.out i hlt
      have hn : ofBe (t.take i) * 256 < 18446744073709551616 := by
        have h2 := ofBe_lt (t.take i)
        have h3 : (256 : Nat) ^ (t.take i).length ≤ 256 ^ 7 := Nat.pow_le_pow_right (by decide) (by rw [List.length_take]; omega)
        omega
      have HN : Hid (ofBe (t.take (i + 1)) = ofBe (t.take i) * 256 + t[i].toNat) := by show _ = _; rw [List.take_succ_eq_append_getElem hlt, ofBe_snoc]
      obtain ⟨n, hN⟩ : ∃ n, ofBe (t.take i) = n := ⟨_, rfl⟩
      rw [hN] at hn HN ⊢
      have e1 := or_byte n t[i] hn
      have rb := t[i].toNat_lt
      clear hN
      go_wp2
      go_round
      case rel => exact ⟨i + 1, by omega, by go_num, by rw [HN.out]; go_num⟩
      case measure => simp [intOf]; omega
    · have HS : Hid (ofBe t = ofBe (t.take i)) := by show _ = _; rw [List.take_of_length_le (by omega)]
      go_wp2
      go_ret
      exact ⟨by rw [HS.out]; rfl, rfl⟩

/-- A reader stands at rb, ro: these bytes are left, this error; the bytes lie in block B. -/
structure Rdr (w : World) (rb ro B : Nat) (l : List UInt8) (e : Int) (a : Option Addr) (cap : Nat) : Prop where
  c0 : w.cell? ⟨rb, ro, none⟩ = some (.slice a l.length cap)
  c1 : w.cell? ⟨rb, ro + 1, none⟩ = some (.int .i64 e)
  f0 : w.frozen? ⟨rb, ro, none⟩ = false
  f1 : w.frozen? ⟨rb, ro + 1, none⟩ = false
  byt : Byt w a l
  cap : l.length ≤ cap
  blk : ∀ ad, a = some ad → ad = ⟨B, ad.off, none⟩
  ne : B ≠ rb

structure RUpd (w w' : World) (rb ro : Nat) : Prop where
  upd : Upd (fun k => k = rb) w w'
  rest : ∀ o, o ≠ ro → o ≠ ro + 1 → w'.cell? ⟨rb, o, none⟩ = w.cell? ⟨rb, o, none⟩ ∧ w'.frozen? ⟨rb, o, none⟩ = w.frozen? ⟨rb, o, none⟩
theorem RUpd.refl (w : World) (rb ro : Nat) : RUpd w w rb ro := ⟨Upd.refl _ _, fun _ _ _ => ⟨rfl, rfl⟩⟩
theorem RUpd.trans {a b c : World} {rb ro : Nat} (h : RUpd a b rb ro) (k : RUpd b c rb ro) : RUpd a c rb ro :=
  ⟨h.upd.same k.upd, fun o h1 h2 => ⟨(k.rest o h1 h2).1.trans (h.rest o h1 h2).1, (k.rest o h1 h2).2.trans (h.rest o h1 h2).2⟩⟩
theorem RUpd.ofBelow {w w' : World} {rb ro : Nat} (h : Below w.heap.size w w') (hr : rb < w.heap.size) : RUpd w w' rb ro :=
  ⟨(Upd.ofBelow h).mono (fun _ h _ => h.elim), fun o _ _ => ⟨h.cell (p := ⟨rb, o, none⟩) hr, h.frozen (p := ⟨rb, o, none⟩) hr⟩⟩
theorem Rdr.lt {w : World} {rb ro B : Nat} {l : List UInt8} {e : Int} {a : Option Addr} {cap : Nat} (h : Rdr w rb ro B l e a cap) : rb < w.heap.size := World.block_lt_of_cell? w _ h.c0
theorem Rdr.upd {S : Nat → Prop} {w w' : World} {rb ro B : Nat} {l : List UInt8} {e : Int} {a : Option Addr} {cap : Nat} (h : Rdr w rb ro B l e a cap) (hu : Upd S w w') (h1 : ¬ S rb) (h2 : ¬ S B) : Rdr w' rb ro B l e a cap :=
  ⟨hu.cell' h.c0 h1, hu.cell' h.c1 h1, (hu.frozen h.lt h1).trans h.f0, (hu.frozen h.lt h1).trans h.f1, h.byt.upd hu (fun ad ha _ => by rw [h.blk ad ha]; exact h2), h.cap, h.blk, h.ne⟩
/-- The error is set. -/
theorem Rdr.bad {w : World} {rb ro B : Nat} {l : List UInt8} {e e' : Int} {a : Option Addr} {cap : Nat} (h : Rdr w rb ro B l e a cap) : Rdr (w.setCell ⟨rb, ro + 1, none⟩ (.int .i64 e')) rb ro B l e' a cap ∧ RUpd w (w.setCell ⟨rb, ro + 1, none⟩ (.int .i64 e')) rb ro := by
  have hu : Upd (fun k => k = rb) w (w.setCell ⟨rb, ro + 1, none⟩ (.int .i64 e')) := (Upd.refl (fun k => k = rb) w).setCell (fun _ => rfl) _
  refine ⟨⟨(cell_other _ (by omega)).trans h.c0, cell_same h.c1, (frozen_same _ _ _ _).trans h.f0, (frozen_same _ _ _ _).trans h.f1, h.byt.upd hu (fun ad ha _ => by rw [h.blk ad ha]; exact h.ne), h.cap, h.blk, h.ne⟩, hu, ?_⟩
  intro o h1 h2
  exact ⟨cell_other _ (fun e => h2 e.symm), frozen_same _ _ _ _⟩
/-- Other bytes of that block are what is left. -/
theorem Rdr.turn {w : World} {rb ro B : Nat} {l l' : List UInt8} {e : Int} {a a' : Option Addr} {cap cap' : Nat} (h : Rdr w rb ro B l e a cap) (hb : Byt w a' l') (hc : l'.length ≤ cap') (hk : ∀ ad, a' = some ad → ad = ⟨B, ad.off, none⟩) :
    Rdr (w.setCell ⟨rb, ro, none⟩ (.slice a' l'.length cap')) rb ro B l' e a' cap' ∧ RUpd w (w.setCell ⟨rb, ro, none⟩ (.slice a' l'.length cap')) rb ro := by
  have hu : Upd (fun k => k = rb) w (w.setCell ⟨rb, ro, none⟩ (.slice a' l'.length cap')) := (Upd.refl (fun k => k = rb) w).setCell (fun _ => rfl) _
  refine ⟨⟨cell_same h.c0, (cell_other _ (by omega)).trans h.c1, (frozen_same _ _ _ _).trans h.f0, (frozen_same _ _ _ _).trans h.f1, hb.upd hu (fun ad ha _ => by rw [hk ad ha]; exact h.ne), hc, hk, h.ne⟩, hu, ?_⟩
  intro o h1 h2
  exact ⟨cell_other _ (fun e => h1 e.symm), frozen_same _ _ _ _⟩

theorem Byt.shift {w : World} {a : Option Addr} {l : List UInt8} (h : Byt w a l) (n : Nat) : Byt w (a.map (·.add n)) (l.drop n) := by
  intro i hi
  rw [List.length_drop] at hi
  obtain ⟨b, o, rfl, hc⟩ := h (n + i) (by omega)
  refine ⟨b, o + n, by rw [Option.map_some, Addr.add_lit], ?_⟩
  rw [Nat.add_assoc, hc]
  simp
/-- What take answers where there are enough. -/
def Took (w w' : World) (rb ro B n : Nat) (l : List UInt8) (r : Ending) : Prop :=
  ∃ a1 a2 cap2, r = .returned (.tuple #[.slice a1 n n, .bool true]) ∧ Byt w' a1 (l.take n) ∧ (∀ ad, a1 = some ad → ad = ⟨B, ad.off, none⟩) ∧ Rdr w' rb ro B (l.drop n) 0 a2 cap2 ∧ RUpd w w' rb ro
end Go.Proofs.YtnbpkignkfabkaaGreatDoor
namespace Go.Proofs.YtnbpkignkfabkaaGreatDoor
set_option linter.unusedVariables false
set_option linter.unusedSimpArgs false
open Go.RowKit
def rNum (l : List UInt8) (e : Int) (k : Int) : Nat × List UInt8 × Int :=
  if e = 0 then (if 1 ≤ k ∧ k ≤ 8 then (if k.toNat ≤ l.length then (ofBe (l.take k.toNat), l.drop k.toNat, 0) else (0, l, 30)) else (0, l, 34)) else (0, l, e)
/-- What a reader's call leaves: the answer, what is left, the error. -/
def RPost (w w' : World) (rb ro B : Nat) (r : Ending) (v : Value) (l : List UInt8) (e : Int) : Prop :=
  r = .returned v ∧ ∃ a cap, Rdr w' rb ro B l e a cap ∧ RUpd w w' rb ro

/-- Sixty-four bits as a signed number. -/
def sgn (n : Nat) : Int := wrap64 n
def rFlag (l : List UInt8) (e : Int) : Bool × List UInt8 × Int :=
  if e = 0 ∧ 0 < l.length ∧ 1 < (l.getD 0 0).toNat then (false, l, 34) else ((rNum l e 1).1 == 1, (rNum l e 1).2.1, (rNum l e 1).2.2)
/-- A reader's call that tells bytes of its own. -/
def BPost (w w' : World) (rb ro B : Nat) (r : Ending) (t l : List UInt8) (e : Int) : Prop :=
  ∃ v, r = .returned v ∧ Own w' w.heap.size 5 1 v t.length (bys t) ∧ ∃ a cap, Rdr w' rb ro B l e a cap ∧ RUpd w w' rb ro
def rBytes (l : List UInt8) (e : Int) : List UInt8 × List UInt8 × Int :=
  if e = 0 then (if 4 ≤ l.length then (if ofBe (l.take 4) ≤ 1048576 then (if ofBe (l.take 4) ≤ l.length - 4 then ((l.drop 4).take (ofBe (l.take 4)), (l.drop 4).drop (ofBe (l.take 4)), 0) else ([], l, 30)) else ([], l, 31)) else ([], l, 30)) else ([], l, e)

end Go.Proofs.YtnbpkignkfabkaaGreatDoor
