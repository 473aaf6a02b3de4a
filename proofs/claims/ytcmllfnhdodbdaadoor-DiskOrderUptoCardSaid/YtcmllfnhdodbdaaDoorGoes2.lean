/- posternlaw9.goes. -/
import Derived.Test.YtcmllfnhdodbdaaDoorGoes
import Derived.Deep.CutBlock
import Derived.Deep.DeepCutAuto
namespace Go.Proofs.YtcmllfnhdodbdaaDoor
set_option linter.unusedVariables false
set_option linter.unusedSimpArgs false
open Go.RowKit Go.Maps
/-- Two disks beside one another. -/
structure Pair (w : World) (B1 B2 db1 db2 : Nat) (F1 F2 : Nat → Prop) (s1 s2 : DS) : Prop where
  d1 : DkS w B1 db1 F1 s1
  d2 : DkS w B2 db2 F2 s2
  dj : ∀ k, F1 k → ¬ F2 k
section
variable {w w' : World} {B1 B2 db1 db2 : Nat} {F1 F2 : Nat → Prop} {s1 s2 t : DS}
theorem Pair.symm (h : Pair w B1 B2 db1 db2 F1 F2 s1 s2) : Pair w B2 B1 db2 db1 F2 F1 s2 s1 := ⟨h.d2, h.d1, fun k h2 h1 => h.dj k h1 h2⟩
theorem Pair.below (h : Pair w B1 B2 db1 db2 F1 F2 s1 s2) (hb : Below w.heap.size w w') : Pair w' B1 B2 db1 db2 F1 F2 s1 s2 := ⟨h.d1.below hb, h.d2.below hb, h.dj⟩
theorem Pair.step (h : Pair w B1 B2 db1 db2 F1 F2 s1 s2) (hs : DkStep w w' B1 db1 F1 t) : ∃ F', Pair w' B1 B2 db1 db2 F' F2 t s2 ∧ Upd F1 w w' ∧ Below B1 w w' ∧ ∀ k, F' k → F1 k ∨ w.heap.size ≤ k := by
  obtain ⟨F', h1, h2, h3, h4⟩ := hs
  exact ⟨F', ⟨h1, h.d2.upd h2 h.dj, fun k hk hf => (h4 k hk).elim (fun h9 => h.dj k h9 hf) (fun h9 => by have := (h.d2.fl k hf).2; omega)⟩, h2, h3, h4⟩
theorem Pair.read (h : Pair w B1 B2 db1 db2 F1 F2 s1 s2) (hd : DkS w' B1 db1 F1 s1) (hu : Upd (fun i => i = db1) w w') : Pair w' B1 B2 db1 db2 F1 F2 s1 s2 :=
  ⟨hd, h.d2.upd hu (fun k hk hf => h.dj k (by rw [hk]; exact h.d1.dk.at_) hf), h.dj⟩
end
theorem Upd.more {F S : Nat → Prop} {w a b : World} (h : Upd F w a) (k : Upd S a b) (hs : ∀ i, S i → F i ∨ w.heap.size ≤ i) : Upd F w b :=
  h.trans k (fun _ s _ => s) (fun i hi hl => (hs i hi).elim id (fun h9 => absurd h9 (Nat.not_le.2 hl)))
/-- While the power is off. -/
structure GoS (wS : World) (F0 : Nat → Prop) (w0 wr : World) (db Bd Be : Nat) (s : DS) (a : Option Addr) (F : Nat → Prop) : Prop where
  dk : DkS wr w0.heap.size db F s
  fil : FilZ wr Bd Be a s.C
  bel : Below w0.heap.size w0 wr
  ff : ∀ k, F k → k < Bd ∨ Be ≤ k
  be : Be ≤ wr.heap.size
  dbl : db < Bd
  up : Upd F0 wS wr
  f0 : ∀ k, F k → F0 k ∨ wS.heap.size ≤ k
section
variable {wS : World} {F0 : Nat → Prop} {w0 wr w' : World} {db Bd Be : Nat} {s t : DS} {a : Option Addr} {F : Nat → Prop}
theorem GoS.step (h : GoS wS F0 w0 wr db Bd Be s a F) (hs : DkStep wr w' w0.heap.size db F t) (hC : t.C = s.C) : ∃ F', GoS wS F0 w0 w' db Bd Be t a F' := by
  obtain ⟨F', h1, h2, h3, h4⟩ := hs
  exact ⟨F', h1, by rw [hC]; exact h.fil.upd h2 h.ff, h.bel.trans h3, fun k hk => (h4 k hk).elim (h.ff k) (fun h9 => .inr (Nat.le_trans h.be h9)), Nat.le_trans h.be h2.size, h.dbl, h.up.trans h2 (fun _ s _ => s) (fun k hk hl => (h.f0 k hk).elim id (fun h9 => absurd h9 (by omega))), fun k hk => (h4 k hk).elim (h.f0 k) (fun h9 => .inr (Nat.le_trans h.up.size h9))⟩
theorem GoS.read (h : GoS wS F0 w0 wr db Bd Be s a F) (hd : DkS w' w0.heap.size db F s) (hu : Upd (fun i => i = db) wr w') (hb : Below w0.heap.size wr w') : GoS wS F0 w0 w' db Bd Be s a F :=
  ⟨hd, h.fil.upd hu (fun k hk => .inl (by rw [hk]; exact h.dbl)), h.bel.trans hb, h.ff, Nat.le_trans h.be hu.size, h.dbl, h.up.trans hu (fun _ s _ => s) (fun k hk hl => by rw [hk]; exact (h.f0 db h.dk.dk.at_).elim id (fun h9 => by rw [hk] at hl; exact absurd h9 (by omega))), h.f0⟩
theorem GoS.below (h : GoS wS F0 w0 wr db Bd Be s a F) (hb : Below wr.heap.size wr w') : GoS wS F0 w0 w' db Bd Be s a F :=
  ⟨h.dk.below hb, h.fil.below hb, h.bel.trans (hb.mono h.dk.bw), h.ff, Nat.le_trans h.be hb.size, h.dbl, h.up.trans (Upd.ofBelow hb) (fun _ s _ => s) (fun _ s _ => s.elim), h.f0⟩
end
theorem may_off {s : DS} (h : s.off = true) (t : Bool) (Ns : List (List UInt8)) : s.may t Ns = 94 := by unfold DS.may; rw [if_pos h]
theorem doD_none {s : DS} {nm tn b : List UInt8} {d n : Int} (h : ¬ (d = 1 ∨ d = 2 ∨ d = 3 ∨ d = 4)) : doD s d nm tn b n = (0, false, s) := by
  unfold doD
  rw [if_neg (fun e => h (.inl e)), if_neg (fun e => h (.inr (.inl e))), if_neg (fun e => h (.inr (.inr (.inl e)))), if_neg (fun e => h (.inr (.inr (.inr e))))]
/-- On again, beside a disk that was loaded with its files. -/
structure GoT (wS : World) (F0 : Nat → Prop) (w0 wr : World) (db dc B2 : Nat) (i : Nat) (sc sd : DS) (Fd Fc : Nat → Prop) : Prop where
  pr : Pair wr w0.heap.size B2 db dc Fd Fc sd sc
  lk : Like sc sd
  wc : sc.writes ≤ i
  wd : sd.writes ≤ 1000 + i
  bel : Below w0.heap.size w0 wr
  b2 : w0.heap.size ≤ B2
  up : Upd F0 wS wr
  f0 : ∀ k, Fd k → F0 k ∨ wS.heap.size ≤ k
  f1 : ∀ k, Fc k → wS.heap.size ≤ k
theorem doD_wle {s : DS} {nm tn b : List UInt8} {d n : Int} (h : Calm s) : (doD s d nm tn b n).2.2.writes ≤ s.writes + 1 := by
  have := doD_writes (d := d) (nm := nm) (tn := tn) (b := b) (n := n) h
  split at this <;> omega
end Go.Proofs.YtcmllfnhdodbdaaDoor
