/- posternlaw9.goes. -/
import Derived.Test.YtnbpkignkfabkaaGreatDoorFiles
import Derived.Test.YtnbpkignkfabkaaGreatDoorOps9
import Derived.Laws.Cover1
import Derived.Test.YtnbpkignkfabkaaGreatDoorLoadP
import Derived.Test.YtnbpkignkfabkaaGreatDoorLoad
import Derived.Laws.Concat
import Derived.BigQuiet
import Derived.Deep.CutBlock
import Derived.Deep.DeepCutAuto
/- posternlaw9: sum, tells. -/
/- disk.Names. -/
namespace Go.Proofs.YtnbpkignkfabkaaGreatDoor
set_option linter.unusedVariables false
set_option linter.unusedSimpArgs false
open Go.RowKit Go.Maps Go.MuLone
/-- What Names comes to. -/
def NamesQ (o : Bool) (w w' : World) (base db mb : Nat) (k : DkV) (L : List Fl) (D : DataW Value) (C : Con) (r : Ending) : Prop :=
  ∃ v l, r = .returned (.tuple #[v, .int .i64 (if o = true then 94 else 0)]) ∧ l = (if o = true then [] else nmsC C) ∧ Own w' w.heap.size 9 1 v l.length (strs l) ∧ Dsk w' base db mb 0 k L D ∧ Upd (fun i => i = db) w w'
end Go.Proofs.YtnbpkignkfabkaaGreatDoor
namespace Go.Proofs.YtnbpkignkfabkaaGreatDoor
set_option linter.unusedVariables false
set_option linter.unusedSimpArgs false
open Go.RowKit Go.Maps
end Go.Proofs.YtnbpkignkfabkaaGreatDoor
namespace Go.Proofs.YtnbpkignkfabkaaGreatDoor
set_option linter.unusedVariables false
set_option linter.unusedSimpArgs false
open Go.RowKit Go.Maps
theorem bytesLess_lt : ∀ {a b : List UInt8}, a < b → Op.bytesLess a b = true
  | _, [], h => absurd h (List.not_lt_nil _)
  | [], _ :: _, _ => rfl
  | a :: x, b :: y, h => by
    rw [List.cons_lt_cons_iff] at h
    rcases h with h | ⟨rfl, h⟩
    · simp [Op.bytesLess, h]
    · simp [Op.bytesLess, bytesLess_lt h]
theorem sumC_take (C : Con) (i : Nat) (h : i < C.length) : sumC (C.take (i + 1)) = sumC (C.take i) + C[i].2.length := by
  have e : ([C[i]].map fun p => p.2.length).sum = C[i].2.length := by simp
  unfold sumC
  rw [List.take_succ_eq_append_getElem h, List.map_append, List.sum_append, e]
theorem sumC_take_le (C : Con) (i : Nat) : sumC (C.take i) ≤ sumC C := by
  have h : sumC C = sumC (C.take i) + sumC (C.drop i) := by
    unfold sumC
    rw [← List.sum_append, ← List.map_append, List.take_append_drop]
  omega
/-- What tells leaves. -/
def TellsP (w w' : World) (B db : Nat) (F : Nat → Prop) (s : DS) (r : Ending) : Prop := r = .returned (.bool true) ∧ DkS w' B db F s ∧ Upd (fun i => i = db) w w' ∧ Below B w w'
end Go.Proofs.YtnbpkignkfabkaaGreatDoor
/- Load, in whatever order files come; of a disk's own files. -/
namespace Go.Proofs.YtnbpkignkfabkaaGreatDoor
set_option linter.unusedVariables false
set_option linter.unusedSimpArgs false
open Go.RowKit
theorem setC_perm {C : Con} {nm b : List UInt8} (h : hasC C nm = false) : (setC C nm b).Perm ((nm, b) :: C) := by
  unfold setC
  rw [delC_no h]
  exact insC_perm _ _
theorem ldC_some (room : Nat) : ∀ (l C : Con), SortedC C → (∀ p ∈ l, nmOk p.1 = true) → (l.map (·.1)).Nodup → (∀ p ∈ l, hasC C p.1 = false) → sumC C + sumC l ≤ room → ∃ C', ldC room l C = some C' ∧ C'.Perm (C ++ l)
  | [], C, _, _, _, _, _ => ⟨C, rfl, by rw [List.append_nil]⟩
  | p :: r, C, hs, hn, hd, hc, hr => by
    have h1 := hc p (by simp)
    have h2 := hn p (by simp)
    have h3 : sumC (p :: r) = p.2.length + sumC r := rfl
    rw [h3] at hr
    have s := sum_set hs p.1 p.2
    rw [bytC_no h1] at s
    simp only [List.length_nil, Nat.add_zero] at s
    rw [List.map_cons, List.nodup_cons] at hd
    obtain ⟨C', e, hp⟩ := ldC_some room r (setC C p.1 p.2) (sorted_setC _ _ hs) (fun q hq => hn q (List.mem_cons_of_mem _ hq)) hd.2 (fun q hq => by
      rw [hasC_setC, hc q (List.mem_cons_of_mem _ hq), Bool.or_false]
      have : q.1 ≠ p.1 := fun e => hd.1 (List.mem_map.2 ⟨q, hq, e⟩)
      simpa using this) (by rw [s]; omega)
    refine ⟨C', ?_, ?_⟩
    · unfold ldC
      rw [if_neg]
      · exact e
      · rintro (h | h | h)
        · rw [h1] at h; cases h
        · rw [h2] at h; cases h
        · omega
    · refine hp.trans ?_
      have h9 := setC_perm (b := p.2) h1
      exact (h9.append_right r).trans (by rw [List.cons_append]; exact List.perm_middle.symm)
theorem ldC_inv (room : Nat) : ∀ (l C C' : Con), ldC room l C = some C' → SortedC C → sumC C ≤ room → (∀ p ∈ l, nmOk p.1 = true) ∧ (l.map (·.1)).Nodup ∧ (∀ p ∈ l, hasC C p.1 = false) ∧ sumC C + sumC l ≤ room
  | [], C, C', _, _, h => ⟨(fun _ h => by cases h), List.nodup_nil, (fun _ h => by cases h), by show sumC C + 0 ≤ room; omega⟩
  | p :: r, C, C', h, hs, hr => by
    unfold ldC at h
    split at h
    · cases h
    · rename_i hn
      have a1 : hasC C p.1 = false := by cases e : hasC C p.1; rfl; exact absurd (.inl e) hn
      have a2 : nmOk p.1 = true := by cases e : nmOk p.1; exact absurd (.inr (.inl e)) hn; rfl
      have a3 : sumC C + p.2.length ≤ room := by by_cases k : room < sumC C + p.2.length; exact absurd (.inr (.inr k)) hn; omega
      have s := sum_set hs p.1 p.2
      rw [bytC_no a1] at s
      simp only [List.length_nil, Nat.add_zero] at s
      obtain ⟨r1, r2, r3, r4⟩ := ldC_inv room r _ _ h (sorted_setC _ _ hs) (by omega)
      refine ⟨?_, ?_, ?_, ?_⟩
      · intro q hq
        rcases List.mem_cons.1 hq with rfl | hq
        · exact a2
        · exact r1 q hq
      · rw [List.map_cons, List.nodup_cons]
        refine ⟨fun hm => ?_, r2⟩
        obtain ⟨q, hq, e⟩ := List.mem_map.1 hm
        have := r3 q hq
        rw [hasC_setC] at this
        have e' : (q.1 == p.1) = true := by simpa using e
        rw [e', Bool.true_or] at this
        cases this
      · intro q hq
        rcases List.mem_cons.1 hq with rfl | hq
        · exact a1
        · have := r3 q hq
          rw [hasC_setC, Bool.or_eq_false_iff] at this
          exact this.2
      · have h3 : sumC (p :: r) = p.2.length + sumC r := rfl
        rw [h3]; omega
theorem ldC_perm (room : Nat) {l m : Con} (h : l.Perm m) : ldC room l [] = ldC room m [] := by
  have main : ∀ {l m : Con}, l.Perm m → ∀ C, ldC room l [] = some C → ldC room m [] = some C := by
    intro l m h C hC
    obtain ⟨r1, r2, r3, r4⟩ := ldC_inv room l [] C hC List.Pairwise.nil (Nat.zero_le _)
    obtain ⟨C2, e2, p2⟩ := ldC_some room m [] List.Pairwise.nil (fun p hp => r1 p (h.mem_iff.2 hp)) ((h.map _).nodup_iff.1 r2) (fun _ _ => rfl) (by rw [← sumC_perm h]; exact r4)
    obtain ⟨C1, e1, p1⟩ := ldC_some room l [] List.Pairwise.nil r1 r2 (fun _ _ => rfl) r4
    rw [hC] at e1
    cases e1
    have s1 := (ldC_ok room l [] C hC List.Pairwise.nil (fun _ h => by cases h) (Nat.zero_le _)).1
    have s2 := (ldC_ok room m [] C2 e2 List.Pairwise.nil (fun _ h => by cases h) (Nat.zero_le _)).1
    rw [e2, SortedC.perm s2 s1 ((p2.trans (by simpa using h.symm)).trans p1.symm)]
  cases e : ldC room l [] with
  | some C => exact (main h C e).symm
  | none =>
    cases e2 : ldC room m [] with
    | none => rfl
    | some C => rw [main h.symm C e2] at e; cases e
theorem loadR_perm (room : Int) {l m : Con} (h : l.Perm m) : loadR room l = loadR room m := by
  unfold loadR
  rw [ldC_perm _ h, h.length_eq]
/-- A disk's own files. -/
theorem loadR_self {s : DS} (h : s.ok) : loadR (s.room : Int) s.C = (0, some { DS.new s.room with C := s.C }) := by
  have h1 := h.r1; have h2 := h.r2; have h3 := h.len
  unfold loadR
  rw [if_neg (by omega), if_neg (by omega), Int.toNat_natCast]
  obtain ⟨C, e, p⟩ := ldC_some s.room s.C [] List.Pairwise.nil h.nm h.so.nodup (fun _ _ => rfl) (by have := h.sum; show 0 + sumC s.C ≤ s.room; omega)
  have s1 := (ldC_ok _ _ _ _ e List.Pairwise.nil (fun _ h => by cases h) (Nat.zero_le _)).1
  rw [e, SortedC.perm s1 h.so (by simpa using p)]
/-- What a Load that is OK has taken. -/
theorem loadR_took {room : Int} {l : Con} {s : DS} {e : Int} (h : loadR room l = (e, some s)) : s.C.Perm l ∧ (l.map (·.1)).Nodup ∧ l.length = s.C.length := by
  obtain ⟨_, _, _, _, _, _, _, hC, _, _⟩ := loadR_ok h
  obtain ⟨r1, r2, r3, r4⟩ := ldC_inv _ _ _ _ hC List.Pairwise.nil (Nat.zero_le _)
  obtain ⟨C1, e1, p1⟩ := ldC_some _ l [] List.Pairwise.nil r1 r2 (fun _ _ => rfl) r4
  rw [hC] at e1
  cases e1
  have p1' : s.C.Perm l := by simpa using p1
  exact ⟨p1', r2, p1'.length_eq.symm⟩
end Go.Proofs.YtnbpkignkfabkaaGreatDoor
/- posternlaw9: goes, kept. -/
namespace Go.Proofs.YtnbpkignkfabkaaGreatDoor
set_option linter.unusedVariables false
set_option linter.unusedSimpArgs false
open Go.RowKit Go.Maps
/-- Files in rows that lie from Bd up to Be. -/
def FilZ (w : World) (Bd Be : Nat) (a : Option Addr) (C : Con) : Prop := ∃ M c, Fio w Bd (.slice a C.length c) M ∧ conF M = C ∧ (∀ k, (Value.slice a C.length c).ownBlock = some k → k < Be) ∧ ∀ f ∈ M, ∀ k, f.val.ownBlock = some k → k < Be
section
variable {w w' : World} {Bd Be : Nat} {a : Option Addr} {C : Con}
theorem FilB.z (h : FilB w Bd a C) : FilZ w Bd w.heap.size a C := by
  obtain ⟨M, c, hf, hM⟩ := h
  exact ⟨M, c, hf, hM, fun k hk => (hf.own.lt k hk).2, fun f hm k hk => ((hf.byt f hm).2.lt k hk).2⟩
theorem FilZ.b (h : FilZ w Bd Be a C) : FilB w Bd a C := by
  obtain ⟨M, c, hf, hM, _, _⟩ := h
  exact ⟨M, c, hf, hM⟩
theorem FilZ.upd {S : Nat → Prop} (h : FilZ w Bd Be a C) (hu : Upd S w w') (hs : ∀ k, S k → k < Bd ∨ Be ≤ k) : FilZ w' Bd Be a C := by
  obtain ⟨M, c, hf, hM, h1, h2⟩ := h
  refine ⟨M, c, ⟨hf.own.upd hu (fun k hk s => ?_), fun f hm => ⟨(hf.byt f hm).1, (hf.byt f hm).2.upd hu (fun k hk s => ?_)⟩, hf.sep, hf.pair⟩, hM, h1, h2⟩
  · have := h1 k hk; have := (hf.own.lt k hk).1; rcases hs k s with h | h <;> omega
  · have := h2 f hm k hk; have := ((hf.byt f hm).2.lt k hk).1; rcases hs k s with h | h <;> omega
theorem FilZ.below (h : FilZ w Bd Be a C) (hb : Below w.heap.size w w') : FilZ w' Bd Be a C := h.upd (Upd.ofBelow hb) (fun _ s => s.elim)
end
end Go.Proofs.YtnbpkignkfabkaaGreatDoor
namespace Go.Proofs.YtnbpkignkfabkaaGreatDoor
set_option linter.unusedVariables false
set_option linter.unusedSimpArgs false
open Go.RowKit Go.Maps
/-- Two disks beside one another. -/
structure Pair (w : World) (B1 B2 db1 db2 : Nat) (F1 F2 : Nat → Prop) (s1 s2 : DS) : Prop where
  d1 : DkS w B1 db1 F1 s1
  d2 : DkS w B2 db2 F2 s2
  dj : ∀ k, F1 k → ¬ F2 k
section
variable {w w' : World} {B1 B2 db1 db2 : Nat} {F1 F2 : Nat → Prop} {s1 s2 t : DS}
theorem Pair.symm (h : Pair w B1 B2 db1 db2 F1 F2 s1 s2) : Pair w B2 B1 db2 db1 F2 F1 s2 s1 := ⟨h.d2, h.d1, fun k h2 h1 => h.dj k h1 h2⟩
theorem Pair.below (h : Pair w B1 B2 db1 db2 F1 F2 s1 s2) (hb : Below w.heap.size w w') : Pair w' B1 B2 db1 db2 F1 F2 s1 s2 := ⟨h.d1.below hb, h.d2.below hb, h.dj⟩
theorem Pair.step (h : Pair w B1 B2 db1 db2 F1 F2 s1 s2) (hs : DkStep w w' B1 db1 F1 t) : ∃ F', Pair w' B1 B2 db1 db2 F' F2 t s2 ∧ Upd F1 w w' ∧ Below B1 w w' ∧ ∀ k, F' k → F1 k ∨ w.heap.size ≤ k := by
  obtain ⟨F', h1, h2, h3, h4⟩ := hs
  exact ⟨F', ⟨h1, h.d2.upd h2 h.dj, fun k hk hf => (h4 k hk).elim (fun h9 => h.dj k h9 hf) (fun h9 => by have := (h.d2.fl k hf).2; omega)⟩, h2, h3, h4⟩
theorem Pair.read (h : Pair w B1 B2 db1 db2 F1 F2 s1 s2) (hd : DkS w' B1 db1 F1 s1) (hu : Upd (fun i => i = db1) w w') : Pair w' B1 B2 db1 db2 F1 F2 s1 s2 :=
  ⟨hd, h.d2.upd hu (fun k hk hf => h.dj k (by rw [hk]; exact h.d1.dk.at_) hf), h.dj⟩
end
theorem Upd.more {F S : Nat → Prop} {w a b : World} (h : Upd F w a) (k : Upd S a b) (hs : ∀ i, S i → F i ∨ w.heap.size ≤ i) : Upd F w b :=
  h.trans k (fun _ s _ => s) (fun i hi hl => (hs i hi).elim id (fun h9 => absurd h9 (Nat.not_le.2 hl)))
/-- While the power is off. -/
structure GoS (wS : World) (F0 : Nat → Prop) (w0 wr : World) (db Bd Be : Nat) (s : DS) (a : Option Addr) (F : Nat → Prop) : Prop where
  dk : DkS wr w0.heap.size db F s
  fil : FilZ wr Bd Be a s.C
  bel : Below w0.heap.size w0 wr
  ff : ∀ k, F k → k < Bd ∨ Be ≤ k
  be : Be ≤ wr.heap.size
  dbl : db < Bd
  up : Upd F0 wS wr
  f0 : ∀ k, F k → F0 k ∨ wS.heap.size ≤ k
section
variable {wS : World} {F0 : Nat → Prop} {w0 wr w' : World} {db Bd Be : Nat} {s t : DS} {a : Option Addr} {F : Nat → Prop}
theorem GoS.step (h : GoS wS F0 w0 wr db Bd Be s a F) (hs : DkStep wr w' w0.heap.size db F t) (hC : t.C = s.C) : ∃ F', GoS wS F0 w0 w' db Bd Be t a F' := by
  obtain ⟨F', h1, h2, h3, h4⟩ := hs
  exact ⟨F', h1, by rw [hC]; exact h.fil.upd h2 h.ff, h.bel.trans h3, fun k hk => (h4 k hk).elim (h.ff k) (fun h9 => .inr (Nat.le_trans h.be h9)), Nat.le_trans h.be h2.size, h.dbl, h.up.trans h2 (fun _ s _ => s) (fun k hk hl => (h.f0 k hk).elim id (fun h9 => absurd h9 (by omega))), fun k hk => (h4 k hk).elim (h.f0 k) (fun h9 => .inr (Nat.le_trans h.up.size h9))⟩
theorem GoS.read (h : GoS wS F0 w0 wr db Bd Be s a F) (hd : DkS w' w0.heap.size db F s) (hu : Upd (fun i => i = db) wr w') (hb : Below w0.heap.size wr w') : GoS wS F0 w0 w' db Bd Be s a F :=
  ⟨hd, h.fil.upd hu (fun k hk => .inl (by rw [hk]; exact h.dbl)), h.bel.trans hb, h.ff, Nat.le_trans h.be hu.size, h.dbl, h.up.trans hu (fun _ s _ => s) (fun k hk hl => by rw [hk]; exact (h.f0 db h.dk.dk.at_).elim id (fun h9 => by rw [hk] at hl; exact absurd h9 (by omega))), h.f0⟩
theorem GoS.below (h : GoS wS F0 w0 wr db Bd Be s a F) (hb : Below wr.heap.size wr w') : GoS wS F0 w0 w' db Bd Be s a F :=
  ⟨h.dk.below hb, h.fil.below hb, h.bel.trans (hb.mono h.dk.bw), h.ff, Nat.le_trans h.be hb.size, h.dbl, h.up.trans (Upd.ofBelow hb) (fun _ s _ => s) (fun _ s _ => s.elim), h.f0⟩
end
theorem may_off {s : DS} (h : s.off = true) (t : Bool) (Ns : List (List UInt8)) : s.may t Ns = 94 := by unfold DS.may; rw [if_pos h]
theorem doD_none {s : DS} {nm tn b : List UInt8} {d n : Int} (h : ¬ (d = 1 ∨ d = 2 ∨ d = 3 ∨ d = 4)) : doD s d nm tn b n = (0, false, s) := by
  unfold doD
  rw [if_neg (fun e => h (.inl e)), if_neg (fun e => h (.inr (.inl e))), if_neg (fun e => h (.inr (.inr (.inl e)))), if_neg (fun e => h (.inr (.inr (.inr e))))]
/-- On again, beside a disk that was loaded with its files. -/
structure GoT (wS : World) (F0 : Nat → Prop) (w0 wr : World) (db dc B2 : Nat) (i : Nat) (sc sd : DS) (Fd Fc : Nat → Prop) : Prop where
  pr : Pair wr w0.heap.size B2 db dc Fd Fc sd sc
  lk : Like sc sd
  wc : sc.writes ≤ i
  wd : sd.writes ≤ 1000 + i
  bel : Below w0.heap.size w0 wr
  b2 : w0.heap.size ≤ B2
  up : Upd F0 wS wr
  f0 : ∀ k, Fd k → F0 k ∨ wS.heap.size ≤ k
  f1 : ∀ k, Fc k → wS.heap.size ≤ k
theorem doD_wle {s : DS} {nm tn b : List UInt8} {d n : Int} (h : Calm s) : (doD s d nm tn b n).2.2.writes ≤ s.writes + 1 := by
  have := doD_writes (d := d) (nm := nm) (tn := tn) (b := b) (n := n) h
  split at this <;> omega
end Go.Proofs.YtnbpkignkfabkaaGreatDoor
