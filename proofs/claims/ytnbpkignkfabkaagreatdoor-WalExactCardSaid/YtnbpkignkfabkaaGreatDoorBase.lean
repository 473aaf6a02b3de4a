/- What all texts here use: frames, rows of bytes that are read, rows that the call itself owns, append out of any source. No program in sight but its table of types. -/
import Derived.Test.YtnbpkignkfabkaaGreatDoorProg
import Derived.WalkKit
import Derived.WalkSpells
import Derived.WalkLawsBesides
import Derived.Lib.Hide
import Derived.Deep.AppendSrc
import Derived.Deep.RegionLaw
namespace Go.Proofs.YtnbpkignkfabkaaGreatDoor
set_option linter.unusedVariables false
set_option linter.unusedSimpArgs false
open Go.RowKit

/-- All blocks of w but those of S are in w' as they were. -/
structure Upd (S : Nat → Prop) (w w' : World) : Prop where
  os : w'.os = w.os
  tape : w'.tape = w.tape
  output : w'.output = w.output
  size : w.heap.size ≤ w'.heap.size
  block : ∀ k, k < w.heap.size → ¬ S k → w'.heap[k]? = w.heap[k]?

theorem Upd.refl (S : Nat → Prop) (w : World) : Upd S w w := ⟨rfl, rfl, rfl, Nat.le_refl _, fun _ _ _ => rfl⟩
theorem Upd.trans {S S1 S2 : Nat → Prop} {a b c : World} (h : Upd S1 a b) (k : Upd S2 b c) (h1 : ∀ i, S1 i → i < a.heap.size → S i) (h2 : ∀ i, S2 i → i < a.heap.size → S i) : Upd S a c :=
  ⟨k.os.trans h.os, k.tape.trans h.tape, k.output.trans h.output, Nat.le_trans h.size k.size, fun i hi hs =>
    (k.block i (Nat.lt_of_lt_of_le hi h.size) (fun x => hs (h2 i x hi))).trans (h.block i hi (fun x => hs (h1 i x hi)))⟩
theorem Upd.same {S : Nat → Prop} {a b c : World} (h : Upd S a b) (k : Upd S b c) : Upd S a c := h.trans k (fun _ h _ => h) (fun _ h _ => h)
theorem Upd.mono {S S' : Nat → Prop} {w w' : World} (h : Upd S w w') (hs : ∀ k, S k → k < w.heap.size → S' k) : Upd S' w w' :=
  ⟨h.os, h.tape, h.output, h.size, fun k hk hn => h.block k hk (fun x => hn (hs k x hk))⟩
theorem Upd.drew {S : Nat → Prop} {a w : World} (h : Upd S a w) : Upd S a w.drew := ⟨h.os, h.tape, h.output, h.size, h.block⟩
theorem Upd.drewN {S : Nat → Prop} {a w : World} (h : Upd S a w) (n : Nat) : Upd S a (w.drewN n) := ⟨h.os, h.tape, h.output, h.size, h.block⟩
theorem Upd.alloc {S : Nat → Prop} {a w : World} (h : Upd S a w) (o : Obj) : Upd S a (w.alloc o) :=
  h.same ⟨rfl, rfl, rfl, by simp, fun k hk _ => Below.heap_alloc _ _ _ hk⟩
theorem Upd.setCell {S : Nat → Prop} {a w : World} (h : Upd S a w) {p : Addr} (hp : p.block < a.heap.size → S p.block) (u : Value) : Upd S a (w.setCell p u) :=
  h.trans (S1 := S) (S2 := fun k => k = p.block) ⟨rfl, rfl, rfl, by simp [World.setCell], fun k _ hk => Below.heap_setCell _ _ _ _ hk⟩ (fun _ h _ => h) (fun _ e h => by subst e; exact hp h)
theorem Upd.grown {S : Nat → Prop} {a w w' : World} {row : Option Nat} (h : Upd S a w) (hg : w.grownBy w' row) (hr : ∀ k, row = some k → k < a.heap.size → S k) : Upd S a w' :=
  h.trans (S1 := S) (S2 := fun k => row = some k) ⟨hg.os, hg.tape, hg.output, hg.size, fun k hk hn => hg.block k hk (fun e => hn e.symm)⟩ (fun _ h _ => h) (fun k e h => hr k e h)
theorem Upd.below {S : Nat → Prop} {w w' : World} {B : Nat} (h : Upd S w w') (hS : ∀ k, S k → k < w.heap.size → B ≤ k) (hB : B ≤ w.heap.size) : Below B w w' :=
  ⟨h.os, h.tape, h.output, h.size, fun k hk => h.block k (Nat.lt_of_lt_of_le hk hB) (fun x => by have := hS k x (Nat.lt_of_lt_of_le hk hB); omega)⟩
theorem Upd.ofBelow {w w' : World} (h : Below w.heap.size w w') : Upd (fun _ => False) w w' := ⟨h.os, h.tape, h.output, h.size, fun k hk _ => h.block k hk⟩
theorem Upd.ofBelowB {w w' : World} {B : Nat} (h : Below B w w') : Upd (fun k => B ≤ k) w w' := ⟨h.os, h.tape, h.output, h.size, fun k _ hn => h.block k (by omega)⟩
theorem Upd.cell {S : Nat → Prop} {w w' : World} (h : Upd S w w') {p : Addr} (hp : p.block < w.heap.size) (hs : ¬ S p.block) : w'.cell? p = w.cell? p := World.cell?_of_block (w := w) (h.block _ hp hs)
theorem Upd.frozen {S : Nat → Prop} {w w' : World} (h : Upd S w w') {p : Addr} (hp : p.block < w.heap.size) (hs : ¬ S p.block) : w'.frozen? p = w.frozen? p := World.frozen?_of_block (w := w) (h.block _ hp hs)
theorem Upd.cell' {S : Nat → Prop} {w w' : World} (h : Upd S w w') {p : Addr} {v : Value} (hc : w.cell? p = some v) (hs : ¬ S p.block) : w'.cell? p = some v := (h.cell (World.block_lt_of_cell? w p hc) hs).trans hc
theorem bel_drewN {B : Nat} {a w : World} (h : Below B a w) (n : Nat) : Below B a (w.drewN n) := ⟨h.os, h.tape, h.output, h.size, h.block⟩
/-! ### Rows that the call itself owns: nil, or a block from 'base' on that begins with these cells and may be written. -/
def NoFr (fr : Nat × Nat) (n : Nat) : Prop := ∀ o, o < n → ¬ (fr.1 ≤ o ∧ o < fr.2)
theorem NoFr.zero (n : Nat) : NoFr (0, 0) n := fun _ _ h => by have := h.2; omega
def Own (w : World) (base : Nat) (e : TypeId) (size : Nat) (v : Value) (n : Nat) (xs : List Value) : Prop :=
  xs.length = n * size ∧
  ((v = .slice none 0 0 ∧ n = 0) ∨
   ∃ g cap cur fr, v = .slice (some ⟨g, 0, none⟩) n cap ∧ base ≤ g ∧ w.heap[g]? = some (.cells cur e fr) ∧ NoFr fr cur.size ∧ n ≤ cap ∧ cap ≤ maxLen ∧ cur.size = cap * size ∧ cur.toList.take (n * size) = xs)

section
variable {w w' : World} {base base' : Nat} {e : TypeId} {size : Nat} {v : Value} {n : Nat} {xs : List Value}
theorem Own.ofRow (h : w.ownsRow base e size v n xs) : Own w base e size v n xs := by
  refine ⟨h.1, ?_⟩
  rcases h.2 with h | ⟨g, cap, cur, hv, hb, hg, r⟩
  · exact .inl h
  · exact .inr ⟨g, cap, cur, (0, 0), hv, hb, hg, NoFr.zero _, r⟩
theorem Own.nil (w : World) (base : Nat) (e : TypeId) (size : Nat) : Own w base e size (.slice none 0 0) 0 [] := ⟨by simp, .inl ⟨rfl, rfl⟩⟩
theorem Own.upd {S : Nat → Prop} (h : Upd S w w') (ho : Own w base e size v n xs) (hs : ∀ k, v.ownBlock = some k → ¬ S k) : Own w' base e size v n xs := by
  refine ⟨ho.1, ?_⟩
  rcases ho.2 with hn | ⟨g, cap, cur, fr, rfl, hb, hgg, rest⟩
  · exact .inl hn
  · exact .inr ⟨g, cap, cur, fr, rfl, hb, (h.block g (lt_of_block hgg) (hs g rfl)).trans hgg, rest⟩
theorem Own.below (ho : Own w base e size v n xs) (h : Below w.heap.size w w') : Own w' base e size v n xs := ho.upd (Upd.ofBelow h) (fun _ _ h => h)
theorem Own.drew (h : Own w base e size v n xs) : Own w.drew base e size v n xs := h
theorem Own.alloc (h : Own w base e size v n xs) (o : Obj) : Own (w.alloc o) base e size v n xs := h.upd ((Upd.refl (fun _ => False) w).alloc o) (fun _ _ h => h)
theorem Own.setCell_other (h : Own w base e size v n xs) {a : Addr} (ha : v.ownBlock ≠ some a.block) (u : Value) : Own (w.setCell a u) base e size v n xs :=
  h.upd ((Upd.refl (fun k => k = a.block) w).setCell (fun _ => rfl) u) (fun k e h => ha (by rw [e, h]))
theorem Own.mono (ho : Own w base e size v n xs) (hb : base' ≤ base) : Own w base' e size v n xs := by
  refine ⟨ho.1, ?_⟩
  rcases ho.2 with hn | ⟨g, cap, cur, fr, rfl, hb', rest⟩
  · exact .inl hn
  · exact .inr ⟨g, cap, cur, fr, rfl, by omega, rest⟩
theorem Own.rebase (ho : Own w base e size v n xs) (hb : ∀ k, v.ownBlock = some k → base' ≤ k) : Own w base' e size v n xs := by
  refine ⟨ho.1, ?_⟩
  rcases ho.2 with hn | ⟨g, cap, cur, fr, rfl, hb', rest⟩
  · exact .inl hn
  · exact .inr ⟨g, cap, cur, fr, rfl, hb g rfl, rest⟩
theorem Own.lt (h : Own w base e size v n xs) : ∀ k, v.ownBlock = some k → base ≤ k ∧ k < w.heap.size := by
  intro k hk
  rcases h.2 with ⟨rfl, _⟩ | ⟨g, cap, cur, fr, rfl, hb, hg, _⟩
  · simp [Value.ownBlock] at hk
  · simp [Value.ownBlock] at hk
    subst hk
    exact ⟨hb, lt_of_block hg⟩
theorem Own.shape (h : Own w base e size v n xs) (hn : 0 < n) : ∃ g cap, v = .slice (some ⟨g, 0, none⟩) n cap := by
  rcases h.2 with ⟨_, h⟩ | ⟨g, cap', _, _, h, _⟩
  · omega
  · exact ⟨g, cap', h⟩
theorem Own.shape' (h : Own w base e size v n xs) : ∃ a cap, v = .slice a n cap ∧ n ≤ cap ∧ (∀ ad, a = some ad → ad = ⟨ad.block, 0, none⟩ ∧ base ≤ ad.block ∧ ad.block < w.heap.size) ∧ v.ownBlock = a.map (·.block) := by
  rcases h.2 with ⟨rfl, h0⟩ | ⟨g, cap, cur, fr, rfl, hb, hg, _, hn, _⟩
  · subst h0; exact ⟨none, 0, rfl, Nat.le_refl _, (fun _ h => by cases h), rfl⟩
  · refine ⟨some ⟨g, 0, none⟩, cap, rfl, hn, ?_, rfl⟩
    rintro ad e
    cases e
    exact ⟨rfl, hb, lt_of_block hg⟩
theorem cell_of_row' {g j : Nat} {cur : Array Value} {fr : Nat × Nat} (h : w.heap[g]? = some (.cells cur e fr)) : w.cell? ⟨g, j, none⟩ = cur[j]? := by simp [World.cell?, h]
theorem Own.cellAt {g cap : Nat} (h : Own w base e size (.slice (some ⟨g, 0, none⟩) n cap) n xs) (j : Nat) (hj : j < n * size) : w.cell? ⟨g, j, none⟩ = xs[j]? := by
  rcases h.2 with ⟨h, _⟩ | ⟨g', cap', cur, fr, hv, _, hg, _, _, _, _, ht⟩
  · cases h
  · cases hv
    rw [cell_of_row' hg, ← ht, List.getElem?_take, if_pos hj, Array.getElem?_toList]
theorem Own.frozenAt {g cap : Nat} (h : Own w base e size (.slice (some ⟨g, 0, none⟩) n cap) n xs) (j : Nat) (hj : j < n * size) : w.frozen? ⟨g, j, none⟩ = false := by
  rcases h.2 with ⟨h, _⟩ | ⟨g', cap', cur, fr, hv, _, hg, hf, hn, _, hs, ht⟩
  · cases h
  · cases hv
    have hlt : j < cur.size := by rw [hs]; exact Nat.lt_of_lt_of_le hj (Nat.mul_le_mul_right _ hn)
    have := hf j hlt
    obtain ⟨lo, hi⟩ := fr
    simp only [World.frozen?, hg]
    simp only at this
    simp only [Bool.and_eq_false_iff, decide_eq_false_iff_not]
    omega
theorem Own.cells (h : Own w base e size v n xs) {g : Nat} (hg : v.ownBlock = some g) : ∀ j u, xs[j]? = some u → w.cell? ⟨g, j, none⟩ = some u := by
  intro j u hu
  obtain ⟨a, cap, rfl, hn, ha, hb⟩ := h.shape'
  rw [hb] at hg
  obtain ⟨ad, rfl, rfl⟩ := Option.map_eq_some_iff.1 hg
  have hj := (List.getElem?_eq_some_iff.1 hu).1
  rw [h.1] at hj
  have h' := h
  rw [(ha _ rfl).1] at h'
  rw [h'.cellAt j hj]
  exact hu
end

/-- Cells that are stored one behind the other. -/
theorem setCells_heap (g : Nat) : ∀ (vs : List Value) (o : Nat) (w : World) (cur : Array Value) (e : TypeId) (fr : Nat × Nat), w.heap[g]? = some (.cells cur e fr) → o + vs.length ≤ cur.size →
    ∃ cur', (w.setCells g o vs).heap[g]? = some (.cells cur' e fr) ∧ cur'.size = cur.size ∧ cur'.toList = cur.toList.take o ++ vs ++ cur.toList.drop (o + vs.length)
  | [], o, w, cur, e, fr, h, _ => ⟨cur, h, rfl, by simp⟩
  | v :: r, o, w, cur, e, fr, h, hf => by
    have hlt := lt_of_block h
    have hv : w.heap[g] = .cells cur e fr := (Array.getElem?_eq_some_iff.1 h).2
    have h1 : (w.setCell ⟨g, o, none⟩ v).heap[g]? = some (.cells (cur.setIfInBounds o v) e fr) := by
      show (w.heap.modify g _)[g]? = _
      rw [Array.getElem?_eq_getElem (by simpa using hlt), Array.getElem_modify_self, hv]
      rfl
    simp only [List.length_cons] at hf
    obtain ⟨cur', h2, h3, h4⟩ := setCells_heap g r (o + 1) (w.setCell ⟨g, o, none⟩ v) _ e fr h1 (by simp; omega)
    refine ⟨cur', h2, by rw [h3]; simp, ?_⟩
    rw [h4, Array.toList_setIfInBounds]
    have hl : o < cur.toList.length := by simp; omega
    rw [List.take_succ_eq_append_getElem (by simpa using hl), List.getElem_set_self, List.take_set_of_le (Nat.le_refl _), List.drop_set_of_lt (by omega)]
    simp [Nat.add_comm, Nat.add_left_comm]
theorem setCells_upd (g : Nat) : ∀ (vs : List Value) (o : Nat) (w : World), Upd (fun k => k = g) w (w.setCells g o vs)
  | [], _, w => Upd.refl _ w
  | v :: r, o, w => ((Upd.refl (fun k => k = g) w).setCell (p := ⟨g, o, none⟩) (fun _ => rfl) v).same (setCells_upd g r (o + 1) _)

/-! ### Bytes -/
def bys (l : List UInt8) : List Value := l.map fun c => Value.int .u8 (c.toNat : Int)
theorem bys_length (l : List UInt8) : (bys l).length = l.length := by simp [bys]
theorem bys_append (a b : List UInt8) : bys (a ++ b) = bys a ++ bys b := by simp [bys]
theorem bys_get {l : List UInt8} {i : Nat} (h : i < l.length) : (bys l)[i]? = some (.int .u8 (l[i].toNat : Int)) := by simp [bys, h]
theorem bys_one (l : List UInt8) : ∀ u ∈ bys l, u.oneCell' = true := by
  intro u hu
  obtain ⟨_, _, rfl⟩ := List.mem_map.1 hu
  rfl

/-- Bytes stand at a. -/
def Byt (w : World) (a : Option Addr) (xs : List UInt8) : Prop :=
  ∀ i (h : i < xs.length), ∃ b o, a = some ⟨b, o, none⟩ ∧ w.cell? ⟨b, o + i, none⟩ = some (.int .u8 (xs[i].toNat : Int))

theorem Byt.nil (w : World) (a : Option Addr) : Byt w a [] := fun i h => absurd h (Nat.not_lt_zero _)
theorem Byt.at_ {w : World} {b o : Nat} {xs : List UInt8} (h : Byt w (some ⟨b, o, none⟩) xs) {i : Nat} (hi : i < xs.length) : w.cell? ⟨b, o + i, none⟩ = some (.int .u8 (xs[i].toNat : Int)) := by
  obtain ⟨_, _, e, h⟩ := h i hi
  cases e
  exact h
theorem Byt.upd {S : Nat → Prop} {w w' : World} {a : Option Addr} {xs : List UInt8} (h : Byt w a xs) (hu : Upd S w w') (hs : ∀ ad, a = some ad → xs ≠ [] → ¬ S ad.block) : Byt w' a xs := by
  intro i hi
  obtain ⟨b, o, rfl, hc⟩ := h i hi
  exact ⟨b, o, rfl, hu.cell' hc (hs ⟨b, o, none⟩ rfl (by intro e; simp [e] at hi))⟩
theorem Byt.below {w w' : World} {a : Option Addr} {xs : List UInt8} (h : Byt w a xs) (hu : Below w.heap.size w w') : Byt w' a xs := h.upd (Upd.ofBelow hu) (fun _ _ _ h => h)
theorem Byt.alloc {w : World} {a : Option Addr} {xs : List UInt8} (h : Byt w a xs) (o : Obj) : Byt (w.alloc o) a xs := h.upd ((Upd.refl (fun _ => False) w).alloc o) (fun _ _ _ h => h)
theorem Byt.lt {w : World} {ad : Addr} {xs : List UInt8} (h : Byt w (some ad) xs) (hx : xs ≠ []) : ad.block < w.heap.size := by
  obtain ⟨b, o, e, hc⟩ := h 0 (by cases xs; exact absurd rfl hx; simp)
  cases e
  exact World.block_lt_of_cell? w _ hc
theorem Byt.add {w : World} {ad : Addr} {xs : List UInt8} (h : Byt w (some ad) xs) : ∀ j u, (bys xs)[j]? = some u → w.cell? (ad.add j) = some u := by
  intro j u hu
  have hj : j < xs.length := by
    have := (List.getElem?_eq_some_iff.1 hu).1
    rwa [bys_length] at this
  obtain ⟨b, o, e, hc⟩ := h j hj
  cases e
  rw [Addr.add_lit, hc, ← bys_get hj]
  exact hu
/-- A part of the bytes, further on. -/
theorem Byt.part {w : World} {b o : Nat} {xs : List UInt8} (h : Byt w (some ⟨b, o, none⟩) xs) (i j : Nat) : Byt w (some ⟨b, o + i, none⟩) ((xs.drop i).take j) := by
  intro k hk
  have hk' : i + k < xs.length := by simp at hk; omega
  refine ⟨b, o + i, rfl, ?_⟩
  rw [Nat.add_assoc, h.at_ hk']
  simp
theorem Byt.take {w : World} {a : Option Addr} {xs : List UInt8} (h : Byt w a xs) (j : Nat) : Byt w a (xs.take j) := by
  intro k hk
  obtain ⟨b, o, e, hc⟩ := h k (by simp at hk; omega)
  exact ⟨b, o, e, by rw [hc]; simp⟩

theorem Src_byt {P : Program} {tx : TypeId} {e' : TypeId} (hk : P.underlying tx = some (.slice e')) {w : World} {a : Option Addr} {xs : List UInt8} {c : Nat} (h : Byt w a xs) (hn : a = none → c = 0 ∨ True) : Src P 1 tx (.slice a xs.length c) xs.length (bys xs) w := by
  cases a with
  | none =>
    have : xs = [] := by
      cases xs with
      | nil => rfl
      | cons x xs => obtain ⟨_, _, e, _⟩ := h 0 (by simp); cases e
    subst this
    exact Src.ofNil w hk c
  | some ad => exact Src.ofSlice w hk ad xs.length c (bys xs) (by rw [bys_length, Nat.mul_one]) h.add (bys_one xs)

/-- What is owned is read. -/
theorem own_val {w : World} {base : Nat} {e : TypeId} {v : Value} {n : Nat} {xs : List UInt8} (h : Own w base e 1 v n (bys xs)) :
    ∃ a cap, v = .slice a xs.length cap ∧ n = xs.length ∧ xs.length ≤ cap ∧ Byt w a xs ∧ v.ownBlock = a.map (·.block) ∧ (∀ ad, a = some ad → ad = ⟨ad.block, 0, none⟩ ∧ base ≤ ad.block ∧ ad.block < w.heap.size) := by
  have hl : xs.length = n := by have := h.1; rw [bys_length, Nat.mul_one] at this; exact this
  subst hl
  obtain ⟨a, cap, rfl, hn, ha, hb⟩ := h.shape'
  refine ⟨a, cap, rfl, rfl, hn, ?_, hb, ha⟩
  intro i hi
  cases a with
  | none =>
    rcases h.2 with ⟨_, h0⟩ | ⟨_, _, _, _, h0, _⟩
    · omega
    · cases h0
  | some ad =>
    refine ⟨ad.block, 0, by rw [← (ha ad rfl).1], ?_⟩
    rw [Nat.zero_add]
    exact h.cells rfl i _ (bys_get hi)
/-! ### append onto a row of the call's own, out of any source -/
theorem own_grown_new {w : World} {base : Nat} {e : TypeId} {size : Nat} {n m : Nat} {xs news : List Value} {z : Array Value} (hz : z.size = size) (h1 : xs.length = n * size) (h2 : news.length = m * size) (old : Nat) (h63 : n + m ≤ maxLen) (hbase : base ≤ w.heap.size) :
    Own (w.drew.alloc (.cells ((xs ++ news).toArray ++ Builtin.zeroCells z (grownCap w (n + m) old e - (n + m))) e)) base e size (.slice (some ⟨w.heap.size, 0, none⟩) (n + m) (grownCap w (n + m) old e)) (n + m) (xs ++ news) := by
  have hge := grownCap_ge w (n + m) old e
  have hcm : grownCap w (n + m) old e ≤ maxLen := grownCap_le_maxLen w (n + m) old e h63
  have hlen : (xs ++ news).length = (n + m) * size := by rw [List.length_append, h1, h2, Nat.add_mul]
  refine ⟨hlen, .inr ⟨w.heap.size, _, _, (0, 0), rfl, hbase, heap_alloc_new w.drew _, NoFr.zero _, hge, hcm, ?_, ?_⟩⟩
  · rw [Array.size_append, List.size_toArray, hlen, size_zeroCells, hz, ← Nat.add_mul]
    congr 1
    omega
  · rw [Array.toList_append, ← hlen]
    exact List.take_left

theorem run_append_any {P : Program} (w : World) (base : Nat) (t tx ty e : TypeId) (i : TypeInfo) (z : Value) (size bytes : Nat) (ht : P.underlying t = some (.slice e)) (hi : P.info? e = some i) (hz : i.zero = some z)
    (hsize : i.size = size) (hby : i.bytes = bytes) (hzs : z.cells.size = size)
    (v : Value) (n : Nat) (xs : List Value) (hown : Own w base e size v n xs) (x : Value) (m : Nat) (news : List Value) (hs : Src P size tx x m news w)
    (h63 : n + m ≤ maxLen) (hbytes : (n + m) * bytes ≤ 140737488355328) (hbase : base ≤ w.heap.size) :
    ∃ v' w', (Builtin.append_ #[t, tx] ty #[v, x]).run P w = .ok v' w' ∧ Own w' base e size v' (n + m) (xs ++ news) ∧ w.grownBy w' v.ownBlock ∧
      (v' = .slice none 0 0 ↔ v = .slice none 0 0 ∧ m = 0) ∧ (v'.ownBlock = v.ownBlock ∨ v'.ownBlock = some w.heap.size) := by
  subst hsize
  subst hby
  have hsmall : n + m ≤ 9223372036854775807 := by simp only [maxLen] at h63; omega
  have grows : ∀ (old : Nat) (row : Option Nat) (base' : Option Addr), old < n + m → (Builtin.firstCells i.size n (.slice base' n old)).run P w.drew = .ok xs.toArray w.drew →
      ∃ v' w', (Builtin.append_ #[t, tx] ty #[.slice base' n old, x]).run P w = .ok v' w' ∧ Own w' base e i.size v' (n + m) (xs ++ news) ∧ w.grownBy w' row ∧ v' = .slice (some ⟨w.heap.size, 0, none⟩) (n + m) (grownCap w (n + m) old e) := by
    intro old row base' ho hf
    exact ⟨_, _, run_append_grow_src w t tx ty e i z ht hi hz base' n old xs hf x m news hs ho (by omega) (growslice_fits ho hbytes), own_grown_new hzs hown.1 hs.newsLen old h63 hbase, ⟨rfl, rfl, rfl, by simp, fun k hk _ => Below.heap_alloc w.drew _ k hk⟩, rfl⟩
  rcases hown.2 with ⟨rfl, rfl⟩ | ⟨g, cap, cur, fr, rfl, hbg, hg, hfr, hnc, hcm, hcs, htake⟩
  · have hx : xs = [] := List.eq_nil_of_length_eq_zero (by simpa using hown.1)
    subst hx
    by_cases hm : m = 0
    · subst hm
      have hn : news = [] := List.eq_nil_of_length_eq_zero (by simpa using hs.newsLen)
      subst hn
      refine ⟨.slice none 0 0, w, ?_, Own.nil w base e i.size, ⟨rfl, rfl, rfl, Nat.le_refl _, fun _ _ _ => rfl⟩, by simp, .inl rfl⟩
      have lenNil : ∀ w' : World, (Builtin.lenOf (.slice none 0 0)).run P w' = .ok 0 w' := fun _ => rfl
      rcases hs.kind with ⟨e', hk⟩ | hk <;> simp [Builtin.append_, run_underlying ht, run_underlying hk, sizeOf, typeInfo, hi, lenNil, hs.len, hs.cells]
    · obtain ⟨v', w', h1, h2, h3, rfl⟩ := grows 0 (Value.ownBlock (.slice none 0 0)) none (by omega) (run_firstCells_none w.drew i.size 0 0 0)
      exact ⟨_, _, h1, h2, h3, by simp [hm], .inr rfl⟩
  · by_cases hroom : n + m ≤ cap
    · have hfit : n * i.size + news.length ≤ cur.size := by rw [hs.newsLen, hcs, ← Nat.add_mul]; exact Nat.mul_le_mul_right _ hroom
      have hin : ∀ j, j < news.length → 0 + n * i.size + j < cur.size := fun j hj => by omega
      have hr := run_append_room_src w t tx ty e i ht hi g 0 n cap x m news hs hroom (fun j hj => by rw [cell_of_row' hg, Array.getElem?_eq_getElem (hin j hj)]; rfl) (fun j hj => by
        have := hfr _ (hin j hj)
        obtain ⟨lo, hi⟩ := fr
        simp only [World.frozen?, hg]
        simp only at this
        simp only [Bool.and_eq_false_iff, decide_eq_false_iff_not]
        omega)
      rw [Nat.zero_add] at hr
      obtain ⟨cur', h1, h2, h3⟩ := setCells_heap g news (n * i.size) w cur e fr hg hfit
      have hu := setCells_upd g news (n * i.size) w
      refine ⟨_, _, hr, ⟨by rw [List.length_append, hown.1, hs.newsLen, Nat.add_mul], .inr ⟨g, cap, cur', fr, rfl, hbg, h1, by rw [h2]; exact hfr, hroom, hcm, by rw [h2]; exact hcs, ?_⟩⟩, ⟨hu.os, hu.tape, hu.output, hu.size, fun k hk hn => hu.block k hk (fun e => hn (by simp [Value.ownBlock, e]))⟩, by simp, .inl rfl⟩
      rw [h3, htake, Nat.add_mul, ← hown.1, ← hs.newsLen, ← List.length_append]
      exact List.take_left
    · have hf : (Builtin.firstCells i.size n (.slice (some ⟨g, 0, none⟩) n cap)).run P w.drew = .ok xs.toArray w.drew :=
        run_firstCells_some w.drew i.size n ⟨g, 0, none⟩ n cap xs hown.1 (by
          intro j u hu
          have := hown.cells (g := g) rfl j u hu
          rw [Addr.add_lit, Nat.zero_add]
          simpa using this)
      obtain ⟨v', w', h1, h2, h3, rfl⟩ := grows cap (Value.ownBlock (.slice (some ⟨g, 0, none⟩) n cap)) (some ⟨g, 0, none⟩) (by omega) hf
      exact ⟨_, _, h1, h2, h3, by simp, .inr rfl⟩

/-- The same as an operation's step: in a walk (behind 'wpList_step') and in a region that draws. -/
theorem step_append {P : Program} {ops : Array Oper} {o : Oper} {a : Act} {w : World} {K : Act → World → Prop} {Q : Exit → Act → World → Prop} {E : Prop} (hg : o.guard = none) (s x : Operand) (t tx : TypeId)
    (hop : o.op = Op.call { callee := Callee.builtin Builtin.append, args := #[s, x], argTypes := #[t, tx] })
    (base : Nat) (e : TypeId) (z : Value) (size bytes : Nat) (ht : P.underlying t = some (.slice e)) (hi : (P.info? e).map (fun i => (i.zero, i.size, i.bytes)) = some (some z, size, bytes)) (hzs : z.cells.size = size)
    {v : Value} {n : Nat} {xs : List Value} (hown : Own w base e size v n xs) (hv : a.eval s = v) {xv : Value} {m : Nat} {news : List Value} (hs : Src P size tx xv m news w) (hx : a.eval x = xv)
    (h63 : n + m ≤ maxLen) (hbytes : (n + m) * bytes ≤ 140737488355328) (hbase : base ≤ w.heap.size)
    (h : ∀ v' w', Own w' base e size v' (n + m) (xs ++ news) → w.grownBy w' v.ownBlock → (v' = .slice none 0 0 ↔ v = .slice none 0 0 ∧ m = 0) → (v'.ownBlock = v.ownBlock ∨ v'.ownBlock = some w.heap.size) → K (a.put o.dst v') w') :
    if Region.wanted o (yielded ops a.tmps) = true then Oper.wp P o a w K Q else E := by
  have hw : Region.wanted o (yielded ops a.tmps) = true := by simp [Region.wanted, hg]
  rw [if_pos hw]
  obtain ⟨i, hi, hz, hsz, hby⟩ := info_parts hi
  obtain ⟨v', w', hr, h2, h3, h4, h5⟩ := run_append_any (P := P) w base t tx o.type e i z size bytes ht hi hz hsz hby hzs v n xs hown xv m news hs h63 hbytes hbase
  unfold Oper.wp execOp
  simp only [hop, resolve, invoke, builtin, Sem.run_bind, Sem.run_pure, Result.andThen_ok, List.map_toArray, List.map_cons, List.map_nil, hv, hx, hr]
  exact h v' w' h2 h3 h4 h5
theorem wpList_append {P : Program} {ops : Array Oper} {rest : List Oper} {o : Oper} {a : Act} {w : World} {Q : Exit → Act → World → Prop} (hg : o.guard = none) (s x : Operand) (t tx : TypeId)
    (hop : o.op = Op.call { callee := Callee.builtin Builtin.append, args := #[s, x], argTypes := #[t, tx] })
    (base : Nat) (e : TypeId) (z : Value) (size bytes : Nat) (ht : P.underlying t = some (.slice e)) (hi : (P.info? e).map (fun i => (i.zero, i.size, i.bytes)) = some (some z, size, bytes)) (hzs : z.cells.size = size)
    {v : Value} {n : Nat} {xs : List Value} (hown : Own w base e size v n xs) (hv : a.eval s = v) {xv : Value} {m : Nat} {news : List Value} (hs : Src P size tx xv m news w) (hx : a.eval x = xv)
    (h63 : n + m ≤ maxLen) (hbytes : (n + m) * bytes ≤ 140737488355328) (hbase : base ≤ w.heap.size)
    (h : ∀ v' w', Own w' base e size v' (n + m) (xs ++ news) → w.grownBy w' v.ownBlock → (v' = .slice none 0 0 ↔ v = .slice none 0 0 ∧ m = 0) → (v'.ownBlock = v.ownBlock ∨ v'.ownBlock = some w.heap.size) → wpList P ops Q rest (a.put o.dst v') w') :
    wpList P ops Q (o :: rest) a w :=
  wpList_step fun K hK => step_append hg s x t tx hop base e z size bytes ht hi hzs hown hv hs hx h63 hbytes hbase fun v' w' h1 h2 h3 h4 => hK _ _ (h v' w' h1 h2 h3 h4)

/-! ### string(b) -/
theorem conv_bytes {P : Program} {w : World} {src dst e : TypeId} {a : Option Addr} {cap : Nat} {t : List UInt8} (hs : P.underlying src = some (.slice e)) (he : P.underlying e = some (.int .u8)) (hd : P.underlying dst = some .string) (h : Byt w a t) :
    (convert src dst (.slice a t.length cap)).run P w = .ok (.string ⟨t.toArray⟩) w := by
  cases a with
  | none =>
    have : t = [] := by
      cases t with
      | nil => rfl
      | cons x xs => obtain ⟨_, _, e, _⟩ := h 0 (by simp); cases e
    subst this
    rw [run_convert_bytes_string w src dst e none _ cap hs he hd]
    simp [Conv.bytesToString, Sem.run_pure]
    rfl
  | some ad =>
    exact run_convert_bytes_back w src dst e ad cap t hs he hd (fun j hj => by
      obtain ⟨b, o, e, hc⟩ := h j hj
      cases e
      rw [Addr.add_lit, hc])
/-- A row that is read is a nil one or an address. -/
theorem Byt.none_nil {w : World} {t : List UInt8} (h : Byt w none t) : t = [] := by
  cases t with
  | nil => rfl
  | cons x xs => obtain ⟨_, _, e, _⟩ := h 0 (by simp); cases e

theorem Own.byt {w : World} {base : Nat} {e : TypeId} {a : Option Addr} {n c m : Nat} {xs : List UInt8} (h : Own w base e 1 (.slice a n c) m (bys xs)) : Byt w a xs ∧ n = xs.length := by
  obtain ⟨a', c', hv, _, _, hb, _⟩ := own_val h
  cases hv
  exact ⟨hb, rfl⟩

/-! ### make([]byte, n) -/
theorem wpList_makeBytes {P : Program} {w : World} {ops : Array Oper} {rest : List Oper} {o : Oper} {a : Act} {Q : Exit → Act → World → Prop}
    (hg : o.guard = none) (l c : Operand) (t : TypeId) (hop : o.op = Op.makeSlice t l c) (e : TypeId) (h1 : P.underlying t = some (.slice e)) (hi : (P.info? e).map (fun i => (i.zero, i.size, i.bytes)) = some (some (.int .u8 0), 1, 1))
    (kl kc : IntKind) (n : Nat) (hl : a.eval l = .int kl (n : Int)) (hc : a.eval c = .int kc (n : Int)) (b2 : n ≤ 140737488355328)
    (hK : ∀ w', Own w' w.heap.size e 1 (.slice (some ⟨w.heap.size, 0, none⟩) n n) n (bys (List.replicate n 0)) → Below w.heap.size w w' → w.heap.size < w'.heap.size → wpList P ops Q rest (a.put o.dst (.slice (some ⟨w.heap.size, 0, none⟩) n n)) w') :
    wpList P ops Q (o :: rest) a w := by
  obtain ⟨i, hi, hz, hsz, hby⟩ := info_parts hi
  refine wpList_make_full w hg l c t hop w.heap.size e i (.int .u8 0) 1 h1 hi hz hsz kl kc n n n hl hc rfl rfl (by rw [hby]; omega) (by unfold maxLen; omega) (Nat.le_refl _) ?_
  intro w' ho hgr
  have e : (madeCells (Value.int .u8 0).cells (n * 1)).toList = bys (List.replicate n 0) := by
    rw [Nat.mul_one, show (Value.int .u8 0).cells = #[.int .u8 0] from rfl, toList_madeCells_one]
    simp [bys]
  rw [e] at ho
  have hb : Below w.heap.size w w' := (Below.refl _ w).grown hgr (Nat.le_refl _) (fun _ h => by cases h)
  have hlt : w.heap.size < w'.heap.size := by
    rcases ho.2 with ⟨h, _⟩ | ⟨g, cap, cur, hv, _, hgg, _⟩
    · cases h
    · cases hv
      exact lt_of_block hgg
  exact hK w' (Own.ofRow ho) hb hlt

/-! ### A call of a Go function, as a step of a region that draws -/
theorem step_call {P : Program} {ops : Array Oper} {o : Oper} {a : Act} {w : World} {K : Act → World → Prop} {Q : Exit → Act → World → Prop} {E : Prop} (hg : o.guard = none) {f : FuncId} {xs : Array Operand} {ts : Array TypeId}
    (hop : o.op = Op.call { callee := Callee.value (.func f), args := xs, argTypes := ts }) {vals : Array Value} (hv : xs.map a.eval = vals) (hen : ∀ w' : World, (callFunc f vals).run P w' = .ok (.enter f vals) w')
    {R : Ending → World → Prop} (hc : Calls P f vals w R) (h : ∀ e w', R e w' → ∃ v, e = .returned v ∧ K (a.put o.dst v) w') :
    if Region.wanted o (yielded ops a.tmps) = true then Oper.wp P o a w K Q else E := by
  rw [if_pos (by simp [Region.wanted, hg])]
  have e1 : (execOp a.eval o).run P w = .ok (.enter f vals) w := by
    unfold execOp
    simp only [hop, resolve, Act.eval]
    rw [show xs.map (Act.eval a) = vals from hv]
    simp [Deferred.ofValue, invoke, hen]
  unfold Oper.wp
  rw [e1]
  show Calls P f vals w _
  refine hc.mono fun e w' hr => ?_
  obtain ⟨v, rfl, hk⟩ := h e w' hr
  exact hk
end Go.Proofs.YtnbpkignkfabkaaGreatDoor
