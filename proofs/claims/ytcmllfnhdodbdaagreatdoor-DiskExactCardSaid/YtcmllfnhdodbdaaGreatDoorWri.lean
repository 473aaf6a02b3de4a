/- record.Writer: what stands at a writer, and what a call may turn. -/
import Derived.Test.YtcmllfnhdodbdaaGreatDoorBase
namespace Go.Proofs.YtcmllfnhdodbdaaGreatDoor
set_option linter.unusedVariables false
set_option linter.unusedSimpArgs false
open Go.RowKit
theorem infoByte : (Tryz.prog.info? 5).map (fun i => (i.zero, i.size, i.bytes)) = some (some (.int .u8 0), 1, 1) := by kernel_rfl

/-- A writer stands at pb, po: these bytes, this error. -/
structure Wri (w : World) (pb po base : Nat) (l : List UInt8) (e : Int) (v : Value) : Prop where
  c0 : w.cell? ⟨pb, po, none⟩ = some v
  c1 : w.cell? ⟨pb, po + 1, none⟩ = some (.int .i64 e)
  f0 : w.frozen? ⟨pb, po, none⟩ = false
  f1 : w.frozen? ⟨pb, po + 1, none⟩ = false
  own : Own w base 5 1 v l.length (bys l)
  ne : v.ownBlock ≠ some pb

/-- What a call on a writer may turn. -/
structure WUpd (w w' : World) (pb po : Nat) (v v' : Value) : Prop where
  upd : Upd (fun k => k = pb ∨ v.ownBlock = some k) w w'
  rest : ∀ o, o ≠ po → o ≠ po + 1 → w'.cell? ⟨pb, o, none⟩ = w.cell? ⟨pb, o, none⟩ ∧ w'.frozen? ⟨pb, o, none⟩ = w.frozen? ⟨pb, o, none⟩
  own : v'.ownBlock = v.ownBlock ∨ ∀ k, v'.ownBlock = some k → w.heap.size ≤ k

theorem WUpd.refl (w : World) (pb po : Nat) (v : Value) : WUpd w w pb po v v := ⟨Upd.refl _ _, fun _ _ _ => ⟨rfl, rfl⟩, .inl rfl⟩
theorem WUpd.trans {a b c : World} {pb po : Nat} {u v x : Value} (h : WUpd a b pb po u v) (k : WUpd b c pb po v x) : WUpd a c pb po u x := by
  refine ⟨h.upd.trans k.upd (fun _ h _ => h) ?_, fun o h1 h2 => ⟨(k.rest o h1 h2).1.trans (h.rest o h1 h2).1, (k.rest o h1 h2).2.trans (h.rest o h1 h2).2⟩, ?_⟩
  · rintro i (rfl | hi) hlt
    · exact .inl rfl
    · rcases h.own with e | e
      · rw [e] at hi; exact .inr hi
      · have := e i hi; omega
  · rcases k.own with e | e
    · rw [e]; exact h.own
    · exact .inr fun i hi => Nat.le_trans h.upd.size (e i hi)
theorem WUpd.drew {w w' : World} {pb po : Nat} {u v : Value} (h : WUpd w w' pb po u v) : WUpd w w'.drew pb po u v := ⟨h.upd.drew, h.rest, h.own⟩

theorem Wri.lt {w : World} {pb po base : Nat} {l : List UInt8} {e : Int} {v : Value} (h : Wri w pb po base l e v) : pb < w.heap.size := World.block_lt_of_cell? w _ h.c0
/-- A writer that nothing touched. -/
theorem Wri.upd {S : Nat → Prop} {w w' : World} {pb po base : Nat} {l : List UInt8} {e : Int} {v : Value} (h : Wri w pb po base l e v) (hu : Upd S w w') (hs : ¬ S pb) (hv : ∀ k, v.ownBlock = some k → ¬ S k) : Wri w' pb po base l e v :=
  ⟨hu.cell' h.c0 hs, hu.cell' h.c1 hs, (hu.frozen h.lt hs).trans h.f0, (hu.frozen h.lt hs).trans h.f1, h.own.upd hu hv, h.ne⟩

theorem cell_same {w : World} {a : Addr} {v u : Value} (h : w.cell? a = some v) : (w.setCell a u).cell? a = some u := World.cell?_setCell_same _ _ _ h
theorem cell_other {w : World} {b o o' : Nat} (u : Value) (h : o ≠ o') : (w.setCell ⟨b, o, none⟩ u).cell? ⟨b, o', none⟩ = w.cell? ⟨b, o', none⟩ :=
  World.cell?_setCell_other _ _ _ _ (by intro e; injection e with _ e; exact h e)
theorem frozen_same (w : World) (a b : Addr) (u : Value) : (w.setCell a u).frozen? b = w.frozen? b := World.frozen?_setCell _ _ _ _

/-- Bytes are laid behind: first the append, then the store into the field. -/
theorem Wri.put {w w1 : World} {pb po base : Nat} {l l' : List UInt8} {e : Int} {v v' : Value} (h : Wri w pb po base l e v) (hb : base ≤ pb) (ho : Own w1 base 5 1 v' l'.length (bys l')) (hg : Upd (fun k => v.ownBlock = some k) w w1)
    (hv : v'.ownBlock = v.ownBlock ∨ ∀ k, v'.ownBlock = some k → w.heap.size ≤ k) : Wri (w1.setCell ⟨pb, po, none⟩ v') pb po base l' e v' ∧ WUpd w (w1.setCell ⟨pb, po, none⟩ v') pb po v v' := by
  have hne : v'.ownBlock ≠ some pb := by
    rcases hv with e | e
    · rw [e]; exact h.ne
    · intro e2; have := e _ e2; have := h.lt; omega
  have c0 := hg.cell' h.c0 h.ne
  have c1 := hg.cell' h.c1 h.ne
  have f0 := (hg.frozen (p := ⟨pb, po, none⟩) h.lt h.ne).trans h.f0
  have f1 := (hg.frozen (p := ⟨pb, po + 1, none⟩) h.lt h.ne).trans h.f1
  refine ⟨⟨cell_same c0, (cell_other _ (by omega)).trans c1, (frozen_same _ _ _ _).trans f0, (frozen_same _ _ _ _).trans f1, ho.setCell_other hne _, hne⟩, ⟨?_, ?_, hv⟩⟩
  · exact (hg.mono (fun k e _ => .inr e)).setCell (fun _ => .inl rfl) _
  · intro o h1 h2
    exact ⟨(cell_other _ (fun e => h1 e.symm)).trans (hg.cell (p := ⟨pb, o, none⟩) h.lt h.ne), (frozen_same _ _ _ _).trans (hg.frozen (p := ⟨pb, o, none⟩) h.lt h.ne)⟩
/-- The error is set. -/
theorem Wri.bad {w : World} {pb po base : Nat} {l : List UInt8} {e e' : Int} {v : Value} (h : Wri w pb po base l e v) : Wri (w.setCell ⟨pb, po + 1, none⟩ (.int .i64 e')) pb po base l e' v ∧ WUpd w (w.setCell ⟨pb, po + 1, none⟩ (.int .i64 e')) pb po v v := by
  refine ⟨⟨(cell_other _ (by omega)).trans h.c0, cell_same h.c1, (frozen_same _ _ _ _).trans h.f0, (frozen_same _ _ _ _).trans h.f1, h.own.setCell_other h.ne _, h.ne⟩, ⟨(Upd.refl _ _).setCell (fun _ => .inl rfl) _, ?_, .inl rfl⟩⟩
  intro o h1 h2
  exact ⟨cell_other _ (fun e => h2 e.symm), frozen_same _ _ _ _⟩

/-- The big-endian bytes of a number: so many. -/
def be (n : Nat) : Nat → List UInt8
  | 0 => []
  | k + 1 => UInt8.ofNat (n / 256 ^ k) :: be n k
theorem be_length (n k : Nat) : (be n k).length = k := by induction k with | zero => rfl | succ k ih => simp [be, ih]
theorem bys_one_snoc (l : List UInt8) (c : UInt8) : bys l ++ [.int .u8 (c.toNat : Int)] = bys (l ++ [c]) := by simp [bys]
theorem wrap_u8 (x : Int) : IntKind.u8.wrap x = x % 256 := by simp [IntKind.wrap, IntKind.bits, IntKind.signed]
theorem Src_new {P : Program} {tx e' : TypeId} (hk : P.underlying tx = some (.slice e')) {w : World} {g : Nat} {u : Value} {e : TypeId} (h : w.heap[g]? = some (.cells #[u] e (0, 0))) (h1 : u.oneCell' = true) : Src P 1 tx (.slice (some ⟨g, 0, none⟩) 1 1) 1 [u] w :=
  Src.ofSlice w hk ⟨g, 0, none⟩ 1 1 [u] rfl (by
    intro j x hx
    match j, hx with
    | 0, hx => simp at hx; subst hx; rw [Addr.add_lit]; exact cell_of_one h) (by
    intro x hx
    simp at hx
    subst hx
    exact h1)
theorem byte_of (n j : Nat) : ((n : Int) / 2 ^ (8 * (j : Int)).toNat) % 256 = ((UInt8.ofNat (n / 256 ^ j)).toNat : Int) := by
  have e : (8 * (j : Int)).toNat = 8 * j := by omega
  have e2 : (2 : Int) ^ (8 * j) = ((256 ^ j : Nat) : Int) := by
    rw [show (256 : Nat) = 2 ^ 8 from rfl, ← Nat.pow_mul]; norm_cast
  rw [e, e2, UInt8.toNat_ofNat']
  omega
end Go.Proofs.YtcmllfnhdodbdaaGreatDoor
