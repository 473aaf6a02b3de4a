/- posternlaw10: the stage opens a log at both. -/
import Derived.Test.YtnbpkignkfabkaaGreatDoorWalH
import Derived.Test.YtnbpkignkfabkaaGreatDoorRf10
import Derived.Test.YtnbpkignkfabkaaGreatDoorLateA
import Derived.Test.YtnbpkignkfabkaaGreatDoorWalRows
import Derived.Test.YtnbpkignkfabkaaGreatDoorWorks10
import Derived.Test.YtnbpkignkfabkaaGreatDoorDsW
import Derived.Deep.RegionHeld3
import Derived.Deep.CutBlock
import Derived.Deep.DeepCutAuto
/- posternlaw10: what stands while WalExact plays: a disk of the program's and one of the document's, logs over both, the stage, answers that are kept. -/
namespace Go.Proofs.YtnbpkignkfabkaaGreatDoor
set_option linter.unusedVariables false
set_option linter.unusedSimpArgs false
open Go.RowKit Go.Maps
section
variable {w w' w3 : World} {base : Nat} {Pr Pr' : Nat → Prop} {tb bb n : Nat} {L : List Gt} {vg vw : Value} {E : List Ent} {vb vo : Value} {bat : Nat} {tn dn : Int} {us : Nat} {K : Nat → Prop}
theorem LB.addX (h : LB w base Pr tb bb L vg vw E vb vo bat tn dn us) {v : Value} {x : List UInt8} (ha : AddP w w3 base Pr tb L vg vw v x) (hv : ∀ k, v.ownBlock = some k → ¬ BkF bb vb vo E k) :
    ∃ (g : Gt) (vg' vw' : Value), LB w3 base Pr tb bb (L ++ [g]) vg' vw' E vb vo bat tn dn us ∧ (∀ k, LtF tb vg' vw' (L ++ [g]) k → LtF tb vg vw L k ∨ w.heap.size ≤ k ∨ v.ownBlock = some k) ∧ Upd (fun k => k = tb ∨ vg.ownBlock = some k ∨ vw.ownBlock = some k) w w3 := by
  obtain ⟨g, vg', vw', l3, gv, gx, fg, up⟩ := ha
  have hf := h.foot
  have inl : ∀ k, (k = tb ∨ vg.ownBlock = some k ∨ vw.ownBlock = some k) → LtF tb vg vw L k := by
    rintro k (e | e | e)
    · exact .inl e
    · exact .inr (.inl e)
    · exact .inr (.inr (.inl e))
  refine ⟨g, vg', vw', ⟨l3, h.bk.upd up (fun k s => h.dis k (inl k s)), h.cnt, ?_⟩, fg, up⟩
  intro k hk hq
  rcases fg k hk with e | e | e
  · exact h.dis k e hq
  · have := (hf k (.inr hq)).2.1; omega
  · exact hv k e hq
theorem LBx.guardX {S : Nat → Prop} (h : LBx w base Pr tb bb n) (hu : Upd S w w') (hs : ∀ k, S k → k < w.heap.size → Pr k ∨ k < base) (hp : ∀ k, Pr' k → Pr k ∨ w.heap.size ≤ k ∧ k < w'.heap.size) : LBx w' base Pr' tb bb n := by
  obtain ⟨L, vg, vw, E, vb, vo, bat, tn, dn, us, hl, hq⟩ := h
  have hf := hq.foot
  have hw := hq.upd hu (fun k s => by
    have key : ∀ q : Prop, (LtF tb vg vw L k ∨ BkF bb vb vo E k) → q := by
      intro q hq'
      obtain ⟨f1, f2, f3⟩ := hf k hq'
      rcases hs k s f2 with hp | hp
      · exact absurd hp f3
      · omega
    exact ⟨fun hq => key False (.inl hq), fun hq => key False (.inr hq)⟩)
  refine ⟨L, vg, vw, E, vb, vo, bat, tn, dn, us, hl, ⟨⟨hw.lt.blk, hw.lt.tbge, hw.lt.got, hw.lt.want, hw.lt.gw, hw.lt.gok, hw.lt.wok, hw.lt.gg, ?_, hw.lt.xl⟩,
    ⟨hw.bk.blk, hw.bk.bbge, hw.bk.rows, hw.bk.ofs, hw.bk.ent, hw.bk.ee, hw.bk.uq, ?_, hw.bk.en⟩, hw.cnt, hw.dis⟩⟩
  · intro k q
    rcases hp k q with q | ⟨q1, q2⟩
    · exact hw.lt.pr k q
    · exact ⟨q2, fun e => by have := (hf k (.inl e)).2.1; omega⟩
  · intro k q
    rcases hp k q with q | ⟨q1, q2⟩
    · exact hw.bk.pr k q
    · have nf : ¬ BkF bb vb vo E k := fun e => by have := (hf k (.inr e)).2.1; omega
      exact ⟨q2, fun e => nf (.inl e), fun e => nf (.inr (.inl e)), fun e => nf (.inr (.inr (.inl e))), fun f hf e => nf (.inr (.inr (.inr ⟨f, hf, e⟩)))⟩
/-- What is not the kept answers' own. -/
def NotK (w : World) (base : Nat) (K : Nat → Prop) (i : Nat) : Prop := base ≤ i ∧ i < w.heap.size ∧ ¬ K i
/-- Answers that are kept, and the book: in blocks of K. -/
structure LbK (w : World) (base tb bb n : Nat) (K : Nat → Prop) : Prop where
  lb : LBx w base (NotK w base K) tb bb n
  kl : ∀ i, K i → base ≤ i ∧ i < w.heap.size
theorem LbK.upd {S : Nat → Prop} (h : LbK w base tb bb n K) (hu : Upd S w w') (hs : ∀ i, S i → ¬ K i) : LbK w' base tb bb n K :=
  ⟨h.lb.guardX hu (fun k hk hlt => by
      by_cases hb : base ≤ k
      · exact .inl ⟨hb, hlt, hs k hk⟩
      · exact .inr (by omega)) (fun k hk => by
      by_cases hlt : k < w.heap.size
      · exact .inl ⟨hk.1, hlt, hk.2.2⟩
      · exact .inr ⟨by omega, hk.2.1⟩), fun i hi => ⟨(h.kl i hi).1, Nat.lt_of_lt_of_le (h.kl i hi).2 hu.size⟩⟩
theorem LbK.mono {m : Nat} (h : LbK w base tb bb n K) (hm : n ≤ m) : LbK w base tb bb m K := ⟨h.lb.mono hm, h.kl⟩
/-- Behind something that wrote in K and made new blocks. -/
theorem LbK.of (hb : base ≤ w.heap.size) (hk : ∀ i, K i → base ≤ i ∧ i < w.heap.size) (hl : LBx w' base (NotK w base K) tb bb n) (hz : w.heap.size ≤ w'.heap.size) : LbK w' base tb bb n (fun i => K i ∨ w.heap.size ≤ i ∧ i < w'.heap.size) :=
  ⟨hl.weak (fun k hq => ⟨hq.1, by
      by_cases hlt : k < w.heap.size
      · exact hlt
      · exact absurd (.inr ⟨by omega, hq.2.1⟩) hq.2.2, fun hh => hq.2.2 (.inl hh)⟩), fun i hi => by
    rcases hi with h9 | h9
    · have := hk i h9; omega
    · omega⟩
theorem LbK.settle (h : LbK w base tb bb n K) (hbw : base ≤ w.heap.size) (hn : n ≤ 100000) (m : Nat) (hm : m ≤ 1000) :
    Calls Tryz.prog 12 #[.pointer (some ⟨tb, 0, none⟩), .pointer (some ⟨bb, 0, none⟩), .int .i64 m] w fun r w' => r = .returned (.bool true) ∧ LbK w' base tb bb (m - 1) (fun i => K i ∨ w.heap.size ≤ i ∧ i < w'.heap.size) ∧ Upd K w w' := by
  refine (Settle_calls w base (NotK w base K) tb bb n m h.lb hn hm).mono ?_
  rintro r w' ⟨rfl, h1, h2⟩
  refine ⟨rfl, LbK.of hbw h.kl h1 h2.size, h2.mono (fun k hk hlt => ?_)⟩
  by_cases hh : K k
  · exact hh
  · exact absurd ⟨hk.1, hlt, hh⟩ hk.2
theorem LbK.look (h : LbK w base tb bb n K) (hbw : base ≤ w.heap.size) :
    Calls Tryz.prog 13 #[.pointer (some ⟨bb, 0, none⟩)] w fun r w' => r = .returned (.bool true) ∧ LbK w' base tb bb n (fun i => K i ∨ w.heap.size ≤ i ∧ i < w'.heap.size) ∧ Upd K w w' := by
  obtain ⟨L, vg, vw, E, vb, vo, bat, tn, dn, us, hl, hb⟩ := h.lb
  refine (Look_calls w base (NotK w base K) bb E vb vo bat tn dn us hb.bk hb.cnt).mono ?_
  rintro r w' ⟨rfl, E', vb', vo', bat', dn', p1, p2, p3, p4⟩
  have hf := hb.foot
  have fk : ∀ k, BkF bb vb vo E k → K k := fun k hk => by
    have h9 := hf k (.inr hk)
    by_cases hh : K k
    · exact hh
    · exact absurd ⟨h9.1, h9.2.1, hh⟩ h9.2.2
  refine ⟨rfl, LbK.of hbw h.kl ⟨L, vg, vw, E', vb', vo', bat', tn, dn', us, hl, ⟨hb.lt.upd p4 (fun k s q => hb.dis k q s), p1, p2, ?_⟩⟩ p4.size, p4.mono (fun k hk _ => fk k hk)⟩
  intro k hk hq
  rcases p3 k hq with e | e
  · exact hb.dis k hk e
  · have := (hf k (.inl hk)).2.1; omega
theorem LbK.add (h : LbK w base tb bb n K) (hbw : base ≤ w.heap.size) (hn : n ≤ 10000) (a : Option Addr) (c : Nat) (x : List UInt8) (ho : Own w base 5 1 (.slice a x.length c) x.length (bys x)) (hx : x.length ≤ 1000000000000)
    (hk : ∀ k, (Value.slice a x.length c).ownBlock = some k → ¬ K k) (wa : Option Addr) (wc : Nat) (hw : Byt w wa x) (hwk : ∀ k, wa.map (·.block) = some k → ¬ K k) :
    Calls Tryz.prog 24 #[.pointer (some ⟨tb, 0, none⟩), .slice a x.length c, .slice wa x.length wc] w fun r w' => r = .returned (.tuple #[]) ∧ LbK w' base tb bb (n + 1) (fun i => (K i ∨ (Value.slice a x.length c).ownBlock = some i) ∨ w.heap.size ≤ i ∧ i < w'.heap.size) ∧ Upd K w w' := by
  have h1 : LBx w base (NotK w base (fun i => K i ∨ (Value.slice a x.length c).ownBlock = some i)) tb bb n := h.lb.weak (fun k hq => ⟨hq.1, hq.2.1, fun hh => hq.2.2 (.inl hh)⟩)
  have kl1 : ∀ i, (K i ∨ (Value.slice a x.length c).ownBlock = some i) → base ≤ i ∧ i < w.heap.size := fun i hi => hi.elim (h.kl i) (fun hh => ho.lt i hh)
  obtain ⟨L, vg, vw, E, vb, vo, bat, tn, dn, us, hl, hb⟩ := h.lb
  have hf := hb.foot
  have fk : ∀ k, (LtF tb vg vw L k ∨ BkF bb vb vo E k) → K k := fun k hk => by
    have h9 := hf k hk
    by_cases hh : K k
    · exact hh
    · exact absurd ⟨h9.1, h9.2.1, hh⟩ h9.2.2
  have hb1 : LB w base (NotK w base (fun i => K i ∨ (Value.slice a x.length c).ownBlock = some i)) tb bb L vg vw E vb vo bat tn dn us := by
    have wk : ∀ k, NotK w base (fun i => K i ∨ (Value.slice a x.length c).ownBlock = some i) k → NotK w base K k := fun k hq => ⟨hq.1, hq.2.1, fun hh => hq.2.2 (.inl hh)⟩
    exact ⟨⟨hb.lt.blk, hb.lt.tbge, hb.lt.got, hb.lt.want, hb.lt.gw, hb.lt.gok, hb.lt.wok, hb.lt.gg, fun k q => hb.lt.pr k (wk k q), hb.lt.xl⟩,
      ⟨hb.bk.blk, hb.bk.bbge, hb.bk.rows, hb.bk.ofs, hb.bk.ent, hb.bk.ee, hb.bk.uq, fun k q => hb.bk.pr k (wk k q), hb.bk.en⟩, hb.cnt, hb.dis⟩
  refine (Add_calls w base _ tb L vg vw hb1.lt (by omega) a c x ho hx (fun k hk' => ⟨fun hq => hq.2.2 (.inr hk'), fun hq => hk k hk' (fk k (.inl hq))⟩) wa wc hw (fun k hk' hq => hwk k hk' (fk k (.inl hq)))).mono ?_
  rintro r w' ⟨rfl, ha⟩
  obtain ⟨g, vg', vw', l3, fg, up⟩ := hb1.addX ha (fun k hk' hq => hk k hk' (fk k (.inr hq)))
  refine ⟨rfl, LbK.of hbw kl1 ⟨L ++ [g], vg', vw', E, vb, vo, bat, tn, dn, us, by rw [List.length_append, List.length_singleton]; omega, l3⟩ up.size, up.mono (fun k hk' _ => ?_)⟩
  rcases hk' with e | e | e
  · exact fk k (.inl (.inl e))
  · exact fk k (.inl (.inr (.inl e)))
  · exact fk k (.inl (.inr (.inr (.inl e))))
end
def kn10 (k : Bool) : Nat := if k = true then 1 else 0
def nm10 (j : Nat) : List UInt8 := if j % 2 = 0 then [108, 111, 103] else [108, 46, 50]
def optp (o : Option Nat) : Value := .pointer (o.map fun b => ⟨b, 0, none⟩)
def stc10 (db rb : Nat) (lb mb : Nat → Option Nat) (bb tb : Nat) : Array Value := #[.pointer (some ⟨db, 0, none⟩), .pointer (some ⟨rb, 0, none⟩), optp (lb 0), optp (lb 1), optp (mb 0), optp (mb 1), .pointer (some ⟨bb, 0, none⟩), .pointer (some ⟨tb, 0, none⟩)]
/-- What stands. Logs 0 and 1: the stage's; 2 and 3: those that were just opened. -/
structure Wx (w0 w : World) (sb db rb tb bb : Nat) (lb mb : Nat → Option Nat) (F G : Nat → Prop) (s z : DS) (K : Nat → Prop) (n : Nat) (st su : Nat → Nat × Bool) : Prop where
  blk : w.heap[sb]? = some (.cells (stc10 db rb lb mb bb tb) 72 (0, 0))
  d : DkS w w0.heap.size db F s
  r : RfS w w0.heap.size rb G z
  lg : ∀ j b, lb j = some b → Lg w b db (nm10 j) (st j).1 (st j).2 ∧ w0.heap.size ≤ b ∧ ¬ F b ∧ ¬ G b ∧ ¬ K b
  mg : ∀ j b, mb j = some b → Rg w b rb (nm10 j) (su j).1 (su j).2 ∧ w0.heap.size ≤ b ∧ ¬ F b ∧ ¬ G b ∧ ¬ K b
  fg : ∀ i, F i → ¬ G i
  fk : ∀ i, F i → ¬ K i
  gk : ∀ i, G i → ¬ K i
  sf : ¬ F sb
  sg : ¬ G sb
  sk : ¬ K sb
  sl : w0.heap.size ≤ sb
  lk : LbK w w0.heap.size tb bb n K
  bel : Below w0.heap.size w0 w
section
variable {w0 w w' : World} {sb db rb tb bb : Nat} {lb mb : Nat → Option Nat} {F G : Nat → Prop} {s z t : DS} {K : Nat → Prop} {n : Nat} {st su : Nat → Nat × Bool}
theorem Wx.slt (h : Wx w0 w sb db rb tb bb lb mb F G s z K n st su) : sb < w.heap.size := lt_of_block h.blk
theorem Wx.bw (h : Wx w0 w sb db rb tb bb lb mb F G s z K n st su) : w0.heap.size ≤ w.heap.size := h.bel.size
theorem Wx.lne (h : Wx w0 w sb db rb tb bb lb mb F G s z K n st su) {j b : Nat} (hb : lb j = some b) : b ≠ sb := by
  intro e
  have h1 := (h.lg j b hb).1
  have h2 := h.blk
  unfold Lg at h1
  rw [e, h2] at h1
  injection h1 with h1
  injection h1 with _ h1
  exact absurd h1 (by decide)
theorem Wx.mne (h : Wx w0 w sb db rb tb bb lb mb F G s z K n st su) {j b : Nat} (hb : mb j = some b) : b ≠ sb := by
  intro e
  have h1 := (h.mg j b hb).1
  have h2 := h.blk
  unfold Rg at h1
  rw [e, h2] at h1
  injection h1 with h1
  injection h1 with _ h1
  exact absurd h1 (by decide)
theorem Wx.lm (h : Wx w0 w sb db rb tb bb lb mb F G s z K n st su) {j i b c : Nat} (hb : lb j = some b) (hc : mb i = some c) : b ≠ c := by
  intro e
  have h1 := (h.lg j b hb).1
  have h2 := (h.mg i c hc).1
  unfold Lg at h1
  unfold Rg at h2
  rw [e, h2] at h1
  injection h1 with h1
  injection h1 with _ h1
  exact absurd h1 (by decide)
theorem Wx.ll (h : Wx w0 w sb db rb tb bb lb mb F G s z K n st su) {b c : Nat} (hb : lb 0 = some b) (hc : lb 1 = some c) : b ≠ c := by
  intro e
  have h1 := (h.lg 0 b hb).1.cells.2.1
  have h2 := (h.lg 1 c hc).1.cells.2.1
  rw [e, h2] at h1
  simp [nm10] at h1
theorem Wx.mm (h : Wx w0 w sb db rb tb bb lb mb F G s z K n st su) {b c : Nat} (hb : mb 0 = some b) (hc : mb 1 = some c) : b ≠ c := by
  intro e
  have h1 := (h.mg 0 b hb).1.cells.2.1
  have h2 := (h.mg 1 c hc).1.cells.2.1
  rw [e, h2] at h1
  simp [nm10] at h1
theorem Wx.cells (h : Wx w0 w sb db rb tb bb lb mb F G s z K n st su) : w.cell? ⟨sb, 0, none⟩ = some (.pointer (some ⟨db, 0, none⟩)) ∧ w.cell? ⟨sb, 1, none⟩ = some (.pointer (some ⟨rb, 0, none⟩)) ∧ w.cell? ⟨sb, 2, none⟩ = some (optp (lb 0)) ∧ w.cell? ⟨sb, 3, none⟩ = some (optp (lb 1)) ∧ w.cell? ⟨sb, 4, none⟩ = some (optp (mb 0)) ∧ w.cell? ⟨sb, 5, none⟩ = some (optp (mb 1)) ∧ w.cell? ⟨sb, 6, none⟩ = some (.pointer (some ⟨bb, 0, none⟩)) ∧ w.cell? ⟨sb, 7, none⟩ = some (.pointer (some ⟨tb, 0, none⟩)) :=
  ⟨by rw [cell_of_row' h.blk]; rfl, by rw [cell_of_row' h.blk]; rfl, by rw [cell_of_row' h.blk]; rfl, by rw [cell_of_row' h.blk]; rfl, by rw [cell_of_row' h.blk]; rfl, by rw [cell_of_row' h.blk]; rfl, by rw [cell_of_row' h.blk]; rfl, by rw [cell_of_row' h.blk]; rfl⟩
theorem Wx.froz (h : Wx w0 w sb db rb tb bb lb mb F G s z K n st su) (j : Nat) : w.frozen? ⟨sb, j, none⟩ = false := frozen_of_row h.blk j
theorem Wx.below (h : Wx w0 w sb db rb tb bb lb mb F G s z K n st su) (hb : Below w.heap.size w w') : Wx w0 w' sb db rb tb bb lb mb F G s z K n st su :=
  ⟨(hb.block _ h.slt).trans h.blk, h.d.below hb, h.r.below hb, fun j b hj => ⟨(h.lg j b hj).1.below hb, (h.lg j b hj).2⟩, fun j b hj => ⟨(h.mg j b hj).1.below hb, (h.mg j b hj).2⟩, h.fg, h.fk, h.gk, h.sf, h.sg, h.sk, h.sl, h.lk.upd (Upd.ofBelow hb) (fun _ s => s.elim), h.bel.trans (hb.mono h.bw)⟩
/-- The program's disk has changed. -/
theorem Wx.stepD (h : Wx w0 w sb db rb tb bb lb mb F G s z K n st su) (hs : DkStep w w' w0.heap.size db F t) : ∃ F', Wx w0 w' sb db rb tb bb lb mb F' G t z K n st su ∧ (∀ i, F' i → F i ∨ w.heap.size ≤ i) := by
  obtain ⟨F', h1, h2, h3, h4⟩ := hs
  refine ⟨F', ⟨(h2.block _ h.slt h.sf).trans h.blk, h1, h.r.upd h2 (fun i hi => h.fg i hi), fun j b hj => ?_, fun j b hj => ?_, fun i hi hg => ?_, fun i hi hk => ?_, h.gk, fun hf => ?_, h.sg, h.sk, h.sl, h.lk.upd h2 (fun i hi => h.fk i hi), h.bel.trans h3⟩, h4⟩
  · obtain ⟨q1, q2, q3, q4, q5⟩ := h.lg j b hj
    exact ⟨q1.upd h2 q3, q2, fun hf => (h4 b hf).elim q3 (fun h9 => by have := q1.lt; omega), q4, q5⟩
  · obtain ⟨q1, q2, q3, q4, q5⟩ := h.mg j b hj
    exact ⟨q1.upd h2 q3, q2, fun hf => (h4 b hf).elim q3 (fun h9 => by have := q1.lt; omega), q4, q5⟩
  · rcases h4 i hi with h9 | h9
    · exact h.fg i h9 hg
    · have := (h.r.fl i hg).2; omega
  · rcases h4 i hi with h9 | h9
    · exact h.fk i h9 hk
    · have := (h.lk.kl i hk).2; omega
  · rcases h4 sb hf with h9 | h9
    · exact h.sf h9
    · have := h.slt; omega
/-- The document's disk has changed. -/
theorem Wx.stepR (h : Wx w0 w sb db rb tb bb lb mb F G s z K n st su) (hs : RfStep w w' w0.heap.size rb G t) : ∃ G', Wx w0 w' sb db rb tb bb lb mb F G' s t K n st su ∧ (∀ i, G' i → G i ∨ w.heap.size ≤ i) := by
  obtain ⟨G', h1, h2, h3, h4⟩ := hs
  have hG : ∀ i, i = rb → G i := fun i e => by rw [e]; exact h.r.at_
  refine ⟨G', ⟨(h2.block _ h.slt (fun e => h.sg (hG _ e))).trans h.blk, h.d.upd h2 (fun i hi hf => h.fg i hf (hG i hi)), h1, fun j b hj => ?_, fun j b hj => ?_, fun i hf hi => ?_, h.fk, fun i hi hk => ?_, h.sf, fun hf => ?_, h.sk, h.sl, h.lk.upd h2 (fun i hi => h.gk i (hG i hi)), h.bel.trans h3⟩, h4⟩
  · obtain ⟨q1, q2, q3, q4, q5⟩ := h.lg j b hj
    exact ⟨q1.upd h2 (fun e => q4 (hG _ e)), q2, q3, fun hf => (h4 b hf).elim q4 (fun h9 => by have := q1.lt; omega), q5⟩
  · obtain ⟨q1, q2, q3, q4, q5⟩ := h.mg j b hj
    exact ⟨q1.upd h2 (fun e => q4 (hG _ e)), q2, q3, fun hf => (h4 b hf).elim q4 (fun h9 => by have := q1.lt; omega), q5⟩
  · rcases h4 i hi with h9 | h9
    · exact h.fg i hf h9
    · have := (h.d.fl i hf).2; omega
  · rcases h4 i hi with h9 | h9
    · exact h.gk i h9 hk
    · have := (h.lk.kl i hk).2; omega
  · rcases h4 sb hf with h9 | h9
    · exact h.sg h9
    · have := h.slt; omega
/-- The kept answers have changed. -/
theorem Wx.stepK {K' : Nat → Prop} {m : Nat} (h : Wx w0 w sb db rb tb bb lb mb F G s z K n st su) (hk : LbK w' w0.heap.size tb bb m K') (hu : Upd K w w') (hK : ∀ i, K' i → K i ∨ w.heap.size ≤ i) : Wx w0 w' sb db rb tb bb lb mb F G s z K' m st su := by
  refine ⟨(hu.block _ h.slt h.sk).trans h.blk, h.d.upd hu (fun i hi hf => h.fk i hf hi), h.r.upd hu (fun i hi hg => h.gk i hg hi), fun j b hj => ?_, fun j b hj => ?_, h.fg, fun i hf hk => ?_, fun i hf hk => ?_, h.sf, h.sg, fun hh => ?_, h.sl, hk, h.bel.trans (hu.below (fun i hi _ => (h.lk.kl i hi).1) h.bw)⟩
  · obtain ⟨q1, q2, q3, q4, q5⟩ := h.lg j b hj
    exact ⟨q1.upd hu q5, q2, q3, q4, fun hf => (hK b hf).elim q5 (fun h9 => by have := q1.lt; omega)⟩
  · obtain ⟨q1, q2, q3, q4, q5⟩ := h.mg j b hj
    exact ⟨q1.upd hu q5, q2, q3, q4, fun hf => (hK b hf).elim q5 (fun h9 => by have := q1.lt; omega)⟩
  · rcases hK i hk with h9 | h9
    · exact h.fk i hf h9
    · have := (h.d.fl i hf).2; omega
  · rcases hK i hk with h9 | h9
    · exact h.gk i hf h9
    · have := (h.r.fl i hf).2; omega
  · rcases hK sb hh with h9 | h9
    · exact h.sk h9
    · have := h.slt; omega
/-- A block is taken into K: it is no one's. -/
theorem Wx.stepK2 {K' : Nat → Prop} {m : Nat} (h : Wx w0 w sb db rb tb bb lb mb F G s z K n st su) (hk : LbK w' w0.heap.size tb bb m K') (hu : Upd K w w') (V : Nat → Prop) (hV : ∀ i, V i → i ≠ sb ∧ ¬ F i ∧ ¬ G i ∧ (∀ j, lb j ≠ some i) ∧ ∀ j, mb j ≠ some i) (hK : ∀ i, K' i → K i ∨ V i ∨ w.heap.size ≤ i) : Wx w0 w' sb db rb tb bb lb mb F G s z K' m st su := by
  refine ⟨(hu.block _ h.slt h.sk).trans h.blk, h.d.upd hu (fun i hi hf => h.fk i hf hi), h.r.upd hu (fun i hi hg => h.gk i hg hi), fun j b hj => ?_, fun j b hj => ?_, h.fg, fun i hf hk => ?_, fun i hf hk => ?_, h.sf, h.sg, fun hh => ?_, h.sl, hk, h.bel.trans (hu.below (fun i hi _ => (h.lk.kl i hi).1) h.bw)⟩
  · obtain ⟨q1, q2, q3, q4, q5⟩ := h.lg j b hj
    exact ⟨q1.upd hu q5, q2, q3, q4, fun hf => (hK b hf).elim q5 (fun h9 => h9.elim (fun hv => (hV b hv).2.2.2.1 j hj) (fun h9 => by have := q1.lt; omega))⟩
  · obtain ⟨q1, q2, q3, q4, q5⟩ := h.mg j b hj
    exact ⟨q1.upd hu q5, q2, q3, q4, fun hf => (hK b hf).elim q5 (fun h9 => h9.elim (fun hv => (hV b hv).2.2.2.2 j hj) (fun h9 => by have := q1.lt; omega))⟩
  · rcases hK i hk with h9 | h9 | h9
    · exact h.fk i hf h9
    · exact (hV i h9).2.1 hf
    · have := (h.d.fl i hf).2; omega
  · rcases hK i hk with h9 | h9 | h9
    · exact h.gk i hf h9
    · exact (hV i h9).2.2.1 hf
    · have := (h.r.fl i hf).2; omega
  · rcases hK sb hh with h9 | h9 | h9
    · exact h.sk h9
    · exact (hV sb h9).1 rfl
    · have := h.slt; omega
/-- A log is told of in a slot beyond the stage's. -/
theorem Wx.withL (h : Wx w0 w sb db rb tb bb lb mb F G s z K n st su) (j b : Nat) (hj : 2 ≤ j) (v : Nat × Bool) (hl : Lg w b db (nm10 j) v.1 v.2) (h1 : w0.heap.size ≤ b) (h2 : ¬ F b) (h3 : ¬ G b) (h4 : ¬ K b) : Wx w0 w sb db rb tb bb (fun i => if i = j then some b else lb i) mb F G s z K n (fun i => if i = j then v else st i) su := by
  refine ⟨?_, h.d, h.r, fun i c hc => ?_, h.mg, h.fg, h.fk, h.gk, h.sf, h.sg, h.sk, h.sl, h.lk, h.bel⟩
  · have e := h.blk
    have e0 : ¬ 0 = j := by omega
    have e1 : ¬ 1 = j := by omega
    simp only [stc10, if_neg e0, if_neg e1] at e ⊢
    exact e
  · by_cases e : i = j
    · subst e
      rw [if_pos rfl] at hc
      obtain rfl : b = c := Option.some.inj hc
      rw [if_pos rfl]
      exact ⟨hl, h1, h2, h3, h4⟩
    · rw [if_neg e] at hc ⊢
      exact h.lg i c hc
theorem Wx.withM (h : Wx w0 w sb db rb tb bb lb mb F G s z K n st su) (j b : Nat) (hj : 2 ≤ j) (v : Nat × Bool) (hl : Rg w b rb (nm10 j) v.1 v.2) (h1 : w0.heap.size ≤ b) (h2 : ¬ F b) (h3 : ¬ G b) (h4 : ¬ K b) : Wx w0 w sb db rb tb bb lb (fun i => if i = j then some b else mb i) F G s z K n st (fun i => if i = j then v else su i) := by
  refine ⟨?_, h.d, h.r, h.lg, fun i c hc => ?_, h.fg, h.fk, h.gk, h.sf, h.sg, h.sk, h.sl, h.lk, h.bel⟩
  · have e := h.blk
    have e0 : ¬ 0 = j := by omega
    have e1 : ¬ 1 = j := by omega
    simp only [stc10, if_neg e0, if_neg e1] at e ⊢
    exact e
  · by_cases e : i = j
    · subst e
      rw [if_pos rfl] at hc
      obtain rfl : b = c := Option.some.inj hc
      rw [if_pos rfl]
      exact ⟨hl, h1, h2, h3, h4⟩
    · rw [if_neg e] at hc ⊢
      exact h.mg i c hc
/-- The log that was just opened stands in the stage, or none. -/
theorem Wx.setL (h : Wx w0 w sb db rb tb bb lb mb F G s z K n st su) (k : Bool) : Wx w0 (w.setCell ⟨sb, 2 + kn10 k, none⟩ (optp (lb (2 + kn10 k)))) sb db rb tb bb (fun i => if i = kn10 k then lb (2 + kn10 k) else if 2 ≤ i then none else lb i) mb F G s z K n (fun i => if i = kn10 k then st (2 + kn10 k) else st i) su := by
  have hu : Upd (fun i => i = sb) w (w.setCell ⟨sb, 2 + kn10 k, none⟩ (optp (lb (2 + kn10 k)))) := (Upd.refl (fun i => i = sb) w).setCell (fun _ => rfl) _
  refine ⟨?_, h.d.upd hu (fun i hi hf => h.sf (by rw [← hi]; exact hf)), h.r.upd hu (fun i hi hf => h.sg (by rw [← hi]; exact hf)), fun i c hc => ?_, fun i c hc => ?_, h.fg, h.fk, h.gk, h.sf, h.sg, h.sk, h.sl, h.lk.upd hu (fun i hi hf => h.sk (by rw [← hi]; exact hf)), h.bel.trans (hu.below (fun i hi _ => by rw [hi]; exact h.sl) h.bw)⟩
  · rw [setCell_row h.blk]
    cases k <;> rfl
  · by_cases e : i = kn10 k
    · subst e
      simp only [if_pos] at hc ⊢
      obtain ⟨q1, q2⟩ := h.lg _ c hc
      have en : nm10 (kn10 k) = nm10 (2 + kn10 k) := by cases k <;> rfl
      rw [en]
      exact ⟨q1.upd hu (fun e => h.lne hc e), q2⟩
    · rw [if_neg e] at hc
      rw [if_neg e]
      by_cases e2 : 2 ≤ i
      · rw [if_pos e2] at hc; cases hc
      · rw [if_neg e2] at hc
        obtain ⟨q1, q2⟩ := h.lg _ c hc
        exact ⟨q1.upd hu (fun e => h.lne hc e), q2⟩
  · obtain ⟨q1, q2⟩ := h.mg _ c hc
    exact ⟨q1.upd hu (fun e => h.mne hc e), q2⟩
theorem Wx.setM (h : Wx w0 w sb db rb tb bb lb mb F G s z K n st su) (k : Bool) : Wx w0 (w.setCell ⟨sb, 4 + kn10 k, none⟩ (optp (mb (2 + kn10 k)))) sb db rb tb bb lb (fun i => if i = kn10 k then mb (2 + kn10 k) else if 2 ≤ i then none else mb i) F G s z K n st (fun i => if i = kn10 k then su (2 + kn10 k) else su i) := by
  have hu : Upd (fun i => i = sb) w (w.setCell ⟨sb, 4 + kn10 k, none⟩ (optp (mb (2 + kn10 k)))) := (Upd.refl (fun i => i = sb) w).setCell (fun _ => rfl) _
  refine ⟨?_, h.d.upd hu (fun i hi hf => h.sf (by rw [← hi]; exact hf)), h.r.upd hu (fun i hi hf => h.sg (by rw [← hi]; exact hf)), fun i c hc => ?_, fun i c hc => ?_, h.fg, h.fk, h.gk, h.sf, h.sg, h.sk, h.sl, h.lk.upd hu (fun i hi hf => h.sk (by rw [← hi]; exact hf)), h.bel.trans (hu.below (fun i hi _ => by rw [hi]; exact h.sl) h.bw)⟩
  · rw [setCell_row h.blk]
    cases k <;> rfl
  · obtain ⟨q1, q2⟩ := h.lg _ c hc
    exact ⟨q1.upd hu (fun e => h.lne hc e), q2⟩
  · by_cases e : i = kn10 k
    · subst e
      simp only [if_pos] at hc ⊢
      obtain ⟨q1, q2⟩ := h.mg _ c hc
      have en : nm10 (kn10 k) = nm10 (2 + kn10 k) := by cases k <;> rfl
      rw [en]
      exact ⟨q1.upd hu (fun e => h.mne hc e), q2⟩
    · rw [if_neg e] at hc
      rw [if_neg e]
      by_cases e2 : 2 ≤ i
      · rw [if_pos e2] at hc; cases hc
      · rw [if_neg e2] at hc
        obtain ⟨q1, q2⟩ := h.mg _ c hc
        exact ⟨q1.upd hu (fun e => h.mne hc e), q2⟩
theorem Wx.setL' (h : Wx w0 w sb db rb tb bb lb mb F G s z K n st su) (k : Bool) (v : Value) (hv : optp (lb (2 + kn10 k)) = v) : Wx w0 (w.setCell ⟨sb, 2 + kn10 k, none⟩ v) sb db rb tb bb (fun i => if i = kn10 k then lb (2 + kn10 k) else if 2 ≤ i then none else lb i) mb F G s z K n (fun i => if i = kn10 k then st (2 + kn10 k) else st i) su := by
  rw [← hv]
  exact h.setL k
theorem Wx.setM' (h : Wx w0 w sb db rb tb bb lb mb F G s z K n st su) (k : Bool) (v : Value) (hv : optp (mb (2 + kn10 k)) = v) : Wx w0 (w.setCell ⟨sb, 4 + kn10 k, none⟩ v) sb db rb tb bb lb (fun i => if i = kn10 k then mb (2 + kn10 k) else if 2 ≤ i then none else mb i) F G s z K n st (fun i => if i = kn10 k then su (2 + kn10 k) else su i) := by
  rw [← hv]
  exact h.setM k
/-- No log waits. -/
def Rest (lb mb : Nat → Option Nat) : Prop := (∀ j, 2 ≤ j → lb j = none ∧ mb j = none) ∧ ∀ j, lb j = none ↔ mb j = none
/-- A log's Append. -/
theorem Wx.stepL (h : Wx w0 w sb db rb tb bb lb mb F G s z K n st su) {j b : Nat} (hj : j < 2) (hb : lb j = some b) (hp : ∀ i, 2 ≤ i → lb i = none) {q : Int × Nat × Bool × DS} {r : Ending} (hs : WalStep w w' w0.heap.size db b F (nm10 j) q r) :
    r = .returned (.int .i64 q.1) ∧ ∃ F', Wx w0 w' sb db rb tb bb lb mb F' G q.2.2.2 z K n (fun i => if i = j then (q.2.1, q.2.2.1) else st i) su ∧ (∀ i, F' i → F i ∨ w.heap.size ≤ i) ∧ Upd (fun i => F i ∨ i = b) w w' := by
  obtain ⟨hr, F', h1, h2, h3, h4, h5, h6⟩ := hs
  refine ⟨hr, F', ?_, h6, h4⟩
  obtain ⟨b1, b2, b3, b4, b5⟩ := h.lg j b hb
  have old : ∀ c, c < w.heap.size → ¬ F c → ¬ F' c := fun c hc hf hf' => (h6 c hf').elim hf (fun h9 => by omega)
  refine ⟨(h4.block _ h.slt (fun e => e.elim h.sf (fun e => h.lne hb e.symm))).trans h.blk, h1, h.r.upd h4 (fun i hi hg => hi.elim (fun hf => h.fg i hf hg) (fun e => b4 (by rw [← e]; exact hg))), fun i c hc => ?_, fun i c hc => ?_, fun i hi hg => ?_, fun i hi hk => ?_, h.gk, old _ h.slt h.sf, h.sg, h.sk, h.sl, h.lk.upd h4 (fun i hi hk => hi.elim (fun hf => h.fk i hf hk) (fun e => b5 (by rw [← e]; exact hk))), h.bel.trans h5⟩
  · by_cases e : i = j
    · subst e
      obtain rfl : b = c := Option.some.inj (hb.symm.trans hc)
      rw [if_pos rfl]
      exact ⟨h2, b2, h3, b4, b5⟩
    · rw [if_neg e]
      obtain ⟨q1, q2, q3, q4, q5⟩ := h.lg i c hc
      have hi : i < 2 := by
        by_cases h9 : i < 2
        · exact h9
        · rw [hp i (by omega)] at hc; cases hc
      have hne : c ≠ b := by
        rcases Nat.lt_or_ge i 1 with h9 | h9
        · obtain rfl : i = 0 := by omega
          obtain rfl : j = 1 := by omega
          exact h.ll hc hb
        · obtain rfl : i = 1 := by omega
          obtain rfl : j = 0 := by omega
          exact fun e => h.ll hb hc e.symm
      exact ⟨q1.upd h4 (fun e => e.elim q3 hne), q2, old _ q1.lt q3, q4, q5⟩
  · obtain ⟨q1, q2, q3, q4, q5⟩ := h.mg i c hc
    exact ⟨q1.upd h4 (fun e => e.elim q3 (fun e => h.lm hb hc e.symm)), q2, old _ q1.lt q3, q4, q5⟩
  · rcases h6 i hi with h9 | h9
    · exact h.fg i h9 hg
    · have := (h.r.fl i hg).2; omega
  · rcases h6 i hi with h9 | h9
    · exact h.fk i h9 hk
    · have := (h.lk.kl i hk).2; omega
theorem Wx.stepM (h : Wx w0 w sb db rb tb bb lb mb F G s z K n st su) {j b : Nat} (hj : j < 2) (hb : mb j = some b) (hp : ∀ i, 2 ≤ i → mb i = none) {q : Int × Nat × Bool × DS} {r : Ending} (hs : RfWalP w w' w0.heap.size b rb G (nm10 j) q r) :
    r = .returned (.int .i64 q.1) ∧ ∃ G', Wx w0 w' sb db rb tb bb lb mb F G' s q.2.2.2 K n st (fun i => if i = j then (q.2.1, q.2.2.1) else su i) := by
  obtain ⟨hr, G', h1, h2, h4, h5, h6, h3⟩ := hs
  refine ⟨hr, G', ?_⟩
  obtain ⟨b1, b2, b3, b4, b5⟩ := h.mg j b hb
  have hG : ∀ i, i = rb → G i := fun i e => by rw [e]; exact h.r.at_
  have old : ∀ c, c < w.heap.size → ¬ G c → ¬ G' c := fun c hc hf hf' => (h6 c hf').elim hf (fun h9 => by omega)
  refine ⟨(h4.block _ h.slt (fun e => e.elim (fun e => h.sg (hG _ e)) (fun e => h.mne hb e.symm))).trans h.blk, h.d.upd h4 (fun i hi hf => hi.elim (fun e => h.fg i hf (hG i e)) (fun e => b3 (by rw [← e]; exact hf))), h1, fun i c hc => ?_, fun i c hc => ?_, fun i hf hi => ?_, h.fk, fun i hi hk => ?_, h.sf, old _ h.slt h.sg, h.sk, h.sl, h.lk.upd h4 (fun i hi hk => hi.elim (fun e => h.gk i (hG i e) hk) (fun e => b5 (by rw [← e]; exact hk))), h.bel.trans h5⟩
  · obtain ⟨q1, q2, q3, q4, q5⟩ := h.lg i c hc
    exact ⟨q1.upd h4 (fun e => e.elim (fun e => q4 (hG _ e)) (fun e => h.lm hc hb e)), q2, q3, old _ q1.lt q4, q5⟩
  · by_cases e : i = j
    · subst e
      obtain rfl : b = c := Option.some.inj (hb.symm.trans hc)
      rw [if_pos rfl]
      exact ⟨h2, b2, b3, h3, b5⟩
    · rw [if_neg e]
      obtain ⟨q1, q2, q3, q4, q5⟩ := h.mg i c hc
      have hi : i < 2 := by
        by_cases h9 : i < 2
        · exact h9
        · rw [hp i (by omega)] at hc; cases hc
      have hne : c ≠ b := by
        rcases Nat.lt_or_ge i 1 with h9 | h9
        · obtain rfl : i = 0 := by omega
          obtain rfl : j = 1 := by omega
          exact h.mm hc hb
        · obtain rfl : i = 1 := by omega
          obtain rfl : j = 0 := by omega
          exact fun e => h.mm hb hc e.symm
      exact ⟨q1.upd h4 (fun e => e.elim (fun e => q4 (hG _ e)) hne), q2, q3, old _ q1.lt q4, q5⟩
  · rcases h6 i hi with h9 | h9
    · exact h.fg i hf h9
    · have := (h.d.fl i hf).2; omega
  · rcases h6 i hi with h9 | h9
    · exact h.gk i h9 hk
    · have := (h.lk.kl i hk).2; omega
end
end Go.Proofs.YtnbpkignkfabkaaGreatDoor
/- posternlaw10: the stage opens a log at both. -/
namespace Go.Proofs.YtnbpkignkfabkaaGreatDoor
set_option linter.unusedVariables false
set_option linter.unusedSimpArgs false
open Go.RowKit Go.Maps
def kz10 (k : Bool) : Int := if k = true then 1 else 0
set_option maxRecDepth 100000 in
theorem names10_calls (k : Bool) (w : World) : Calls Tryz.prog 21 #[.int .i64 (kz10 k)] w fun r w' => r = .returned (.string ⟨(nm10 (kn10 k)).toArray⟩) ∧ w = w' := by
  cases k with
  | false =>
    simp only [kz10, if_false, Bool.false_eq_true]
    go_enter Tryz.func21, Tryz.ntmps21
    go_wp2
    go_ret
    exact ⟨rfl, rfl⟩
  | true =>
    simp only [kz10, if_true]
    go_enter Tryz.func21, Tryz.ntmps21
    go_wp2
    go_ret
    exact ⟨rfl, rfl⟩
section
variable {w0 w w' : World} {sb db rb tb bb : Nat} {lb mb : Nat → Option Nat} {F G : Nat → Prop} {s z t : DS} {K : Nat → Prop} {n : Nat} {st su : Nat → Nat × Bool}
/-- Blocks that are someone's. -/
def Some10 (sb : Nat) (F G K : Nat → Prop) (i : Nat) : Prop := i = sb ∨ F i ∨ G i ∨ K i
theorem Wx.openD0 (h : Wx w0 w sb db rb tb bb lb mb F G s z K n st su) {nm : List UInt8} {q : Int × Option (List (List UInt8) × Nat) × DS} {r : Ending} (hs : OpenStep2 w w' w0.heap.size db F nm q r) (hq : q.2.1 = none) :
    r = .returned (.tuple #[.pointer none, .slice none 0 0, .int .i64 q.1]) ∧ ∃ F', Wx w0 w' sb db rb tb bb lb mb F' G q.2.2 z K n st su := by
  obtain ⟨F', h1, h2, h3, h4, h5⟩ := hs
  rw [hq] at h5
  obtain ⟨F9, h9, -⟩ := h.stepD ⟨F', h1, h2, h3, h4⟩
  exact ⟨h5, F9, h9⟩
theorem Wx.openD1 (h : Wx w0 w sb db rb tb bb lb mb F G s z K n st su) {j : Nat} (hj : 2 ≤ j) {q : Int × Option (List (List UInt8) × Nat) × DS} {r : Ending} {xs : List (List UInt8)} {m : Nat} (hs : OpenStep2 w w' w0.heap.size db F (nm10 j) q r) (hq : q.2.1 = some (xs, m)) :
    ∃ F' b a c Af Cf, r = .returned (.tuple #[.pointer (some ⟨b, 0, none⟩), .slice a xs.length c, .int .i64 q.1]) ∧ Wx w0 w' sb db rb tb bb (fun i => if i = j then some b else lb i) mb F' G q.2.2 z K n (fun i => if i = j then (m, false) else st i) su ∧ Rd2 w' a xs Af Cf ∧ Els w' w.heap.size (Some10 sb F' G K) a c xs Af Cf := by
  obtain ⟨F', h1, h2, h3, h4, h5⟩ := hs
  rw [hq] at h5
  obtain ⟨b, a, c, Af, Cf, g1, g2, g3, g4, g5, g6, g7⟩ := h5
  have hF : ∀ i, F' i → F i ∨ w.heap.size ≤ i := h4
  have hx : Wx w0 w' sb db rb tb bb lb mb F' G q.2.2 z K n st su := by
    refine ⟨(h2.block _ h.slt h.sf).trans h.blk, h1, h.r.upd h2 (fun i hi => h.fg i hi), fun j b hj => ?_, fun j b hj => ?_, fun i hi hg => ?_, fun i hi hk => ?_, h.gk, fun hf => ?_, h.sg, h.sk, h.sl, h.lk.upd h2 (fun i hi => h.fk i hi), h.bel.trans h3⟩
    · obtain ⟨q1, q2, q3, q4, q5⟩ := h.lg j b hj
      exact ⟨q1.upd h2 q3, q2, fun hf => (h4 b hf).elim q3 (fun h9 => by have := q1.lt; omega), q4, q5⟩
    · obtain ⟨q1, q2, q3, q4, q5⟩ := h.mg j b hj
      exact ⟨q1.upd h2 q3, q2, fun hf => (h4 b hf).elim q3 (fun h9 => by have := q1.lt; omega), q4, q5⟩
    · rcases h4 i hi with h9 | h9
      · exact h.fg i h9 hg
      · have := (h.r.fl i hg).2; omega
    · rcases h4 i hi with h9 | h9
      · exact h.fk i h9 hk
      · have := (h.lk.kl i hk).2; omega
    · rcases h4 sb hf with h9 | h9
      · exact h.sf h9
      · have := h.slt; omega
  refine ⟨F', b, a, c, Af, Cf, g1, hx.withL j b hj (m, false) g2 (Nat.le_trans h.bw g3) g4 (fun hg => by have := (h.r.fl _ hg).2; omega) (fun hk => by have := (h.lk.kl _ hk).2; omega), g5, g7.out2 (fun i hi _ hb => ?_)⟩
  rcases hi with h9 | h9 | h9 | h9
  · have := h.slt; omega
  · exact h9
  · have := (h.r.fl _ h9).2; omega
  · have := (h.lk.kl _ h9).2; omega
theorem Wx.openR0 (h : Wx w0 w sb db rb tb bb lb mb F G s z K n st su) {nm : List UInt8} {q : Int × Option (List (List UInt8) × Nat) × DS} {r : Ending} (hs : RfOpenP w w' w0.heap.size rb G nm q r) (hq : q.2.1 = none) :
    r = .returned (.tuple #[.pointer none, .slice none 0 0, .int .i64 q.1]) ∧ ∃ G', Wx w0 w' sb db rb tb bb lb mb F G' s q.2.2 K n st su := by
  obtain ⟨G', h1, h2, h3, h4, h5⟩ := hs
  rw [hq] at h5
  obtain ⟨G9, h9, -⟩ := h.stepR ⟨G', h1, h2, h3, h4⟩
  exact ⟨h5, G9, h9⟩
theorem Wx.openR1 (h : Wx w0 w sb db rb tb bb lb mb F G s z K n st su) {j : Nat} (hj : 2 ≤ j) {q : Int × Option (List (List UInt8) × Nat) × DS} {r : Ending} {xs : List (List UInt8)} {m : Nat} (hs : RfOpenP w w' w0.heap.size rb G (nm10 j) q r) (hq : q.2.1 = some (xs, m)) :
    ∃ G' b a c Af Cf, r = .returned (.tuple #[.pointer (some ⟨b, 0, none⟩), .slice a xs.length c, .int .i64 q.1]) ∧ Wx w0 w' sb db rb tb bb lb (fun i => if i = j then some b else mb i) F G' s q.2.2 K n st (fun i => if i = j then (m, false) else su i) ∧ Rd2 w' a xs Af Cf ∧ Els w' w.heap.size (Some10 sb F G' K) a c xs Af Cf ∧ Upd (fun i => i = rb) w w' ∧ (∀ i, G' i → G i ∨ w.heap.size ≤ i) := by
  obtain ⟨G', h1, h2, h3, h4, h5⟩ := hs
  rw [hq] at h5
  obtain ⟨b, a, c, Af, Cf, g1, g2, g3, g4, g5, g6, g7⟩ := h5
  have hG : ∀ i, i = rb → G i := fun i e => by rw [e]; exact h.r.at_
  have hx : Wx w0 w' sb db rb tb bb lb mb F G' s q.2.2 K n st su := by
    refine ⟨(h2.block _ h.slt (fun e => h.sg (hG _ e))).trans h.blk, h.d.upd h2 (fun i hi hf => h.fg i hf (hG i hi)), h1, fun j b hj => ?_, fun j b hj => ?_, fun i hf hi => ?_, h.fk, fun i hi hk => ?_, h.sf, fun hf => ?_, h.sk, h.sl, h.lk.upd h2 (fun i hi => h.gk i (hG i hi)), h.bel.trans h3⟩
    · obtain ⟨q1, q2, q3, q4, q5⟩ := h.lg j b hj
      exact ⟨q1.upd h2 (fun e => q4 (hG _ e)), q2, q3, fun hf => (h4 b hf).elim q4 (fun h9 => by have := q1.lt; omega), q5⟩
    · obtain ⟨q1, q2, q3, q4, q5⟩ := h.mg j b hj
      exact ⟨q1.upd h2 (fun e => q4 (hG _ e)), q2, q3, fun hf => (h4 b hf).elim q4 (fun h9 => by have := q1.lt; omega), q5⟩
    · rcases h4 i hi with h9 | h9
      · exact h.fg i hf h9
      · have := (h.d.fl i hf).2; omega
    · rcases h4 i hi with h9 | h9
      · exact h.gk i h9 hk
      · have := (h.lk.kl i hk).2; omega
    · rcases h4 sb hf with h9 | h9
      · exact h.sg h9
      · have := h.slt; omega
  refine ⟨G', b, a, c, Af, Cf, g1, hx.withM j b hj (m, false) g2 (Nat.le_trans h.bw g3) (fun hf => by have := (h.d.fl _ hf).2; omega) g4 (fun hk => by have := (h.lk.kl _ hk).2; omega), g5, g7.out2 (fun i hi _ hb => ?_), h2, h4⟩
  rcases hi with h9 | h9 | h9 | h9
  · have := h.slt; omega
  · have := (h.d.fl _ h9).2; omega
  · exact .inr h9
  · have := (h.lk.kl _ h9).2; omega
/-- The program's rows, from the j-th on not kept yet, and the document's. -/
structure RwJ (w0 w : World) (sb : Nat) (lb mb : Nat → Option Nat) (F G K : Nat → Prop) (xs : List (List UInt8)) (a : Option Addr) (c : Nat) (Af : Nat → Option Addr) (Cf : Nat → Nat) (a2 : Option Addr) (c2 : Nat) (Bf : Nat → Option Addr) (Df : Nat → Nat) (j : Nat) : Prop where
  row : Own w w0.heap.size 74 1 (.slice a xs.length c) xs.length (svs xs Af Cf xs.length)
  rk : ∀ k, (Value.slice a xs.length c).ownBlock = some k → ¬ K k
  own : ∀ i, j ≤ i → i < xs.length → Own w w0.heap.size 5 1 (.slice (Af i) (xs.getD i []).length (Cf i)) (xs.getD i []).length (bys (xs.getD i []))
  ok : ∀ i, j ≤ i → i < xs.length → ∀ k, (Value.slice (Af i) (xs.getD i []).length (Cf i)).ownBlock = some k → ¬ K k
  dis : ∀ i j, i < j → j < xs.length → ∀ k, (Value.slice (Af i) (xs.getD i []).length (Cf i)).ownBlock = some k → (Value.slice (Af j) (xs.getD j []).length (Cf j)).ownBlock ≠ some k
  ext : ∀ i, i < xs.length → ∀ k, (Value.slice (Af i) (xs.getD i []).length (Cf i)).ownBlock = some k → k ≠ sb ∧ ¬ F k ∧ ¬ G k ∧ (∀ j, lb j ≠ some k) ∧ ∀ j, mb j ≠ some k
  row2 : Own w w0.heap.size 74 1 (.slice a2 xs.length c2) xs.length (svs xs Bf Df xs.length)
  rk2 : ∀ k, (Value.slice a2 xs.length c2).ownBlock = some k → ¬ K k
  own2 : ∀ i, i < xs.length → Own w w0.heap.size 5 1 (.slice (Bf i) (xs.getD i []).length (Df i)) (xs.getD i []).length (bys (xs.getD i []))
  ok2 : ∀ i, i < xs.length → ∀ k, (Value.slice (Bf i) (xs.getD i []).length (Df i)).ownBlock = some k → ¬ K k
  sep : ∀ i i2, i < xs.length → i2 < xs.length → ∀ k, (Value.slice (Af i) (xs.getD i []).length (Cf i)).ownBlock = some k → (Value.slice (Bf i2) (xs.getD i2 []).length (Df i2)).ownBlock ≠ some k
  short : ∀ i, i < xs.length → (xs.getD i []).length ≤ 1000000000000
/-- One more is kept. -/
theorem RwJ.next {xs : List (List UInt8)} {a : Option Addr} {c : Nat} {Af : Nat → Option Addr} {Cf : Nat → Nat} {a2 : Option Addr} {c2 : Nat} {Bf : Nat → Option Addr} {Df : Nat → Nat} {j : Nat} {K' : Nat → Prop}
    (h : RwJ w0 w sb lb mb F G K xs a c Af Cf a2 c2 Bf Df j) (hj : j < xs.length) (hu : Upd K w w') (hK : ∀ i, K' i → (K i ∨ (Value.slice (Af j) (xs.getD j []).length (Cf j)).ownBlock = some i) ∨ w.heap.size ≤ i) : RwJ w0 w' sb lb mb F G K' xs a c Af Cf a2 c2 Bf Df (j + 1) := by
  refine ⟨h.row.upd hu (fun k hk s => h.rk k hk s), fun k hk hs => ?_, fun i h1 h2 => (h.own i (by omega) h2).upd hu (fun k hk s => h.ok i (by omega) h2 k hk s), fun i h1 h2 k hk hs => ?_, h.dis, h.ext, h.row2.upd hu (fun k hk s => h.rk2 k hk s), fun k hk hs => ?_, fun i hi => (h.own2 i hi).upd hu (fun k hk s => h.ok2 i hi k hk s), fun i hi k hk hs => ?_, h.sep, h.short⟩
  · rcases hK k hs with (h9 | h9) | h9
    · exact h.rk k hk h9
    · exact Own.ne_type (h.own j (Nat.le_refl _) hj) h.row (by decide) k h9 hk
    · have := (h.row.lt k hk).2; omega
  · rcases hK k hs with (h9 | h9) | h9
    · exact h.ok i (by omega) h2 k hk h9
    · exact h.dis j i (by omega) h2 k h9 hk
    · have := ((h.own i (by omega) h2).lt k hk).2; omega
  · rcases hK k hs with (h9 | h9) | h9
    · exact h.rk2 k hk h9
    · exact Own.ne_type (h.own j (Nat.le_refl _) hj) h.row2 (by decide) k h9 hk
    · have := (h.row2.lt k hk).2; omega
  · rcases hK k hs with (h9 | h9) | h9
    · exact h.ok2 i hi k hk h9
    · exact h.sep j i hj hi k h9 hk
    · have := ((h.own2 i hi).lt k hk).2; omega
/-- The row's cell. -/
theorem RwJ.at1 {xs : List (List UInt8)} {a : Option Addr} {c : Nat} {Af : Nat → Option Addr} {Cf : Nat → Nat} {a2 : Option Addr} {c2 : Nat} {Bf : Nat → Option Addr} {Df : Nat → Nat} {j : Nat}
    (h : RwJ w0 w sb lb mb F G K xs a c Af Cf a2 c2 Bf Df j) {i : Nat} (hi : i < xs.length) : (∃ g, a = some ⟨g, 0, none⟩ ∧ w.cell? ⟨g, i, none⟩ = some (.slice (Af i) (xs.getD i []).length (Cf i))) ∧ ∃ g, a2 = some ⟨g, 0, none⟩ ∧ w.cell? ⟨g, i, none⟩ = some (.slice (Bf i) (xs.getD i []).length (Df i)) := by
  constructor
  · obtain ⟨g, cap, hv⟩ := h.row.shape (by omega)
    obtain ⟨rfl, rfl⟩ : a = some ⟨g, 0, none⟩ ∧ c = cap := by injection hv with e1 e2 e3; exact ⟨e1, e3⟩
    exact ⟨g, rfl, (h.row.cellAt i (by omega)).trans (svs_get hi)⟩
  · obtain ⟨g, cap, hv⟩ := h.row2.shape (by omega)
    obtain ⟨rfl, rfl⟩ : a2 = some ⟨g, 0, none⟩ ∧ c2 = cap := by injection hv with e1 e2 e3; exact ⟨e1, e3⟩
    exact ⟨g, rfl, (h.row2.cellAt i (by omega)).trans (svs_get hi)⟩
theorem Els.rd2 {N : Nat → Prop} {B : Nat} {a : Option Addr} {c : Nat} {xs : List (List UInt8)} {Af : Nat → Option Addr} {Cf : Nat → Nat} (h : Els w B N a c xs Af Cf) (hl : ∀ x ∈ xs, x.length ≤ 268435456) : Rd2 w a xs Af Cf := by
  refine ⟨fun i hi => ?_, fun i hi => ?_, fun i hi => ?_, fun i hi => ?_⟩
  · obtain ⟨g, cap, hv⟩ := h.row.shape (by omega)
    obtain ⟨rfl, rfl⟩ : a = some ⟨g, 0, none⟩ ∧ c = cap := by injection hv with e1 e2 e3; exact ⟨e1, e3⟩
    refine ⟨g, 0, rfl, ?_⟩
    rw [Nat.zero_add, h.row.cellAt i (by omega), svs_get hi, getD_lt hi]
  · have := (Own.byt (h.own i hi)).1
    rw [getD_lt hi] at this
    exact this
  · have := own_le (h.own i hi)
    rw [getD_lt hi] at this
    exact this
  · have := hl xs[i] (List.getElem_mem hi)
    omega
theorem RwJ.start (h : Wx w0 w sb db rb tb bb lb mb F G s z K n st su) {xs : List (List UInt8)} {a : Option Addr} {c : Nat} {Af : Nat → Option Addr} {Cf : Nat → Nat} {a2 : Option Addr} {c2 : Nat} {Bf : Nat → Option Addr} {Df : Nat → Nat} {B1 B2 : Nat}
    (e1 : Els w B1 (Some10 sb F G K) a c xs Af Cf) (e2 : Els w B2 (Some10 sb F G K) a2 c2 xs Bf Df) (h1 : w0.heap.size ≤ B1) (h2 : w0.heap.size ≤ B2) (hs : ∀ i k, i < xs.length → (Value.slice (Af i) (xs.getD i []).length (Cf i)).ownBlock = some k → k < B2) (hl : ∀ x ∈ xs, x.length ≤ 268435456) :
    RwJ w0 w sb lb mb F G K xs a c Af Cf a2 c2 Bf Df 0 := by
  refine ⟨e1.row.mono h1, fun k hk hh => e1.rout k hk (.inr (.inr (.inr hh))), fun i _ hi => (e1.own i hi).mono h1, fun i _ hi k hk hh => e1.out i k hi hk (.inr (.inr (.inr hh))), e1.dis, fun i hi k hk => ⟨fun e => e1.out i k hi hk (.inl e), fun e => e1.out i k hi hk (.inr (.inl e)), fun e => e1.out i k hi hk (.inr (.inr (.inl e))), fun j hj => ?_, fun j hj => ?_⟩, e2.row.mono h2, fun k hk hh => e2.rout k hk (.inr (.inr (.inr hh))), fun i hi => (e2.own i hi).mono h2, fun i hi k hk hh => e2.out i k hi hk (.inr (.inr (.inr hh))), fun i i2 hi hi2 k hk hk2 => ?_, fun i hi => ?_⟩
  · exact (e1.own i hi).not_ty (h.lg j k hj).1 (by decide) hk
  · exact (e1.own i hi).not_ty (h.mg j k hj).1 (by decide) hk
  · have q1 := hs i k hi hk
    have q2 := ((e2.own i2 hi2).lt k hk2).1
    omega
  · rw [getD_lt hi]
    have := hl xs[i] (List.getElem_mem hi)
    omega
end
theorem recR_many : ∀ (f : Nat) (b : List UInt8), (recR f b).1.length ≤ b.length
  | 0, _ => Nat.zero_le _
  | f + 1, b => by
    unfold recR
    by_cases h0 : b.length = 0
    · rw [if_pos h0]; exact Nat.zero_le _
    · rw [if_neg h0]
      by_cases h1 : (UnframeR b).2.2 = 0
      · rw [if_pos h1]
        have hn := unframe_n h1
        have := recR_many f (b.drop (UnframeR b).2.1)
        rw [List.length_drop] at this
        show (_ :: _).length ≤ _
        rw [List.length_cons]
        omega
      · rw [if_neg h1]
        split <;> exact Nat.zero_le _
theorem recR_rows : ∀ (f : Nat) (b : List UInt8), ∀ x ∈ (recR f b).1, x.length ≤ b.length
  | 0, _, x, hx => by cases hx
  | f + 1, b, x, hx => by
    unfold recR at hx
    by_cases h0 : b.length = 0
    · rw [if_pos h0] at hx; cases hx
    · rw [if_neg h0] at hx
      by_cases h1 : (UnframeR b).2.2 = 0
      · rw [if_pos h1] at hx
        have hn := unframe_n h1
        rcases List.mem_cons.1 hx with rfl | hx
        · exact hn.2.2
        · have := recR_rows f _ x hx
          rw [List.length_drop] at this
          omega
      · rw [if_neg h1] at hx
        by_cases h2 : (UnframeR b).2.2 = 30
        · rw [if_pos h2] at hx; cases hx
        · rw [if_neg h2] at hx; cases hx
theorem readB_le {s : DS} (h : s.ok) (nm : List UInt8) : (readB s nm).length ≤ 268435456 := by
  unfold readB
  split
  · exact h.byt nm
  · exact Nat.zero_le _
theorem openR_w (s : DS) (nm : List UInt8) : (openR s nm).2.2.writes ≤ s.writes + 1 := by
  unfold openR
  split
  · exact Nat.le_succ _
  · split
    · exact Nat.le_succ _
    · split
      · exact Nat.le_succ _
      · split
        · exact cut_w _ _ _
        · exact cut_w _ _ _
theorem openR_rows {s : DS} (h : s.ok) {nm : List UInt8} {e : Int} {xs : List (List UInt8)} {m : Nat} {t : DS} (hq : openR s nm = (e, some (xs, m), t)) : (∀ x ∈ xs, x.length ≤ 268435456) ∧ m ≤ 268435456 ∧ xs.length ≤ 4611686018427387904 := by
  have hb := readB_le h nm
  have h3 : (recOf (readB s nm)).1.length ≤ 4611686018427387904 := by have := recR_many ((readB s nm).length + 1) (readB s nm); unfold recOf; omega
  have h1 : ∀ x ∈ (recOf (readB s nm)).1, x.length ≤ 268435456 := fun x hx => Nat.le_trans (recR_rows _ _ x hx) hb
  have h2 : (recOf (readB s nm)).2.1 ≤ 268435456 := Nat.le_trans (recOf_at _) hb
  have key : xs = (recOf (readB s nm)).1 ∧ m = (recOf (readB s nm)).2.1 := by
    unfold openR at hq
    split at hq
    · cases hq
    · split at hq
      · cases hq
      · split at hq
        · injection hq with _ hq; injection hq with hq _; injection hq with hq; injection hq with e1 e2; exact ⟨e1.symm, e2.symm⟩
        · split at hq
          · cases hq
          · injection hq with _ hq; injection hq with hq _; injection hq with hq; injection hq with e1 e2; exact ⟨e1.symm, e2.symm⟩
  rw [key.1, key.2]
  exact ⟨h1, h2, h3⟩
end Go.Proofs.YtnbpkignkfabkaaGreatDoor
namespace Go.Proofs.YtnbpkignkfabkaaGreatDoor
set_option linter.unusedVariables false
set_option linter.unusedSimpArgs false
open Go.RowKit Go.Maps
/-- At rest. -/
def WxQ (w0 w : World) (sb db rb tb bb N : Nat) : Prop :=
  ∃ lb mb F G s K st, Wx w0 w sb db rb tb bb lb mb F G s s K 7 st st ∧ Rest lb mb ∧ s.writes ≤ N ∧ ∀ j, (st j).1 ≤ 300000000 * (N + 1)
section
variable {w0 w w' : World} {sb db rb tb bb : Nat} {lb mb : Nat → Option Nat} {F G : Nat → Prop} {s z t : DS} {K : Nat → Prop} {n : Nat} {st su : Nat → Nat × Bool}
theorem RwJ.below {xs : List (List UInt8)} {a : Option Addr} {c : Nat} {Af : Nat → Option Addr} {Cf : Nat → Nat} {a2 : Option Addr} {c2 : Nat} {Bf : Nat → Option Addr} {Df : Nat → Nat} {j : Nat}
    (h : RwJ w0 w sb lb mb F G K xs a c Af Cf a2 c2 Bf Df j) (hb : Below w.heap.size w w') : RwJ w0 w' sb lb mb F G K xs a c Af Cf a2 c2 Bf Df j :=
  ⟨h.row.below hb, h.rk, fun i h1 h2 => (h.own i h1 h2).below hb, h.ok, h.dis, h.ext, h.row2.below hb, h.rk2, fun i hi => (h.own2 i hi).below hb, h.ok2, h.sep, h.short⟩
theorem Rest.close (hr : ∀ j, lb j = none ↔ mb j = none) (k : Bool) : Rest (fun i => if i = kn10 k then lb (2 + kn10 k) else if 2 ≤ i then none else lb i) (fun i => if i = kn10 k then mb (2 + kn10 k) else if 2 ≤ i then none else mb i) := by
  have kl : kn10 k < 2 := by cases k <;> decide
  refine ⟨fun j hj => ?_, fun j => ?_⟩
  · have e : ¬ j = kn10 k := by omega
    exact ⟨by show (if j = kn10 k then _ else _) = _; rw [if_neg e, if_pos hj], by show (if j = kn10 k then _ else _) = _; rw [if_neg e, if_pos hj]⟩
  · by_cases e : j = kn10 k
    · show (if j = kn10 k then _ else _) = _ ↔ (if j = kn10 k then _ else _) = _
      rw [if_pos e, if_pos e]
      exact hr _
    · show (if j = kn10 k then _ else _) = _ ↔ (if j = kn10 k then _ else _) = _
      rw [if_neg e, if_neg e]
      by_cases e2 : 2 ≤ j
      · rw [if_pos e2, if_pos e2]
      · rw [if_neg e2, if_neg e2]
        exact hr j
theorem BoundClose {B : Nat} (hst : ∀ j, (st j).1 ≤ B) (k : Bool) : ∀ j, ((fun i => if i = kn10 k then st (2 + kn10 k) else st i) j).1 ≤ B := by
  intro j
  show (if j = kn10 k then st (2 + kn10 k) else st j).1 ≤ _
  split
  · exact hst _
  · exact hst _
theorem Rd2.nil (w : World) {c : Nat → Nat} : Rd2 w none [] (fun _ => none) c := ⟨(fun i h => absurd h (Nat.not_lt_zero _)), (fun i h => absurd h (Nat.not_lt_zero _)), (fun i h => absurd h (Nat.not_lt_zero _)), (fun i h => absurd h (Nat.not_lt_zero _))⟩
end
set_option maxRecDepth 100000 in
set_option maxHeartbeats 8000000 in
theorem open10_calls {w0 w : World} {sb db rb tb bb : Nat} {lb mb : Nat → Option Nat} {F G : Nat → Prop} {s : DS} {K : Nat → Prop} {st : Nat → Nat × Bool} (h : Wx w0 w sb db rb tb bb lb mb F G s s K 7 st st) (hr : Rest lb mb) (k : Bool) (N : Nat) (hN : s.writes ≤ N) (hN2 : N ≤ 1000000) (hst : ∀ j, (st j).1 ≤ 300000000 * (N + 1)) (ht : Tab w0) (hg : 0 < w0.heap.size) :
    Calls Tryz.prog 9 #[.pointer (some ⟨sb, 0, none⟩), .int .i64 (kz10 k)] w fun r w' => r = .returned (.bool true) ∧ WxQ w0 w' sb db rb tb bb (N + 1) := by
  have H := Lib.hid h; have RS := Lib.hid hr; have HST := Lib.hid hst; have TB := Lib.hid ht; have HG := Lib.hid hg
  have NML : (nm10 (kn10 k)).length ≤ 140737488351232 := by cases k <;> decide
  have NME : nm10 (kn10 k) = nm10 (2 + kn10 k) := by cases k <;> rfl
  have OKS := h.d.dk.ok
  have WRS : s.writes ≤ 4611686018427387904 := by omega
  have DS1 := Lib.hid (h.below (w' := w.drew) (bel_drew (Below.refl _ _)))
  have OC := Lib.hid (Open_s2 (nm10 (kn10 k)) DS1.out.d (TB.out.below DS1.out.bel) HG.out NML WRS)
  have RC := Lib.hid (fun (wx : World) (G' : Nat → Prop) (hx : RfS wx w0.heap.size rb G' s) => RfOpen_calls hx (nm10 (kn10 k)) NML WRS)
  have OW := openR_w s (nm10 (kn10 k))
  have OR := Lib.hid (fun e xs m t => openR_rows (e := e) (xs := xs) (m := m) (t := t) OKS (nm := nm10 (kn10 k)))
  obtain ⟨⟨e, o, t⟩, hq⟩ : ∃ q, openR s (nm10 (kn10 k)) = q := ⟨_, rfl⟩
  rw [hq] at OC RC OW
  have HQ := Lib.hid hq
  have te : (e != e) = false := by simp
  have NEH := Lib.hid NME
  have TW : Hid (t.writes ≤ N + 1) := by
    show _ ≤ _
    have h9 : t.writes ≤ s.writes + 1 := OW
    omega
  obtain ⟨c0, -, -, -, -, -, -, -⟩ := DS1.out.cells
  clear h hr hst ht hg hq NME OKS WRS OW NML
  cases o with
  | none =>
    have OC0 := Lib.hid (show Calls Tryz.prog 16 #[.pointer (some ⟨db, 0, none⟩), .string ⟨(nm10 (kn10 k)).toArray⟩] w.drew fun r w' => r = .returned (.tuple #[.pointer none, .slice none 0 0, .int .i64 e]) ∧ ∃ F', Wx w0 w' sb db rb tb bb lb mb F' G t s K 7 st st from OC.out.mono (fun r w' hr => DS1.out.openD0 hr rfl))
    have RC0 := Lib.hid (fun (wx : World) (F' : Nat → Prop) (hx : Wx w0 wx sb db rb tb bb lb mb F' G t s K 7 st st) => show Calls Tryz.prog 22 #[.pointer (some ⟨rb, 0, none⟩), .string ⟨(nm10 (kn10 k)).toArray⟩] wx fun r w' => r = .returned (.tuple #[.pointer none, .slice none 0 0, .int .i64 e]) ∧ ∃ G', Wx w0 w' sb db rb tb bb lb mb F' G' t t K 7 st st from (RC.out wx G hx.r).mono (fun r w' hr => hx.openR0 hr rfl))
    have NC := Lib.hid (fun (wx : World) => names10_calls k wx)
    clear OC RC OR
    go_enter Tryz.func9, Tryz.ntmps9
    go_upto_region 1 with fail
    go_region_held3 (fun w' => w'.cell? ⟨sb, 0, none⟩ = some (.pointer (some ⟨db, 0, none⟩)))
      (first
        | go_keep)
      (first
        | (go_at_call 21; (with_reducible refine (NC.out _).mono ?_); rintro r wx ⟨rfl, rfl⟩)
        | (go_at_call 16; (with_reducible refine OC0.out.mono ?_); rintro r w1 ⟨rfl, F1, h1⟩; have H1 := Lib.hid h1; obtain ⟨d0, d1, -, -, -, -, -, -⟩ := h1.cells; clear h1))
    have H2 := Lib.hid (H1.out.below (w' := w1.drew) (bel_drew (Below.refl _ _)))
    obtain ⟨-, d1, -, -, -, -, -, -⟩ := H2.out.cells
    have RC1 := Lib.hid (RC0.out _ _ H2.out)
    clear OC0 RC0 H1
    go_upto_region 2 with fail
    go_region_held3 (fun w' => w'.cell? ⟨sb, 1, none⟩ = some (.pointer (some ⟨rb, 0, none⟩)))
      (first
        | go_keep)
      (first
        | (go_at_call 21; (with_reducible refine (NC.out _).mono ?_); rintro r wx ⟨rfl, rfl⟩)
        | (go_at_call 22; (with_reducible refine RC1.out.mono ?_); rintro r w2 ⟨rfl, G1, h2⟩; have H3 := Lib.hid h2; obtain ⟨d0, d1, -, -, -, -, -, -⟩ := h2.cells; clear h2))
    have RW := Lib.hid (rows10_calls none none 0 0 [] [] (fun _ => none) (fun _ => none) (fun _ => 0) (fun _ => 0) w2 (Rd2.nil _) (Rd2.nil _) (by simp))
    clear RC1 H2 d0 d1 c0
    go_wp2_with (first | (go_at_call 7; refine (num10_calls _ _).mono ?_; rintro r wx ⟨rfl, rfl⟩) | (go_at_call 23; refine RW.out.mono ?_; rintro r w3 ⟨rfl, hb3⟩; have B3 := Lib.hid hb3; clear hb3))
    go_loopw [11] (fun v wr => v = .int .i64 0 ∧ w3 = wr) (fun _ _ => 0)
    case atStart => exact ⟨rfl, rfl⟩
    case round =>
      obtain ⟨rfl, rfl⟩ := hrel
      obtain ⟨KP, hKP⟩ : ∃ q, K = q := ⟨_, rfl⟩
      obtain ⟨lbP, hlb⟩ : ∃ q, lb = q := ⟨_, rfl⟩
      obtain ⟨mbP, hmb⟩ : ∃ q, mb = q := ⟨_, rfl⟩
      obtain ⟨stP, hst⟩ : ∃ q, st = q := ⟨_, rfl⟩
      have XR := Lib.hid (H3.out.below B3.out)
      have RP := Lib.hid RS.out.2
      have SP : Hid (∀ j, (st j).1 ≤ 300000000 * (N + 1 + 1)) := fun j => Nat.le_trans (HST.out j) (by omega)
      have LV : Hid (lb (2 + kn10 k) = none ∧ mb (2 + kn10 k) = none) := RS.out.1 _ (by omega)
      rw [hKP, hlb, hmb, hst] at XR
      rw [hlb, hmb] at RP LV
      rw [hst] at SP
      clear hKP hlb hmb hst H3
      go_upto_region 9 with fail
      go_cut [] (fun wx => Wx w0 wx sb db rb tb bb (fun i => if i = kn10 k then lbP (2 + kn10 k) else if 2 ≤ i then none else lbP i) mbP F1 G1 t t KP 7 (fun i => if i = kn10 k then stP (2 + kn10 k) else stP i) stP)
      case first =>
        have XL := Lib.hid (XR.out.setL' k (.pointer none) (by rw [LV.out.1]; rfl))
        obtain ⟨-, -, b2, b3, -, -, -, -⟩ := XR.out.cells
        have z2 := XR.out.froz 2
        have z3 := XR.out.froz 3
        cases k with
        | false =>
          simp only [kz10, if_false, Bool.false_eq_true]
          go_wp2
          go_meet
          case rel => exact XL.out
        | true =>
          simp only [kz10, if_true]
          go_wp2
          go_meet
          case rel => exact XL.out
      case rest =>
        obtain ⟨wB, rfl⟩ : ∃ q, q = wc := ⟨_, rfl⟩
        have XB := Lib.hid hcut
        clear hcut
        go_upto_region 10 with fail
        go_cut [] (fun wx => Wx w0 wx sb db rb tb bb (fun i => if i = kn10 k then lbP (2 + kn10 k) else if 2 ≤ i then none else lbP i) (fun i => if i = kn10 k then mbP (2 + kn10 k) else if 2 ≤ i then none else mbP i) F1 G1 t t KP 7 (fun i => if i = kn10 k then stP (2 + kn10 k) else stP i) (fun i => if i = kn10 k then stP (2 + kn10 k) else stP i))
        case first =>
          have XL := Lib.hid (XB.out.setM' k (.pointer none) (by rw [LV.out.2]; rfl))
          obtain ⟨-, -, -, -, b4, b5, -, -⟩ := XB.out.cells
          have z4 := XB.out.froz 4
          have z5 := XB.out.froz 5
          cases k with
          | false =>
            simp only [kz10, if_false, Bool.false_eq_true]
            go_wp2
            go_meet
            case rel => exact XL.out
          | true =>
            simp only [kz10, if_true]
            go_wp2
            go_meet
            case rel => exact XL.out
        case rest =>
          obtain ⟨wC, rfl⟩ : ∃ q, q = wc := ⟨_, rfl⟩
          have XC := Lib.hid (Wx.below (w' := wC.drew) hcut (bel_drew (Below.refl _ _)))
          clear hcut
          obtain ⟨-, -, -, -, -, -, b6, b7⟩ := XC.out.cells
          have sc0 := XC.out.lk.settle XC.out.bw (by omega) 8 (by omega)
          rw [show ((8 : Nat) : Int) = 8 from rfl] at sc0
          have SC := Lib.hid sc0
          clear sc0
          have XD := Lib.hid (fun (wx : World) (hk : LbK wx w0.heap.size tb bb (8 - 1) (fun i => KP i ∨ wC.drew.heap.size ≤ i ∧ i < wx.heap.size)) (hu : Upd KP wC.drew wx) => XC.out.stepK hk hu (fun i hi => hi.imp_right (fun h9 => h9.1)))
          go_upto_region 11 with fail
          go_region_held3 (fun w' => w'.cell? ⟨sb, 6, none⟩ = some (.pointer (some ⟨bb, 0, none⟩)) ∧ w'.cell? ⟨sb, 7, none⟩ = some (.pointer (some ⟨tb, 0, none⟩)))
            (first
              | go_keep)
            (first
              | (go_at_call 12; (with_reducible refine SC.out.mono ?_); rintro r w9 ⟨rfl, k9, u9⟩; have X9 := Lib.hid (XD.out w9 k9 u9); obtain ⟨-, -, -, -, -, -, e6, e7⟩ := X9.out.cells; clear k9 u9))
          all_goals
            go_wp2
            go_ret
            exact ⟨by first | rfl | simp, _, _, F1, G1, t, _, _, X9.out, Rest.close RP.out k, TW.out, BoundClose SP.out k⟩
  | some p =>
    obtain ⟨xs, m⟩ := p
    obtain ⟨XL9, ML9, XLEN⟩ := OR.out e xs m t HQ.out
    have OC1 := Lib.hid (show Calls Tryz.prog 16 #[.pointer (some ⟨db, 0, none⟩), .string ⟨(nm10 (kn10 k)).toArray⟩] w.drew fun r w' => ∃ F' b a c Af Cf, r = .returned (.tuple #[.pointer (some ⟨b, 0, none⟩), .slice a xs.length c, .int .i64 e]) ∧ Wx w0 w' sb db rb tb bb (fun i => if i = 2 + kn10 k then some b else lb i) mb F' G t s K 7 (fun i => if i = 2 + kn10 k then (m, false) else st i) st ∧ Rd2 w' a xs Af Cf ∧ Els w' w.drew.heap.size (Some10 sb F' G K) a c xs Af Cf from OC.out.mono (fun r w' hr => DS1.out.openD1 (j := 2 + kn10 k) (by omega) (by rw [← NEH.out]; exact hr) rfl))
    have RC1 := Lib.hid (fun (wx : World) (lbx : Nat → Option Nat) (F' : Nat → Prop) (stx : Nat → Nat × Bool) (hx : Wx w0 wx sb db rb tb bb lbx mb F' G t s K 7 stx st) => show Calls Tryz.prog 22 #[.pointer (some ⟨rb, 0, none⟩), .string ⟨(nm10 (kn10 k)).toArray⟩] wx fun r w' => ∃ G' b a c Af Cf, r = .returned (.tuple #[.pointer (some ⟨b, 0, none⟩), .slice a xs.length c, .int .i64 e]) ∧ Wx w0 w' sb db rb tb bb lbx (fun i => if i = 2 + kn10 k then some b else mb i) F' G' t t K 7 stx (fun i => if i = 2 + kn10 k then (m, false) else st i) ∧ Rd2 w' a xs Af Cf ∧ Els w' wx.heap.size (Some10 sb F' G' K) a c xs Af Cf ∧ Upd (fun i => i = rb) wx w' ∧ (∀ i, G' i → G i ∨ wx.heap.size ≤ i) from (RC.out wx G hx.r).mono (fun r w' hr => hx.openR1 (j := 2 + kn10 k) (by omega) (by rw [← NEH.out]; exact hr) rfl))
    have NC := Lib.hid (fun (wx : World) => names10_calls k wx)
    have XL := Lib.hid XL9
    have RBG : Hid (G rb) := DS1.out.r.at_
    clear OC RC OR XL9
    go_enter Tryz.func9, Tryz.ntmps9
    go_upto_region 1 with fail
    go_region_held3 (fun w' => w'.cell? ⟨sb, 0, none⟩ = some (.pointer (some ⟨db, 0, none⟩)))
      (first
        | go_keep)
      (first
        | (go_at_call 21; (with_reducible refine (NC.out _).mono ?_); rintro r wx ⟨rfl, rfl⟩)
        | (go_at_call 16; (with_reducible refine OC1.out.mono ?_); rintro r w1 ⟨F1, b1, a1, c1, Af, Cf, rfl, h1, -, el1⟩; have H1 := Lib.hid h1; have EL1 := Lib.hid el1; obtain ⟨d0, d1, -, -, -, -, -, -⟩ := h1.cells; clear h1 el1))
    have H2 := Lib.hid (H1.out.below (w' := w1.drew) (bel_drew (Below.refl _ _)))
    have EL2 : Hid (Els w1.drew w.drew.heap.size (Some10 sb F1 G K) a1 c1 xs Af Cf) := EL1.out.upd (Upd.ofBelow (bel_drew (Below.refl _ _))) (fun _ s => s.elim)
    obtain ⟨-, d1, -, -, -, -, -, -⟩ := H2.out.cells
    have RC2 := Lib.hid (RC1.out _ _ _ _ H2.out)
    clear OC1 RC1 H1 EL1
    go_upto_region 2 with fail
    go_region_held3 (fun w' => w'.cell? ⟨sb, 1, none⟩ = some (.pointer (some ⟨rb, 0, none⟩)))
      (first
        | go_keep)
      (first
        | (go_at_call 21; (with_reducible refine (NC.out _).mono ?_); rintro r wx ⟨rfl, rfl⟩)
        | (go_at_call 22; (with_reducible refine RC2.out.mono ?_); rintro r w2 ⟨G1, b2, a2, c2, Bf, Df, rfl, h2, -, el2, u2, g2⟩; have H3 := Lib.hid h2; have EL3 := Lib.hid el2; have U2 := Lib.hid u2; have G2 := Lib.hid g2; obtain ⟨d0, d1, -, -, -, -, -, -⟩ := h2.cells; clear h2 el2 u2 g2))
    have EL1b : Hid (Els w2 w.drew.heap.size (Some10 sb F1 G1 K) a1 c1 xs Af Cf) :=
      ((EL2.out.out2 (N' := fun i => Some10 sb F1 G K i ∨ Some10 sb F1 G1 K i) (fun i hi hlt _ => by
        rcases hi with h9 | h9 | h9 | h9 | h9
        · exact h9
        · exact .inl h9
        · exact .inr (.inl h9)
        · rcases G2.out i h9 with h8 | h8
          · exact .inr (.inr (.inl h8))
          · omega
        · exact .inr (.inr (.inr h9)))).upd U2.out (fun i hi => by rw [hi]; exact .inl (.inr (.inr (.inl RBG.out))))).out2 (fun i hi _ _ => .inr hi)
    have SEPX : Hid (∀ i k, i < xs.length → (Value.slice (Af i) (xs.getD i []).length (Cf i)).ownBlock = some k → k < w1.drew.heap.size) := fun i k hi hk => ((EL2.out.own i hi).lt k hk).2
    have rw0 := rows10_calls a1 a2 c1 c2 xs xs Af Bf Cf Df w2 (EL1b.out.rd2 XL.out) (EL3.out.rd2 XL.out) XLEN
    rw [show decide (xs = xs) = true by simp] at rw0
    have RW := Lib.hid rw0
    have BWX := Lib.hid H2.out.bw
    clear RC2 H2 d0 d1 c0 rw0 EL2
    go_wp2_with (first | (go_at_call 7; refine (num10_calls _ _).mono ?_; rintro r wx ⟨rfl, rfl⟩) | (go_at_call 23; refine RW.out.mono ?_; rintro r w3 ⟨rfl, hb3⟩; have B3 := Lib.hid hb3; clear hb3))
    obtain ⟨lbP, hlb⟩ : ∃ q, (fun i => if i = 2 + kn10 k then some b1 else lb i) = q := ⟨_, rfl⟩
    obtain ⟨mbP, hmb⟩ : ∃ q, (fun i => if i = 2 + kn10 k then some b2 else mb i) = q := ⟨_, rfl⟩
    obtain ⟨stP, hst⟩ : ∃ q, (fun i => if i = 2 + kn10 k then (m, false) else st i) = q := ⟨_, rfl⟩
    have RP : Hid (∀ j, lbP j = none ↔ mbP j = none) := fun j => by
      rw [← hlb, ← hmb]
      by_cases e9 : j = 2 + kn10 k
      · simp [e9]
      · simp only [if_neg e9]; exact RS.out.2 j
    have SP : Hid (∀ j, (stP j).1 ≤ 300000000 * (N + 1 + 1)) := fun j => by
      rw [← hst]
      by_cases e9 : j = 2 + kn10 k
      · simp only [if_pos e9]; omega
      · simp only [if_neg e9]; exact Nat.le_trans (HST.out j) (by omega)
    have LV : Hid (lbP (2 + kn10 k) = some b1 ∧ mbP (2 + kn10 k) = some b2) := ⟨by rw [← hlb]; exact if_pos rfl, by rw [← hmb]; exact if_pos rfl⟩
    have x3 := H3.out.below B3.out
    rw [hlb, hmb, hst] at x3
    have J3 := Lib.hid (RwJ.start x3 (EL1b.out.upd (Upd.ofBelow B3.out) (fun _ s => s.elim)) (EL3.out.upd (Upd.ofBelow B3.out) (fun _ s => s.elim)) DS1.out.bw BWX.out SEPX.out XL.out)
    have X3 := Lib.hid x3
    clear hlb hmb hst x3 H3 EL1b EL3 SEPX RW
    go_loopw [11] (fun v wr => ∃ (j : Nat) (Kj : Nat → Prop), v = .int .i64 j ∧ j ≤ xs.length ∧ j ≤ 200 ∧ Wx w0 wr sb db rb tb bb lbP mbP F1 G1 t t Kj (7 + j) stP stP ∧ RwJ w0 wr sb lbP mbP F1 G1 Kj xs a1 c1 Af Cf a2 c2 Bf Df j) (fun v _ => xs.length - (intOf v).toNat)
    case atStart => exact ⟨0, K, rfl, Nat.zero_le _, Nat.zero_le _, X3.out, J3.out⟩
    case round =>
      obtain ⟨j, KP, rfl, hj1, hj2, hx, hjj⟩ := hrel
      have XR := Lib.hid hx; have JR := Lib.hid hjj
      clear hx hjj X3 J3
      by_cases q1 : j < xs.length
      · have t1 : decide ((j : Int) < (xs.length : Int)) = true := decide_eq_true (by omega)
        have t1' : decide (j < xs.length) = true := decide_eq_true q1
        by_cases q2 : j < 200
        · have t2 : decide ((j : Int) < 200) = true := decide_eq_true (by omega)
          have t2' : decide (j < 200) = true := decide_eq_true q2
          have i2 : (j : Int) < (xs.length : Int) := by omega
          have i0 : (0 : Int) ≤ (j : Int) := by omega
          have X8 := Lib.hid (XR.out.below (w' := wr.drew) (bel_drew (Below.refl _ _)))
          have J8 := Lib.hid (JR.out.below (w' := wr.drew) (bel_drew (Below.refl _ _)))
          obtain ⟨⟨g1, rfl, y1⟩, g2, rfl, y2⟩ := J8.out.at1 q1
          have AC := X8.out.lk.add X8.out.bw (by omega) (Af j) (Cf j) (xs.getD j []) (J8.out.own j (Nat.le_refl _) q1) (J8.out.short j q1) (J8.out.ok j (Nat.le_refl _) q1) (Bf j) (Df j) (Own.byt (J8.out.own2 j q1)).1 (fun kk hk => J8.out.ok2 j q1 kk (by cases hb9 : Bf j with
            | none => rw [hb9] at hk; cases hk
            | some ad => rw [hb9] at hk; exact hk))
          have X9F := fun (w5 : World) (lk5 : LbK w5 w0.heap.size tb bb (7 + j + 1) (fun i => (KP i ∨ (Value.slice (Af j) (xs.getD j []).length (Cf j)).ownBlock = some i) ∨ wr.drew.heap.size ≤ i ∧ i < w5.heap.size)) (u5 : Upd KP wr.drew w5) => X8.out.stepK2 lk5 u5 (fun i => (Value.slice (Af j) (xs.getD j []).length (Cf j)).ownBlock = some i) (fun i hi => J8.out.ext j q1 i hi) (fun i hi => hi.elim (fun h9 => h9.elim .inl (fun h8 => .inr (.inl h8))) (fun h9 => .inr (.inr h9.1)))
          have J9F := fun (w5 : World) (u5 : Upd KP wr.drew w5) => J8.out.next (K' := fun i => (KP i ∨ (Value.slice (Af j) (xs.getD j []).length (Cf j)).ownBlock = some i) ∨ wr.drew.heap.size ≤ i ∧ i < w5.heap.size) q1 u5 (fun i hi => hi.imp_right (fun h9 => h9.1))
          have Y9F := Lib.hid (fun (w5 : World) (u5 : Upd KP wr.drew w5) => show w5.cell? ⟨g1, j, none⟩ = some (.slice (Af j) (xs.getD j []).length (Cf j)) ∧ w5.cell? ⟨g2, j, none⟩ = some (.slice (Bf j) (xs.getD j []).length (Df j)) from by
            obtain ⟨⟨p1, e1, z1⟩, p2, e2, z2⟩ := (J9F w5 u5).at1 q1
            cases e1
            cases e2
            exact ⟨z1, z2⟩)
          obtain ⟨x, hx⟩ : ∃ x, xs.getD j [] = x := ⟨_, rfl⟩
          rw [hx] at AC X9F J9F Y9F y1 y2
          have ACH := Lib.hid AC; have X9H := Lib.hid X9F; have J9H := Lib.hid J9F
          obtain ⟨-, -, -, -, -, -, -, b7⟩ := X8.out.cells
          clear AC X9F J9F hx
          go_upto_region 8 with fail
          go_region_held3 (fun w' => w'.cell? ⟨sb, 7, none⟩ = some (.pointer (some ⟨tb, 0, none⟩)) ∧ w'.cell? ⟨g1, j, none⟩ = some (.slice (Af j) x.length (Cf j)) ∧ w'.cell? ⟨g2, j, none⟩ = some (.slice (Bf j) x.length (Df j)))
            (first
              | go_keep)
            (first
              | (go_at_call 24; (with_reducible refine ACH.out.mono ?_); rintro r w5 ⟨rfl, lk5, u5⟩; have X9 := Lib.hid (X9H.out w5 lk5 u5); have J9 := Lib.hid (J9H.out w5 u5); obtain ⟨v1, v2⟩ := Y9F.out w5 u5; obtain ⟨-, -, -, -, -, -, -, v7⟩ := X9.out.cells; clear lk5 u5))
          all_goals
            go_wp2
            go_roundw
            case rel => exact ⟨j + 1, _, by go_num, by omega, by omega, X9.out, J9.out⟩
            case measure => simp [intOf]; omega
        · have t2 : decide ((j : Int) < 200) = false := decide_eq_false (by omega)
          have t2' : decide (j < 200) = false := decide_eq_false q2
          go_upto_region 9 with fail
          go_cut [] (fun wx => Wx w0 wx sb db rb tb bb (fun i => if i = kn10 k then lbP (2 + kn10 k) else if 2 ≤ i then none else lbP i) mbP F1 G1 t t KP (7 + j) (fun i => if i = kn10 k then stP (2 + kn10 k) else stP i) stP)
          case first =>
            have XL := Lib.hid (XR.out.setL' k (.pointer (some ⟨b1, 0, none⟩)) (by rw [LV.out.1]; rfl))
            obtain ⟨-, -, b2, b3, -, -, -, -⟩ := XR.out.cells
            have z2 := XR.out.froz 2
            have z3 := XR.out.froz 3
            cases k with
            | false =>
              simp only [kz10, if_false, Bool.false_eq_true]
              go_wp2
              go_meet
              case rel => exact XL.out
            | true =>
              simp only [kz10, if_true]
              go_wp2
              go_meet
              case rel => exact XL.out
          case rest =>
            obtain ⟨wB, rfl⟩ : ∃ q, q = wc := ⟨_, rfl⟩
            have XB := Lib.hid hcut
            clear hcut
            go_upto_region 10 with fail
            go_cut [] (fun wx => Wx w0 wx sb db rb tb bb (fun i => if i = kn10 k then lbP (2 + kn10 k) else if 2 ≤ i then none else lbP i) (fun i => if i = kn10 k then mbP (2 + kn10 k) else if 2 ≤ i then none else mbP i) F1 G1 t t KP (7 + j) (fun i => if i = kn10 k then stP (2 + kn10 k) else stP i) (fun i => if i = kn10 k then stP (2 + kn10 k) else stP i))
            case first =>
              have XL := Lib.hid (XB.out.setM' k (.pointer (some ⟨b2, 0, none⟩)) (by rw [LV.out.2]; rfl))
              obtain ⟨-, -, -, -, b4, b5, -, -⟩ := XB.out.cells
              have z4 := XB.out.froz 4
              have z5 := XB.out.froz 5
              cases k with
              | false =>
                simp only [kz10, if_false, Bool.false_eq_true]
                go_wp2
                go_meet
                case rel => exact XL.out
              | true =>
                simp only [kz10, if_true]
                go_wp2
                go_meet
                case rel => exact XL.out
            case rest =>
              obtain ⟨wC, rfl⟩ : ∃ q, q = wc := ⟨_, rfl⟩
              have XC := Lib.hid (Wx.below (w' := wC.drew) hcut (bel_drew (Below.refl _ _)))
              clear hcut
              obtain ⟨-, -, -, -, -, -, b6, b7⟩ := XC.out.cells
              have sc0 := XC.out.lk.settle XC.out.bw (by omega) 8 (by omega)
              rw [show ((8 : Nat) : Int) = 8 from rfl] at sc0
              have SC := Lib.hid sc0
              clear sc0
              have XD := Lib.hid (fun (wx : World) (hk : LbK wx w0.heap.size tb bb (8 - 1) (fun i => KP i ∨ wC.drew.heap.size ≤ i ∧ i < wx.heap.size)) (hu : Upd KP wC.drew wx) => XC.out.stepK hk hu (fun i hi => hi.imp_right (fun h9 => h9.1)))
              go_upto_region 11 with fail
              go_region_held3 (fun w' => w'.cell? ⟨sb, 6, none⟩ = some (.pointer (some ⟨bb, 0, none⟩)) ∧ w'.cell? ⟨sb, 7, none⟩ = some (.pointer (some ⟨tb, 0, none⟩)))
                (first
                  | go_keep)
                (first
                  | (go_at_call 12; (with_reducible refine SC.out.mono ?_); rintro r w9 ⟨rfl, k9, u9⟩; have X9 := Lib.hid (XD.out w9 k9 u9); obtain ⟨-, -, -, -, -, -, e6, e7⟩ := X9.out.cells; clear k9 u9))
              all_goals
                go_wp2
                go_ret
                exact ⟨by first | rfl | simp, _, _, F1, G1, t, _, _, X9.out, Rest.close RP.out k, TW.out, BoundClose SP.out k⟩
      · have t1 : decide ((j : Int) < (xs.length : Int)) = false := decide_eq_false (by omega)
        have t1' : decide (j < xs.length) = false := decide_eq_false q1
        go_upto_region 9 with fail
        go_cut [] (fun wx => Wx w0 wx sb db rb tb bb (fun i => if i = kn10 k then lbP (2 + kn10 k) else if 2 ≤ i then none else lbP i) mbP F1 G1 t t KP (7 + j) (fun i => if i = kn10 k then stP (2 + kn10 k) else stP i) stP)
        case first =>
          have XL := Lib.hid (XR.out.setL' k (.pointer (some ⟨b1, 0, none⟩)) (by rw [LV.out.1]; rfl))
          obtain ⟨-, -, b2, b3, -, -, -, -⟩ := XR.out.cells
          have z2 := XR.out.froz 2
          have z3 := XR.out.froz 3
          cases k with
          | false =>
            simp only [kz10, if_false, Bool.false_eq_true]
            go_wp2
            go_meet
            case rel => exact XL.out
          | true =>
            simp only [kz10, if_true]
            go_wp2
            go_meet
            case rel => exact XL.out
        case rest =>
          obtain ⟨wB, rfl⟩ : ∃ q, q = wc := ⟨_, rfl⟩
          have XB := Lib.hid hcut
          clear hcut
          go_upto_region 10 with fail
          go_cut [] (fun wx => Wx w0 wx sb db rb tb bb (fun i => if i = kn10 k then lbP (2 + kn10 k) else if 2 ≤ i then none else lbP i) (fun i => if i = kn10 k then mbP (2 + kn10 k) else if 2 ≤ i then none else mbP i) F1 G1 t t KP (7 + j) (fun i => if i = kn10 k then stP (2 + kn10 k) else stP i) (fun i => if i = kn10 k then stP (2 + kn10 k) else stP i))
          case first =>
            have XL := Lib.hid (XB.out.setM' k (.pointer (some ⟨b2, 0, none⟩)) (by rw [LV.out.2]; rfl))
            obtain ⟨-, -, -, -, b4, b5, -, -⟩ := XB.out.cells
            have z4 := XB.out.froz 4
            have z5 := XB.out.froz 5
            cases k with
            | false =>
              simp only [kz10, if_false, Bool.false_eq_true]
              go_wp2
              go_meet
              case rel => exact XL.out
            | true =>
              simp only [kz10, if_true]
              go_wp2
              go_meet
              case rel => exact XL.out
          case rest =>
            obtain ⟨wC, rfl⟩ : ∃ q, q = wc := ⟨_, rfl⟩
            have XC := Lib.hid (Wx.below (w' := wC.drew) hcut (bel_drew (Below.refl _ _)))
            clear hcut
            obtain ⟨-, -, -, -, -, -, b6, b7⟩ := XC.out.cells
            have sc0 := XC.out.lk.settle XC.out.bw (by omega) 8 (by omega)
            rw [show ((8 : Nat) : Int) = 8 from rfl] at sc0
            have SC := Lib.hid sc0
            clear sc0
            have XD := Lib.hid (fun (wx : World) (hk : LbK wx w0.heap.size tb bb (8 - 1) (fun i => KP i ∨ wC.drew.heap.size ≤ i ∧ i < wx.heap.size)) (hu : Upd KP wC.drew wx) => XC.out.stepK hk hu (fun i hi => hi.imp_right (fun h9 => h9.1)))
            go_upto_region 11 with fail
            go_region_held3 (fun w' => w'.cell? ⟨sb, 6, none⟩ = some (.pointer (some ⟨bb, 0, none⟩)) ∧ w'.cell? ⟨sb, 7, none⟩ = some (.pointer (some ⟨tb, 0, none⟩)))
              (first
                | go_keep)
              (first
                | (go_at_call 12; (with_reducible refine SC.out.mono ?_); rintro r w9 ⟨rfl, k9, u9⟩; have X9 := Lib.hid (XD.out w9 k9 u9); obtain ⟨-, -, -, -, -, -, e6, e7⟩ := X9.out.cells; clear k9 u9))
            all_goals
              go_wp2
              go_ret
              exact ⟨by first | rfl | simp, _, _, F1, G1, t, _, _, X9.out, Rest.close RP.out k, TW.out, BoundClose SP.out k⟩
end Go.Proofs.YtnbpkignkfabkaaGreatDoor
