/- posternlaw1.Late: answers that nobody has written into yet. -/
import Derived.Test.YtjiciklnhcmfaaaGreatDoorBook6
namespace Go.Proofs.YtjiciklnhcmfaaaGreatDoor
set_option linter.unusedVariables false
set_option linter.unusedSimpArgs false
open Go.RowKit
/-- An answer that is kept (a, x, c), and what it must hold (wa, x, wc). -/
structure Gt where
  a : Option Addr
  c : Nat
  wa : Option Addr
  wc : Nat
  x : List UInt8
def Gt.val (g : Gt) : Value := .slice g.a g.x.length g.c
def Gt.wal (g : Gt) : Value := .slice g.wa g.x.length g.wc
def Gt.at_ (g : Gt) (k : Nat) : Prop := g.val.ownBlock = some k
def Gt.wat (g : Gt) (k : Nat) : Prop := g.wal.ownBlock = some k
/-- All blocks of a Late. -/
def LtF (tb : Nat) (vg vw : Value) (L : List Gt) (k : Nat) : Prop := k = tb ∨ vg.ownBlock = some k ∨ vw.ownBlock = some k ∨ (∃ g ∈ L, g.at_ k) ∨ ∃ g ∈ L, g.wat k
structure Lt (w : World) (base : Nat) (Pr : Nat → Prop) (tb : Nat) (L : List Gt) (vg vw : Value) : Prop where
  blk : w.heap[tb]? = some (.cells #[vg, vw] 61 (0, 0))
  tbge : base ≤ tb
  got : Own w base 23 1 vg L.length (L.map Gt.val)
  want : Own w base 23 1 vw L.length (L.map Gt.wal)
  gw : ∀ k, vg.ownBlock = some k → vw.ownBlock ≠ some k
  gok : ∀ g ∈ L, Own w base 5 1 g.val g.x.length (bys g.x)
  wok : ∀ g ∈ L, Own w base 5 1 g.wal g.x.length (bys g.x)
  gg : ∀ (i j : Nat), i ≠ j → ∀ (g h : Gt), L[i]? = some g → L[j]? = some h → ∀ k, g.at_ k → ¬ h.at_ k
  pr : ∀ k, Pr k → k < w.heap.size ∧ ¬ LtF tb vg vw L k
  xl : ∀ g ∈ L, g.x.length ≤ 1000000000000
section
variable {w w' : World} {base : Nat} {Pr : Nat → Prop} {tb : Nat} {L : List Gt} {vg vw : Value}
theorem Lt.upd {S : Nat → Prop} (h : Lt w base Pr tb L vg vw) (hu : Upd S w w') (hs : ∀ k, S k → ¬ LtF tb vg vw L k) : Lt w' base Pr tb L vg vw :=
  ⟨(hu.block tb (lt_of_block h.blk) (fun s => hs _ s (.inl rfl))).trans h.blk, h.tbge, h.got.upd hu (fun k e s => hs _ s (.inr (.inl e))), h.want.upd hu (fun k e s => hs _ s (.inr (.inr (.inl e)))), h.gw,
    fun g hg => (h.gok g hg).upd hu (fun k e s => hs _ s (.inr (.inr (.inr (.inl ⟨g, hg, e⟩))))), fun g hg => (h.wok g hg).upd hu (fun k e s => hs _ s (.inr (.inr (.inr (.inr ⟨g, hg, e⟩))))), h.gg, fun k hp => ⟨Nat.lt_of_lt_of_le (h.pr k hp).1 hu.size, (h.pr k hp).2⟩, h.xl⟩
theorem Lt.foot (h : Lt w base Pr tb L vg vw) : ∀ k, LtF tb vg vw L k → base ≤ k ∧ k < w.heap.size ∧ ¬ Pr k := by
  intro k hk
  have hp : ¬ Pr k := fun hp => (h.pr k hp).2 hk
  rcases hk with rfl | hk | hk | ⟨g, hg, hk⟩ | ⟨g, hg, hk⟩
  · exact ⟨h.tbge, lt_of_block h.blk, hp⟩
  · exact ⟨(h.got.lt k hk).1, (h.got.lt k hk).2, hp⟩
  · exact ⟨(h.want.lt k hk).1, (h.want.lt k hk).2, hp⟩
  · exact ⟨((h.gok g hg).lt k hk).1, ((h.gok g hg).lt k hk).2, hp⟩
  · exact ⟨((h.wok g hg).lt k hk).1, ((h.wok g hg).lt k hk).2, hp⟩
theorem Lt.k0 (h : Lt w base Pr tb L vg vw) : w.cell? ⟨tb, 0, none⟩ = some vg := by rw [cell_of_row' h.blk]; rfl
theorem Lt.k1 (h : Lt w base Pr tb L vg vw) : w.cell? ⟨tb, 1, none⟩ = some vw := by rw [cell_of_row' h.blk]; rfl
theorem Lt.froz (h : Lt w base Pr tb L vg vw) (j : Nat) : w.frozen? ⟨tb, j, none⟩ = false := frozen_of_row h.blk j
end
set_option maxRecDepth 100000 in
set_option maxHeartbeats 2000000 in
theorem same_calls (w : World) (base : Nat) (Pr : Nat → Prop) (tb : Nat) (L : List Gt) (vg vw : Value) (h : Lt w base Pr tb L vg vw) (hl : L.length ≤ 1000000) :
    Calls Tryz.prog 28 #[.pointer (some ⟨tb, 0, none⟩)] w fun r w' => ∃ n, r = .returned (.bool true) ∧ w' = w.drewN n := by
  have c0 := h.k0
  have c1 := h.k1
  obtain ⟨av, cv, hvb, _, _, _⟩ := h.got.shape'
  obtain ⟨ao, co, hvo, _, _, _⟩ := h.want.shape'
  subst hvb
  subst hvo
  have H := Lib.hid h; clear h
  go_enter Tryz.func28, Tryz.ntmps28
  go_wp2
  go_loopw [3] (fun vi wr => ∃ i : Nat, vi = .int .i64 i ∧ i ≤ L.length ∧ ∃ n, wr = w.drewN n) (fun vi _ => L.length - (intOf vi).toNat)
  case atStart => exact ⟨0, rfl, by omega, 0, rfl⟩
  case round =>
    obtain ⟨i, rfl, hi, q, rfl⟩ := hrel
    by_cases hlt : i < L.length
    · have t1 : decide ((i : Int) < (L.length : Int)) = true := decide_eq_true (by omega)
      have t1' : decide (i < L.length) = true := decide_eq_true hlt
      obtain ⟨e, he⟩ : ∃ e, L[i] = e := ⟨_, rfl⟩
      have hmem : e ∈ L := by rw [← he]; exact List.getElem_mem hlt
      have hG := H.out.gok e hmem
      have hW := H.out.wok e hmem
      obtain ⟨g1, d1, hv1⟩ := H.out.got.shape (by omega)
      cases hv1
      obtain ⟨g2, d2, hv2⟩ := H.out.want.shape (by omega)
      cases hv2
      have q1 : w.cell? ⟨g1, i, none⟩ = some (.slice e.a e.x.length e.c) := by
        rw [H.out.got.cellAt i (by omega)]
        simp [hlt, he, Gt.val]
      have q2 : w.cell? ⟨g2, i, none⟩ = some (.slice e.wa e.x.length e.wc) := by
        rw [H.out.want.cellAt i (by omega)]
        simp [hlt, he, Gt.wal]
      unfold Gt.val at hG
      unfold Gt.wal at hW
      have x1 : ∀ n, (convert 23 9 (.slice e.a e.x.length e.c)).run Tryz.prog (w.drewN n) = .ok (.string ⟨e.x.toArray⟩) (w.drewN n) := fun n => conv_bytes Tryz.underlying23 Tryz.underlying5 Tryz.underlying9 (hG.byt.1.drewN n)
      have x2 : ∀ n, (convert 23 9 (.slice e.wa e.x.length e.wc)).run Tryz.prog (w.drewN n) = .ok (.string ⟨e.x.toArray⟩) (w.drewN n) := fun n => conv_bytes Tryz.underlying23 Tryz.underlying5 Tryz.underlying9 (hW.byt.1.drewN n)
      have i1 : (i : Int) < (L.length : Int) := by omega
      clear hG hW he hmem
      generalize e.a = ea at *
      generalize e.wa = ew at *
      generalize e.c = ec at *
      generalize e.wc = ed at *
      generalize e.x = x at *
      go_wp2_with fail
      go_quiet (fail)
      go_wp2
      go_roundw
      case rel => exact ⟨i + 1, by go_num, by omega, _, rfl⟩
      case measure => simp [intOf]; omega
    · have t1 : decide ((i : Int) < (L.length : Int)) = false := decide_eq_false (by omega)
      have t1' : decide (i < L.length) = false := decide_eq_false hlt
      go_wp2
      go_ret
      exact ⟨_, rfl, rfl⟩
end Go.Proofs.YtjiciklnhcmfaaaGreatDoor
