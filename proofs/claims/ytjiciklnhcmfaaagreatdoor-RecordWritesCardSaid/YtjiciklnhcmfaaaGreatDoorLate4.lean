/- posternlaw1.Late.Settle: answers go into the book. -/
import Derived.Test.YtjiciklnhcmfaaaGreatDoorLate3
namespace Go.Proofs.YtjiciklnhcmfaaaGreatDoor
set_option linter.unusedVariables false
set_option linter.unusedSimpArgs false
open Go.RowKit
/-- A Late and a Book side by side. -/
structure LB (w : World) (base : Nat) (Pr : Nat → Prop) (tb bb : Nat) (L : List Gt) (vg vw : Value) (E : List Ent) (vb vo : Value) (bat : Nat) (tn dn : Int) (us : Nat) : Prop where
  lt : Lt w base Pr tb L vg vw
  bk : Bk w base Pr bb E E bat E.length vb vo bat tn dn us
  cnt : Cnt E.length bat us
  dis : ∀ k, LtF tb vg vw L k → ¬ BkF bb vb vo E k
def LBx (w : World) (base : Nat) (Pr : Nat → Prop) (tb bb n : Nat) : Prop := ∃ L vg vw E vb vo bat tn dn us, L.length ≤ n ∧ LB w base Pr tb bb L vg vw E vb vo bat tn dn us
/-- What such a pair may write. -/
def Free (base : Nat) (Pr : Nat → Prop) (k : Nat) : Prop := base ≤ k ∧ ¬ Pr k
section
variable {w w' : World} {base : Nat} {Pr : Nat → Prop} {tb bb : Nat} {L : List Gt} {vg vw : Value} {E : List Ent} {vb vo : Value} {bat : Nat} {tn dn : Int} {us : Nat}
theorem LB.upd {S : Nat → Prop} (h : LB w base Pr tb bb L vg vw E vb vo bat tn dn us) (hu : Upd S w w') (hs : ∀ k, S k → ¬ LtF tb vg vw L k ∧ ¬ BkF bb vb vo E k) : LB w' base Pr tb bb L vg vw E vb vo bat tn dn us :=
  ⟨h.lt.upd hu (fun k s => (hs k s).1), h.bk.upd hu (fun k s => (hs k s).2), h.cnt, h.dis⟩
theorem LB.foot (h : LB w base Pr tb bb L vg vw E vb vo bat tn dn us) : ∀ k, (LtF tb vg vw L k ∨ BkF bb vb vo E k) → base ≤ k ∧ k < w.heap.size ∧ ¬ Pr k := by
  rintro k (hk | hk)
  · exact h.lt.foot k hk
  · exact h.bk.foot k hk
end
theorem LBx.upd {S : Nat → Prop} {w w' : World} {base : Nat} {Pr : Nat → Prop} {tb bb n : Nat} (h : LBx w base Pr tb bb n) (hu : Upd S w w') (hs : ∀ k, S k → k < w.heap.size → Pr k ∨ k < base) : LBx w' base Pr tb bb n := by
  obtain ⟨L, vg, vw, E, vb, vo, bat, tn, dn, us, hl, hb⟩ := h
  refine ⟨L, vg, vw, E, vb, vo, bat, tn, dn, us, hl, hb.upd hu (fun k s => ?_)⟩
  have key : ∀ q : Prop, (LtF tb vg vw L k ∨ BkF bb vb vo E k) → q := by
    intro q hq
    obtain ⟨f1, f2, f3⟩ := hb.foot k hq
    rcases hs k s f2 with hp | hp
    · exact absurd hp f3
    · omega
  exact ⟨fun hq => key False (.inl hq), fun hq => key False (.inr hq)⟩
theorem LBx.mono {w : World} {base : Nat} {Pr : Nat → Prop} {tb bb n n' : Nat} (h : LBx w base Pr tb bb n) (hn : n ≤ n') : LBx w base Pr tb bb n' := by
  obtain ⟨L, vg, vw, E, vb, vo, bat, tn, dn, us, hl, hb⟩ := h
  exact ⟨L, vg, vw, E, vb, vo, bat, tn, dn, us, Nat.le_trans hl hn, hb⟩
/-- What is protected may be less. -/
theorem LBx.weak {w : World} {base : Nat} {Pr Pr' : Nat → Prop} {tb bb n : Nat} (h : LBx w base Pr tb bb n) (hp : ∀ k, Pr' k → Pr k) : LBx w base Pr' tb bb n := by
  obtain ⟨L, vg, vw, E, vb, vo, bat, tn, dn, us, hl, hb⟩ := h
  exact ⟨L, vg, vw, E, vb, vo, bat, tn, dn, us, hl, ⟨⟨hb.lt.blk, hb.lt.tbge, hb.lt.got, hb.lt.want, hb.lt.gw, hb.lt.gok, hb.lt.wok, hb.lt.gg, fun k q => hb.lt.pr k (hp k q), hb.lt.xl⟩,
    ⟨hb.bk.blk, hb.bk.bbge, hb.bk.rows, hb.bk.ofs, hb.bk.ent, hb.bk.ee, hb.bk.uq, fun k q => hb.bk.pr k (hp k q), hb.bk.en⟩, hb.cnt, hb.dis⟩⟩
/-- New blocks may be protected. -/
theorem LBx.guard {w w' : World} {base : Nat} {Pr Pr' : Nat → Prop} {tb bb n : Nat} (h : LBx w base Pr tb bb n) (hb : Below w.heap.size w w') (hp : ∀ k, Pr' k → Pr k ∨ w.heap.size ≤ k ∧ k < w'.heap.size) : LBx w' base Pr' tb bb n := by
  obtain ⟨L, vg, vw, E, vb, vo, bat, tn, dn, us, hl, hq⟩ := h
  have hw := hq.upd (Upd.ofBelow hb) (fun _ s => s.elim)
  have hf := hq.foot
  refine ⟨L, vg, vw, E, vb, vo, bat, tn, dn, us, hl, ⟨⟨hw.lt.blk, hw.lt.tbge, hw.lt.got, hw.lt.want, hw.lt.gw, hw.lt.gok, hw.lt.wok, hw.lt.gg, ?_, hw.lt.xl⟩,
    ⟨hw.bk.blk, hw.bk.bbge, hw.bk.rows, hw.bk.ofs, hw.bk.ent, hw.bk.ee, hw.bk.uq, ?_, hw.bk.en⟩, hw.cnt, hw.dis⟩⟩
  · intro k q
    rcases hp k q with q | ⟨q1, q2⟩
    · exact hw.lt.pr k q
    · exact ⟨q2, fun e => by have := (hf k (.inl e)).2.1; omega⟩
  · intro k q
    rcases hp k q with q | ⟨q1, q2⟩
    · exact hw.bk.pr k q
    · have nf : ¬ BkF bb vb vo E k := fun e => by have := (hf k (.inr e)).2.1; omega
      exact ⟨q2, fun e => nf (.inl e), fun e => nf (.inr (.inl e)), fun e => nf (.inr (.inr (.inl e))), fun f hf e => nf (.inr (.inr (.inr ⟨f, hf, e⟩)))⟩
/-- The answers from i on still stand beside the book. -/
structure SL (w0 w : World) (base : Nat) (Pr : Nat → Prop) (tb bb : Nat) (L : List Gt) (vg vw : Value) (i : Nat) (E : List Ent) (vb vo : Value) (bat : Nat) (tn dn : Int) (us : Nat) : Prop where
  bk : Bk w base Pr bb E E bat E.length vb vo bat tn dn us
  cnt : Cnt E.length bat us
  blk : w.heap[tb]? = some (.cells #[vg, vw] 61 (0, 0))
  got : Own w base 23 1 vg L.length (L.map Gt.val)
  rest : ∀ j, i ≤ j → ∀ g, L[j]? = some g → Own w base 5 1 g.val g.x.length (bys g.x) ∧ ∀ k, g.at_ k → ¬ BkF bb vb vo E k
  ng : ∀ k, vg.ownBlock = some k → ¬ BkF bb vb vo E k
  nt : ¬ BkF bb vb vo E tb
  pr : ∀ k, Pr k → k ≠ tb ∧ vg.ownBlock ≠ some k ∧ ∀ g ∈ L, ¬ g.at_ k
  gg : ∀ (i j : Nat), i ≠ j → ∀ (g h : Gt), L[i]? = some g → L[j]? = some h → ∀ k, g.at_ k → ¬ h.at_ k
  up : Upd (Free base Pr) w0 w
section
variable {w0 w w' : World} {base : Nat} {Pr : Nat → Prop} {tb bb : Nat} {L : List Gt} {vg vw : Value} {E : List Ent} {vb vo : Value} {bat : Nat} {tn dn : Int} {us i : Nat}
theorem SL.start (h : LB w base Pr tb bb L vg vw E vb vo bat tn dn us) (hw : Upd (fun _ => False) w w') : SL w w' base Pr tb bb L vg vw 0 E vb vo bat tn dn us :=
  have h' := h.upd hw (fun _ s => s.elim)
  ⟨h'.bk, h'.cnt, h'.lt.blk, h'.lt.got, fun j _ g hg => ⟨h'.lt.gok g (List.mem_of_getElem? hg), fun k hk => h.dis k (.inr (.inr (.inr (.inl ⟨g, List.mem_of_getElem? hg, hk⟩))))⟩, fun k hk => h.dis k (.inr (.inl hk)), h.dis tb (.inl rfl),
    fun k hp => ⟨fun e => (h.lt.pr k hp).2 (.inl e), fun e => (h.lt.pr k hp).2 (.inr (.inl e)), fun g hg e => (h.lt.pr k hp).2 (.inr (.inr (.inr (.inl ⟨g, hg, e⟩))))⟩, h.lt.gg, hw.mono (fun _ s _ => s.elim)⟩
theorem SL.step (h : SL w0 w base Pr tb bb L vg vw i E vb vo bat tn dn us) {g : Gt} (hg : L[i]? = some g) (hp : BytesP w w' base Pr bb E vb vo bat dn g.val) :
    ∃ E' vb' vo' tn' us', SL w0 w' base Pr tb bb L vg vw (i + 1) E' vb' vo' bat tn' dn us' := by
  obtain ⟨E', vb', vo', tn', us', b1, b2, b3, b4, b5⟩ := hp
  have gok := (h.rest i (Nat.le_refl _) g hg).1
  have gdis := (h.rest i (Nat.le_refl _) g hg).2
  have hS : ∀ k, (k = bb ∨ vb.ownBlock = some k ∨ vo.ownBlock = some k ∨ g.val.ownBlock = some k) → BkF bb vb vo E k ∨ g.at_ k := by
    rintro k (e | e | e | e)
    · exact .inl (.inl e)
    · exact .inl (.inr (.inl e))
    · exact .inl (.inr (.inr (.inl e)))
    · exact .inr e
  have ntb : ¬ g.at_ tb := gok.not_at h.blk (by decide)
  have tlt := lt_of_block h.blk
  have nvg : ∀ k, vg.ownBlock = some k → ¬ g.at_ k := fun k a b => Own.ne_type h.got gok (by decide) k a b
  refine ⟨E', vb', vo', tn', us', ⟨b1, b2, (b5.block tb tlt (fun s => (hS tb s).elim h.nt ntb)).trans h.blk, h.got.upd b5 (fun k a s => (hS k s).elim (h.ng k a) (nvg k a)), ?_, ?_, ?_, h.pr, h.gg, ?_⟩⟩
  · intro j hj f hf
    obtain ⟨f1, f2⟩ := h.rest j (by omega) f hf
    have fg : ∀ k, f.at_ k → ¬ g.at_ k := fun k a b => h.gg j i (by omega) f g hf hg k a b
    refine ⟨f1.upd b5 (fun k a s => (hS k s).elim (f2 k a) (fg k a)), fun k a hb => ?_⟩
    rcases b3 k hb with e | e | e
    · exact f2 k a e
    · have := (f1.lt k a).2; omega
    · exact fg k a e
  · intro k a hb
    rcases b3 k hb with e | e | e
    · exact h.ng k a e
    · have := (h.got.lt k a).2; omega
    · exact nvg k a e
  · intro hb
    rcases b3 tb hb with e | e | e
    · exact h.nt e
    · omega
    · exact ntb e
  · refine h.up.trans b5 (fun _ s _ => s) (fun k s _ => ?_)
    rcases hS k s with e | e
    · obtain ⟨f1, f2, f3⟩ := h.bk.foot k e
      exact ⟨f1, f3⟩
    · exact ⟨(gok.lt k e).1, fun hp => (h.pr k hp).2.2 g (List.mem_of_getElem? hg) e⟩
end
end Go.Proofs.YtjiciklnhcmfaaaGreatDoor
