/- A Late and a Book when an answer is added; bytes and the table behind such a change. -/
import Derived.Test.YtjiciklnhcmfaaaGreatDoorLate5
import Derived.Test.YtjiciklnhcmfaaaGreatDoorWorks
namespace Go.Proofs.YtjiciklnhcmfaaaGreatDoor
set_option linter.unusedVariables false
set_option linter.unusedSimpArgs false
open Go.RowKit
section
variable {w w' : World} {base : Nat} {Pr : Nat → Prop} {tb bb : Nat} {L : List Gt} {vg vw : Value} {E : List Ent} {vb vo : Value} {bat : Nat} {tn dn : Int} {us : Nat}
theorem LB.add {w2 w3 : World} (h : LB w base Pr tb bb L vg vw E vb vo bat tn dn us) (hb : Below w.heap.size w w2) {v : Value} {x : List UInt8} (ha : AddP w2 w3 base Pr tb L vg vw v x) (hv : ∀ k, v.ownBlock = some k → w.heap.size ≤ k) :
    LBx w3 base Pr tb bb (L.length + 1) ∧ Upd (Free base Pr) w w3 := by
  obtain ⟨g, vg', vw', l3, gv, gx, fg, up⟩ := ha
  have h2 := h.upd (Upd.ofBelow hb) (fun _ s => s.elim)
  have hf := h.foot
  have s2 := hb.size
  have inl : ∀ k, (k = tb ∨ vg.ownBlock = some k ∨ vw.ownBlock = some k) → LtF tb vg vw L k := by
    rintro k (e | e | e)
    · exact .inl e
    · exact .inr (.inl e)
    · exact .inr (.inr (.inl e))
  refine ⟨⟨L ++ [g], vg', vw', E, vb, vo, bat, tn, dn, us, by simp, ⟨l3, h2.bk.upd up (fun k s => h.dis k (inl k s)), h.cnt, ?_⟩⟩, ?_⟩
  · intro k hk hq
    have := (hf k (.inr hq)).2.1
    rcases fg k hk with e | e | e
    · exact h.dis k e hq
    · omega
    · have := hv k e; omega
  · refine (Upd.ofBelowB hb).trans up (fun k s hk => by omega) (fun k s hk => ?_)
    obtain ⟨f1, f2, f3⟩ := hf k (.inl (inl k s))
    exact ⟨f1, f3⟩
end
theorem Byt.free {w w' : World} {base : Nat} {Pr : Nat → Prop} {a : Option Addr} {l : List UInt8} (h : Byt w a l) (hu : Upd (Free base Pr) w w') (hp : l ≠ [] → ∀ k, a.map (·.block) = some k → Pr k ∨ k < base) : Byt w' a l :=
  h.upd hu (fun ad ha hne s => by
    subst ha
    rcases hp hne _ rfl with h | h
    · exact s.2 h
    · exact absurd (show ad.block < base from h) (Nat.not_lt.2 s.1))
theorem Tab.free {w w' : World} {base : Nat} {Pr : Nat → Prop} (h : Tab w) (hu : Upd (Free base Pr) w w') (hg : 0 < base) : Tab w' := h.upd hu (fun s => by have := s.1; omega)
end Go.Proofs.YtjiciklnhcmfaaaGreatDoor
