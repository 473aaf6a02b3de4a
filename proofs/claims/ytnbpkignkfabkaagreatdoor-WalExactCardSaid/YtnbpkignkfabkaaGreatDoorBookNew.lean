/- A Book and a Late as they are made. -/
import Derived.Test.YtnbpkignkfabkaaGreatDoorLateA
import Derived.Test.YtnbpkignkfabkaaGreatDoorBox
import Derived.Test.YtnbpkignkfabkaaGreatDoorZBook
namespace Go.Proofs.YtnbpkignkfabkaaGreatDoor
set_option linter.unusedVariables false
set_option linter.unusedSimpArgs false
open Go.RowKit
theorem Late_new {w' : World} {base : Nat} {Pr : Nat → Prop} {tb bb : Nat} (hp : ∀ k, Pr k → k < w'.heap.size ∧ k ≠ tb ∧ k ≠ bb) (h1 : w'.heap[tb]? = some (.cells #[.slice none 0 0, .slice none 0 0] 66 (0, 0))) (h2 : w'.heap[bb]? = some (.cells zBook 63 (0, 0))) (ht : base ≤ tb) (hb : base ≤ bb) (hne : tb ≠ bb) : LBx w' base Pr tb bb 0 := by
  refine ⟨[], _, _, [], .slice none 0 0, .slice none 0 0, 0, 0, 0, 0, Nat.le_refl _, ⟨lt_nil ht h1 (fun k q => ⟨(hp k q).1, (hp k q).2.1⟩), ⟨⟨zBook, h2, zBook_ok⟩, hb, Own.nil _ _ _ _, Own.nil _ _ _ _, (fun e he => by cases he), (fun e he => by cases he), (fun i j _ _ _ e f he => by cases he), (fun k q => ⟨(hp k q).1, (hp k q).2.2, (fun e => by cases e), (fun e => by cases e), (fun e he => by cases he)⟩), (fun i e he => by cases he)⟩, ⟨Nat.le_refl _, by simp, by decide⟩, ?_⟩⟩
  rintro k (e | e | e | ⟨g, hg, _⟩ | ⟨g, hg, _⟩) (f | f | f | ⟨g', hg', _⟩)
  · exact hne (e.symm.trans f)
  all_goals first | (cases hg; done) | (cases hg'; done) | (cases f; done) | (cases e; done)
/-- A book that is looked at once more. -/
theorem Look_LB (w : World) (base : Nat) (Pr : Nat → Prop) (tb bb n : Nat) (h : LBx w base Pr tb bb n) :
    Calls Tryz.prog 13 #[.pointer (some ⟨bb, 0, none⟩)] w fun r w' => r = .returned (.bool true) ∧ LBx w' base Pr tb bb n ∧ Upd (Free base Pr) w w' := by
  obtain ⟨L, vg, vw, E, vb, vo, bat, tn, dn, us, hl, hb⟩ := h
  refine (Look_calls w base Pr bb E vb vo bat tn dn us hb.bk hb.cnt).mono ?_
  rintro r w' ⟨rfl, E', vb', vo', bat', dn', p1, p2, p3, p4⟩
  refine ⟨rfl, ⟨L, vg, vw, E', vb', vo', bat', tn, dn', us, hl, ⟨hb.lt.upd p4 (fun k s q => hb.dis k q s), p1, p2, ?_⟩⟩, p4.mono (fun k s _ => ⟨(hb.bk.foot k s).1, (hb.bk.foot k s).2.2⟩)⟩
  intro k hk hq
  rcases p3 k hq with e | e
  · exact hb.dis k hk e
  · have := (hb.lt.foot k hk).2.1; omega
theorem Free.below {w w' : World} {base : Nat} {Pr : Nat → Prop} (h : Upd (Free base Pr) w w') (hb : base ≤ w.heap.size) : Below base w w' := h.below (fun k s _ => s.1) hb
end Go.Proofs.YtnbpkignkfabkaaGreatDoor
