/- A Book and a Late as they are made. -/
import Derived.Test.YtjiciklnhcmfaaaGreatDoorLateA
import Derived.Test.YtjiciklnhcmfaaaGreatDoorBox
import Derived.Laws.Tables
namespace Go.Proofs.YtjiciklnhcmfaaaGreatDoor
set_option linter.unusedVariables false
set_option linter.unusedSimpArgs false
open Go.RowKit
def zBook : Array Value := #[.slice none 0 0, .slice none 0 0, .int .i64 0, .slice none 0 0, .slice none 0 0, .int .i64 0, .slice none 0 0, .slice none 0 0, .int .i64 0, .slice none 0 0, .slice none 0 0, .int .i64 0, .slice none 0 0, .slice none 0 0, .int .i64 0, .slice none 0 0, .slice none 0 0, .int .i64 0, .slice none 0 0, .slice none 0 0, .int .i64 0, .slice none 0 0, .slice none 0 0, .int .i64 0, .slice none 0 0, .slice none 0 0, .int .i64 0, .slice none 0 0, .slice none 0 0, .int .i64 0, .slice none 0 0, .slice none 0 0, .int .i64 0, .slice none 0 0, .slice none 0 0, .int .i64 0, .slice none 0 0, .slice none 0 0, .int .i64 0, .slice none 0 0, .slice none 0 0, .int .i64 0, .slice none 0 0, .slice none 0 0, .int .i64 0, .slice none 0 0, .slice none 0 0, .int .i64 0, .slice none 0 0, .slice none 0 0, .int .i64 0, .slice none 0 0, .slice none 0 0, .int .i64 0, .slice none 0 0, .slice none 0 0, .int .i64 0, .slice none 0 0, .slice none 0 0, .int .i64 0, .slice none 0 0, .slice none 0 0, .int .i64 0, .slice none 0 0, .slice none 0 0, .int .i64 0, .slice none 0 0, .slice none 0 0, .int .i64 0, .slice none 0 0, .slice none 0 0, .int .i64 0, .int .i64 0, .int .i64 0, .int .i64 0]
theorem zBook_built : Tryz.prog.built 58 [] = some zBook := by kernel_rfl
theorem zBook_ok : BkC zBook (.slice none 0 0) (.slice none 0 0) 0 0 0 0 := by
  refine ⟨rfl, rfl, rfl, rfl, ?_, rfl, rfl, rfl⟩
  intro k h1 h2
  match k, h1, h2 with
  | 3, _, _ => rfl
  | 4, _, _ => rfl
  | 5, _, _ => rfl
  | 6, _, _ => rfl
  | 7, _, _ => rfl
  | 8, _, _ => rfl
  | 9, _, _ => rfl
  | 10, _, _ => rfl
  | 11, _, _ => rfl
  | 12, _, _ => rfl
  | 13, _, _ => rfl
  | 14, _, _ => rfl
  | 15, _, _ => rfl
  | 16, _, _ => rfl
  | 17, _, _ => rfl
  | 18, _, _ => rfl
  | 19, _, _ => rfl
  | 20, _, _ => rfl
  | 21, _, _ => rfl
  | 22, _, _ => rfl
  | 23, _, _ => rfl
  | 24, _, _ => rfl
  | 25, _, _ => rfl
  | 26, _, _ => rfl
  | 27, _, _ => rfl
  | 28, _, _ => rfl
  | 29, _, _ => rfl
  | 30, _, _ => rfl
  | 31, _, _ => rfl
  | 32, _, _ => rfl
  | 33, _, _ => rfl
  | 34, _, _ => rfl
  | 35, _, _ => rfl
  | 36, _, _ => rfl
  | 37, _, _ => rfl
  | 38, _, _ => rfl
  | 39, _, _ => rfl
  | 40, _, _ => rfl
  | 41, _, _ => rfl
  | 42, _, _ => rfl
  | 43, _, _ => rfl
  | 44, _, _ => rfl
  | 45, _, _ => rfl
  | 46, _, _ => rfl
  | 47, _, _ => rfl
  | 48, _, _ => rfl
  | 49, _, _ => rfl
  | 50, _, _ => rfl
  | 51, _, _ => rfl
  | 52, _, _ => rfl
  | 53, _, _ => rfl
  | 54, _, _ => rfl
  | 55, _, _ => rfl
  | 56, _, _ => rfl
  | 57, _, _ => rfl
  | 58, _, _ => rfl
  | 59, _, _ => rfl
  | 60, _, _ => rfl
  | 61, _, _ => rfl
  | 62, _, _ => rfl
  | 63, _, _ => rfl
  | 64, _, _ => rfl
  | 65, _, _ => rfl
  | 66, _, _ => rfl
  | 67, _, _ => rfl
  | 68, _, _ => rfl
  | 69, _, _ => rfl
  | 70, _, _ => rfl
  | 71, _, _ => rfl
  | k + 72, _, h => exact absurd h (by omega)
theorem Late_new {w' : World} {base : Nat} {Pr : Nat → Prop} {tb bb : Nat} (hp : ∀ k, Pr k → k < w'.heap.size ∧ k ≠ tb ∧ k ≠ bb) (h1 : w'.heap[tb]? = some (.cells #[.slice none 0 0, .slice none 0 0] 61 (0, 0))) (h2 : w'.heap[bb]? = some (.cells zBook 58 (0, 0))) (ht : base ≤ tb) (hb : base ≤ bb) (hne : tb ≠ bb) : LBx w' base Pr tb bb 0 := by
  refine ⟨[], _, _, [], .slice none 0 0, .slice none 0 0, 0, 0, 0, 0, Nat.le_refl _, ⟨lt_nil ht h1 (fun k q => ⟨(hp k q).1, (hp k q).2.1⟩), ⟨⟨zBook, h2, zBook_ok⟩, hb, Own.nil _ _ _ _, Own.nil _ _ _ _, (fun e he => by cases he), (fun e he => by cases he), (fun i j _ _ _ e f he => by cases he), (fun k q => ⟨(hp k q).1, (hp k q).2.2, (fun e => by cases e), (fun e => by cases e), (fun e he => by cases he)⟩), (fun i e he => by cases he)⟩, ⟨Nat.le_refl _, by simp, by decide⟩, ?_⟩⟩
  rintro k (e | e | e | ⟨g, hg, _⟩ | ⟨g, hg, _⟩) (f | f | f | ⟨g', hg', _⟩)
  · exact hne (e.symm.trans f)
  all_goals first | (cases hg; done) | (cases hg'; done) | (cases f; done) | (cases e; done)
/-- A book that is looked at once more. -/
theorem Look_LB (w : World) (base : Nat) (Pr : Nat → Prop) (tb bb n : Nat) (h : LBx w base Pr tb bb n) :
    Calls Tryz.prog 7 #[.pointer (some ⟨bb, 0, none⟩)] w fun r w' => r = .returned (.bool true) ∧ LBx w' base Pr tb bb n ∧ Upd (Free base Pr) w w' := by
  obtain ⟨L, vg, vw, E, vb, vo, bat, tn, dn, us, hl, hb⟩ := h
  refine (Look_calls w base Pr bb E vb vo bat tn dn us hb.bk hb.cnt).mono ?_
  rintro r w' ⟨rfl, E', vb', vo', bat', dn', p1, p2, p3, p4⟩
  refine ⟨rfl, ⟨L, vg, vw, E', vb', vo', bat', tn, dn', us, hl, ⟨hb.lt.upd p4 (fun k s q => hb.dis k q s), p1, p2, ?_⟩⟩, p4.mono (fun k s _ => ⟨(hb.bk.foot k s).1, (hb.bk.foot k s).2.2⟩)⟩
  intro k hk hq
  rcases p3 k hq with e | e
  · exact hb.dis k hk e
  · have := (hb.lt.foot k hk).2.1; omega
theorem Free.below {w w' : World} {base : Nat} {Pr : Nat → Prop} (h : Upd (Free base Pr) w w') (hb : base ≤ w.heap.size) : Below base w w' := h.below (fun k s _ => s.1) hb
end Go.Proofs.YtjiciklnhcmfaaaGreatDoor
