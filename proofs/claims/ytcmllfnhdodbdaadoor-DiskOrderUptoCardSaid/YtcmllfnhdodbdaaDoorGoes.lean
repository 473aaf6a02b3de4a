/- posternlaw9: goes, kept. -/
import Derived.Test.YtcmllfnhdodbdaaDoorTells
import Derived.Test.YtcmllfnhdodbdaaDoorLoadO
import Derived.Test.YtcmllfnhdodbdaaDoorLoad
import Derived.Laws.Concat
import Derived.BigQuiet
namespace Go.Proofs.YtcmllfnhdodbdaaDoor
set_option linter.unusedVariables false
set_option linter.unusedSimpArgs false
open Go.RowKit Go.Maps
/-- Files in rows that lie from Bd up to Be. -/
def FilZ (w : World) (Bd Be : Nat) (a : Option Addr) (C : Con) : Prop := ∃ M c, Fio w Bd (.slice a C.length c) M ∧ conF M = C ∧ (∀ k, (Value.slice a C.length c).ownBlock = some k → k < Be) ∧ ∀ f ∈ M, ∀ k, f.val.ownBlock = some k → k < Be
section
variable {w w' : World} {Bd Be : Nat} {a : Option Addr} {C : Con}
theorem FilB.z (h : FilB w Bd a C) : FilZ w Bd w.heap.size a C := by
  obtain ⟨M, c, hf, hM⟩ := h
  exact ⟨M, c, hf, hM, fun k hk => (hf.own.lt k hk).2, fun f hm k hk => ((hf.byt f hm).2.lt k hk).2⟩
theorem FilZ.b (h : FilZ w Bd Be a C) : FilB w Bd a C := by
  obtain ⟨M, c, hf, hM, _, _⟩ := h
  exact ⟨M, c, hf, hM⟩
theorem FilZ.upd {S : Nat → Prop} (h : FilZ w Bd Be a C) (hu : Upd S w w') (hs : ∀ k, S k → k < Bd ∨ Be ≤ k) : FilZ w' Bd Be a C := by
  obtain ⟨M, c, hf, hM, h1, h2⟩ := h
  refine ⟨M, c, ⟨hf.own.upd hu (fun k hk s => ?_), fun f hm => ⟨(hf.byt f hm).1, (hf.byt f hm).2.upd hu (fun k hk s => ?_)⟩, hf.sep, hf.pair⟩, hM, h1, h2⟩
  · have := h1 k hk; have := (hf.own.lt k hk).1; rcases hs k s with h | h <;> omega
  · have := h2 f hm k hk; have := ((hf.byt f hm).2.lt k hk).1; rcases hs k s with h | h <;> omega
theorem FilZ.below (h : FilZ w Bd Be a C) (hb : Below w.heap.size w w') : FilZ w' Bd Be a C := h.upd (Upd.ofBelow hb) (fun _ s => s.elim)
end
end Go.Proofs.YtcmllfnhdodbdaaDoor
