/- Rows of rows of bytes, read; posternref0.Copy. -/
import Derived.Test.YtjiciklnhcmfaaaGreatDoorWorks
import Derived.Deep.DeepCutAuto
import Derived.Deep.CutBlock
namespace Go.Proofs.YtjiciklnhcmfaaaGreatDoor
set_option linter.unusedVariables false
set_option linter.unusedSimpArgs false
open Go.RowKit
/-- Rows of bytes stand at a: row i begins at Af i. -/
structure Rd2 (w : World) (a : Option Addr) (xss : List (List UInt8)) (Af : Nat → Option Addr) (Cf : Nat → Nat) : Prop where
  cell : ∀ i (h : i < xss.length), ∃ b o, a = some ⟨b, o, none⟩ ∧ w.cell? ⟨b, o + i, none⟩ = some (.slice (Af i) xss[i].length (Cf i))
  byt : ∀ i (h : i < xss.length), Byt w (Af i) xss[i]
  cap : ∀ i (h : i < xss.length), xss[i].length ≤ Cf i
  short : ∀ i (h : i < xss.length), xss[i].length ≤ 140737488355328
theorem Rd2.below {w w' : World} {a : Option Addr} {xss : List (List UInt8)} {Af : Nat → Option Addr} {Cf : Nat → Nat} (h : Rd2 w a xss Af Cf) (hb : Below w.heap.size w w') : Rd2 w' a xss Af Cf := by
  refine ⟨fun i hi => ?_, fun i hi => (h.byt i hi).below hb, h.cap, h.short⟩
  obtain ⟨b, o, e, hc⟩ := h.cell i hi
  exact ⟨b, o, e, (hb.cell (p := ⟨b, o + i, none⟩) (World.block_lt_of_cell? w _ hc)).trans hc⟩
/-- Two owned rows of unlike element types lie in unlike blocks. -/
theorem Own.ne_type {w : World} {b1 b2 : Nat} {e1 e2 : TypeId} {s1 s2 : Nat} {v1 v2 : Value} {n1 n2 : Nat} {x1 x2 : List Value} (h1 : Own w b1 e1 s1 v1 n1 x1) (h2 : Own w b2 e2 s2 v2 n2 x2) (he : e1 ≠ e2) : ∀ k, v1.ownBlock = some k → v2.ownBlock ≠ some k := by
  intro k hk hk2
  rcases h1.2 with ⟨rfl, _⟩ | ⟨g, cap, cur, fr, rfl, _, hg, _⟩
  · cases hk
  · rcases h2.2 with ⟨rfl, _⟩ | ⟨g', cap', cur', fr', rfl, _, hg', _⟩
    · cases hk2
    · simp only [Value.ownBlock, Option.some.injEq] at hk hk2
      subst hk hk2
      rw [hg] at hg'
      injection hg' with hg'
      injection hg' with _ h _
      exact he h
theorem infoRow : (Tryz.prog.info? 23).map (fun i => (i.zero, i.size, i.bytes)) = some (some (.slice none 0 0), 1, 24) := by kernel_rfl

set_option maxRecDepth 100000 in
set_option maxHeartbeats 1000000 in
theorem Copy_calls (a : Option Addr) (cap : Nat) (t : List UInt8) (w : World) (ht : Byt w a t) (hs : t.length ≤ 140737488355328) :
    Calls Tryz.prog 43 #[.slice a t.length cap] w fun r w' => ∃ v', r = .returned v' ∧ Own w' w.heap.size 5 1 v' t.length (bys t) ∧ Below w.heap.size w w' := by
  have HT := Lib.hid ht; clear ht
  have M1 : Hid (0 + t.length ≤ maxLen) := by show _ ≤ _; unfold maxLen; omega
  have M2 : Hid ((0 + t.length) * 1 ≤ 140737488355328) := by show _ ≤ _; omega
  have O1 : Hid (Own w w.heap.size 5 1 (.slice none 0 0) 0 []) := Own.nil _ _ _ _
  go_enter Tryz.func43, Tryz.ntmps43
  go_wp2_with (at_builtin; refine wpList_append rfl (.tmp 4) (.tmp 5) 23 23 rfl w.heap.size 5 (.int .u8 0) 1 1 Tryz.underlying23 infoByte rfl (v := .slice none 0 0) (n := 0) (xs := []) O1.out rfl (xv := .slice a t.length cap) (m := t.length) (news := bys t) (Src_byt Tryz.underlying23 HT.out (fun _ => .inr trivial)) rfl M1.out M2.out (Nat.le_refl _) ?_)
  intro v2 w2 ho2 hg2 hn2 hv2
  have B2 : Hid (Below w.heap.size w w2) := (Below.refl _ w).grown hg2 (Nat.le_refl _) (by intro k hk; cases hk)
  have O2 := Lib.hid ho2; clear ho2 hg2 hn2 hv2
  go_wp2
  go_ret
  exact ⟨_, rfl, by simpa using O2.out, B2.out⟩
end Go.Proofs.YtjiciklnhcmfaaaGreatDoor
