/- What came in, opened: rows of Sums. -/
import Derived.Test.YtjiciklnhcmfaaaDoorOpen3
import Derived.Test.YtjiciklnhcmfaaaDoorSmx
import Derived.OpenShut
namespace Go.Proofs.YtjiciklnhcmfaaaDoor
set_option linter.unusedVariables false
set_option linter.unusedSimpArgs false
open Go.ChangeShapes Go.WideShapes Go.ChangeAt Go.RowKit Go.Deep
theorem list5 {α : Type} : ∀ {l : List α}, l.length = 5 → ∃ a b c d e, l = [a, b, c, d, e]
  | [a, b, c, d, e], _ => ⟨a, b, c, d, e, rfl⟩
theorem list8 {α : Type} : ∀ {l : List α}, l.length = 8 → ∃ a b c d e f g h, l = [a, b, c, d, e, f, g, h]
  | [a, b, c, d, e, f, g, h], _ => ⟨a, b, c, d, e, f, g, h, rfl⟩
section
variable {H : Type} {enc : TypeId × Value → H} {W : World} {held : Bool} {fuel : Nat}
/-- A byte, opened. -/
theorem open_byte {c : Value} {y : DataW H × List MemPlace} (h : DataW.trod enc Tryd.prog W 0 (fun _ => true) held fuel 5 [c] = some y) : ∃ z : UInt8, c = .int .u8 (z.toNat : Int) := by
  obtain ⟨z, q, _, w⟩ := DataW.trod_int Tryd.underlying5 h
  simp only [List.cons.injEq, and_true] at q
  subst q
  exact ⟨_, by rw [← byte_of_wf w]⟩
theorem open_sums {v : Value} {d : DataW H} {pl : List MemPlace} (h : DataW.trod enc Tryd.prog W 0 (fun _ => true) held fuel 74 [v] = some (d, pl)) (hs : Small 74 d) :
    ∃ a n cap A3 B3 C3 Aa Ba Ca Ac Bc Cc At By, v = .slice a n cap ∧ RdS W a n A3 B3 C3 Aa Ba Ca Ac Bc Cc At By ∧ n ≤ cap ∧ n ≤ 140737488355328 := by
  rcases open_slice Tryd.underlying74 h with ⟨hcs, _⟩ | ⟨a, len, cap, m, n, D, Pl, hcs, _, hl, hm, hmm, hx, hel⟩
  · simp only [List.cons.injEq, and_true] at hcs
    subst hcs
    exact ⟨none, 0, 0, fun _ => [], fun _ => [], fun _ => [], fun _ => none, fun _ => none, fun _ => none, fun _ => 0, fun _ => 0, fun _ => 0, fun _ => 0, fun _ _ => 0, rfl, ⟨fun i hi => absurd hi (Nat.not_lt_zero _), fun i hi => absurd hi (Nat.not_lt_zero _), fun i hi => absurd hi (Nat.not_lt_zero _), fun i hi => absurd hi (Nat.not_lt_zero _), fun i hi => absurd hi (Nat.not_lt_zero _)⟩, Nat.le_refl _, Nat.zero_le _⟩
  · simp only [List.cons.injEq, and_true] at hcs
    subst hcs
    simp only [if_true] at hmm
    obtain rfl := hmm.symm
    simp only [Prod.mk.injEq] at hx
    obtain ⟨rfl, _⟩ := hx
    obtain ⟨hw, hse, _⟩ := small_slice Tryd.underlying74 hs
    rw [show Tryd.prog.bytesOf 77 = 88 by kernel_rfl] at hw
    simp only [List.length_map, List.length_range] at hw
    have hlen : len * 88 ≤ 140737488351232 := by
      have : reachBytes = 140737488351232 := rfl
      omega
    have key : ∀ i, i < len → ∃ q : (Option Addr × List UInt8 × Nat) × (Option Addr × List UInt8 × Nat) × (Option Addr × List UInt8 × Nat) × Int × (Nat → UInt8),
        (W.cell? (a.add (i * 8 + 0)) = some (.slice q.1.1 q.1.2.1.length q.1.2.2) ∧ W.cell? (a.add (i * 8 + 1)) = some (.slice q.2.1.1 q.2.1.2.1.length q.2.1.2.2) ∧ W.cell? (a.add (i * 8 + 2)) = some (.slice q.2.2.1.1 q.2.2.1.2.1.length q.2.2.1.2.2) ∧ W.cell? (a.add (i * 8 + 3)) = some (.int .i64 q.2.2.2.1) ∧
         W.cell? (a.add (i * 8 + 4)) = some (.int .u8 ((q.2.2.2.2 0).toNat : Int)) ∧ W.cell? (a.add (i * 8 + 5)) = some (.int .u8 ((q.2.2.2.2 1).toNat : Int)) ∧ W.cell? (a.add (i * 8 + 6)) = some (.int .u8 ((q.2.2.2.2 2).toNat : Int)) ∧ W.cell? (a.add (i * 8 + 7)) = some (.int .u8 ((q.2.2.2.2 3).toNat : Int))) ∧
        (Byt W q.1.1 q.1.2.1 ∧ q.1.2.1.length ≤ q.1.2.2 ∧ q.1.2.1.length ≤ 140737488351232) ∧ (Byt W q.2.1.1 q.2.1.2.1 ∧ q.2.1.2.1.length ≤ q.2.1.2.2 ∧ q.2.1.2.1.length ≤ 140737488351232) ∧ (Byt W q.2.2.1.1 q.2.2.1.2.1 ∧ q.2.2.1.2.1.length ≤ q.2.2.1.2.2 ∧ q.2.2.1.2.1.length ≤ 140737488351232) ∧
        (-9223372036854775808 ≤ q.2.2.2.1 ∧ q.2.2.2.1 ≤ 9223372036854775807) := by
      intro i hi
      obtain ⟨cs', h1, h2⟩ := hel i (by omega)
      have hsi := hse (D i) (List.mem_map.2 ⟨i, List.mem_range.2 hi, rfl⟩)
      rw [show Tryd.prog.cellsOf 77 = 8 by kernel_rfl] at h1
      obtain ⟨_, hcl, hc⟩ := World.cells?_some h1
      obtain ⟨xs, n', _, hxx, _, hxl, hf⟩ := DataW.trod_struct Tryd.underlying77 h2
      have e1 : Tryd.prog.cellsOf 55 = 1 := by kernel_rfl
      have e2 : Tryd.prog.cellsOf 3 = 1 := by kernel_rfl
      have e3 : Tryd.prog.cellsOf 75 = 4 := by kernel_rfl
      have e4 : Tryd.prog.cellsOf 5 = 1 := by kernel_rfl
      obtain ⟨c0, c1, c2, c3, c4, c5, c6, c7, rfl⟩ := list8 hcl
      obtain ⟨y0, y1, y2, y3, y4, rfl⟩ := list5 (show xs.length = 5 from hxl)
      have g0 : DataW.trod enc Tryd.prog W 0 (fun _ => true) held n' 55 [c0] = some y0 := by simpa [e1, e2, e3] using hf 0 _ rfl
      have g1 : DataW.trod enc Tryd.prog W 0 (fun _ => true) held n' 55 [c1] = some y1 := by simpa [e1, e2, e3] using hf 1 _ rfl
      have g2 : DataW.trod enc Tryd.prog W 0 (fun _ => true) held n' 55 [c2] = some y2 := by simpa [e1, e2, e3] using hf 2 _ rfl
      have g3 : DataW.trod enc Tryd.prog W 0 (fun _ => true) held n' 3 [c3] = some y3 := by simpa [e1, e2, e3] using hf 3 _ rfl
      have g4 : DataW.trod enc Tryd.prog W 0 (fun _ => true) held n' 75 [c4, c5, c6, c7] = some y4 := by simpa [e1, e2, e3] using hf 4 _ rfl
      simp only [Prod.mk.injEq] at hxx
      rw [hxx.1] at hsi
      have s0 : Small 55 y0.1 := small_agg Tryd.underlying77 hsi (j := 0) (by rfl) (by rfl)
      have s1 : Small 55 y1.1 := small_agg Tryd.underlying77 hsi (j := 1) (by rfl) (by rfl)
      have s2 : Small 55 y2.1 := small_agg Tryd.underlying77 hsi (j := 2) (by rfl) (by rfl)
      obtain ⟨a0, x0, k0, rfl, b0, m0, l0⟩ := open_bytes (d := y0.1) (pl := y0.2) g0 s0
      obtain ⟨a1, x1, k1, rfl, b1, m1, l1⟩ := open_bytes (d := y1.1) (pl := y1.2) g1 s1
      obtain ⟨a2, x2, k2, rfl, b2, m2, l2⟩ := open_bytes (d := y2.1) (pl := y2.2) g2 s2
      obtain ⟨z3, q3, _, w3⟩ := DataW.trod_int Tryd.underlying3 g3
      simp only [List.cons.injEq, and_true] at q3
      subst q3
      obtain ⟨ys, n'', _, _, _, hyl, hy⟩ := DataW.trod_array Tryd.underlying75 g4
      obtain ⟨v0, v1, v2, v3, rfl⟩ := list4 hyl
      have p0 : DataW.trod enc Tryd.prog W 0 (fun _ => true) held n'' 5 [c4] = some v0 := by simpa [e4] using hy 0 (by omega)
      have p1 : DataW.trod enc Tryd.prog W 0 (fun _ => true) held n'' 5 [c5] = some v1 := by simpa [e4] using hy 1 (by omega)
      have p2 : DataW.trod enc Tryd.prog W 0 (fun _ => true) held n'' 5 [c6] = some v2 := by simpa [e4] using hy 2 (by omega)
      have p3 : DataW.trod enc Tryd.prog W 0 (fun _ => true) held n'' 5 [c7] = some v3 := by simpa [e4] using hy 3 (by omega)
      obtain ⟨u0, rfl⟩ := open_byte p0
      obtain ⟨u1, rfl⟩ := open_byte p1
      obtain ⟨u2, rfl⟩ := open_byte p2
      obtain ⟨u3, rfl⟩ := open_byte p3
      have j0 := hc 0 (by omega); have j1 := hc 1 (by omega); have j2 := hc 2 (by omega); have j3 := hc 3 (by omega); have j4 := hc 4 (by omega); have j5 := hc 5 (by omega); have j6 := hc 6 (by omega); have j7 := hc 7 (by omega)
      rw [add_add] at j0 j1 j2 j3 j4 j5 j6 j7
      exact ⟨((a0, x0, k0), (a1, x1, k1), (a2, x2, k2), z3, fun i => [u0, u1, u2, u3].getD i 0), ⟨j0, j1, j2, j3, j4, j5, j6, j7⟩, ⟨b0, m0, l0⟩, ⟨b1, m1, l1⟩, ⟨b2, m2, l2⟩, i64_of_wf w3⟩
    obtain ⟨q, hq⟩ := choose_lt key
    refine ⟨some a, len, _, fun i => (q i).1.2.1, fun i => (q i).2.1.2.1, fun i => (q i).2.2.1.2.1, fun i => (q i).1.1, fun i => (q i).2.1.1, fun i => (q i).2.2.1.1, fun i => (q i).1.2.2, fun i => (q i).2.1.2.2, fun i => (q i).2.2.1.2.2, fun i => (q i).2.2.2.1, fun i => (q i).2.2.2.2, rfl, ⟨?_, ?_, ?_, ?_, ?_⟩, hl, by omega⟩
    · intro i hi
      obtain ⟨⟨r0, r1, r2, r3, r4, r5, r6, r7⟩, _⟩ := hq i hi
      obtain ⟨⟨u0, _⟩, _⟩ := hq 0 (by omega)
      obtain ⟨b, o, rfl⟩ := addr_plain (by simpa using u0)
      rw [Addr.add_lit] at r0 r1 r2 r3 r4 r5 r6 r7
      exact ⟨b, o, rfl, r0, r1, r2, r3, r4, r5, r6, r7⟩
    · intro i hi
      exact ⟨(hq i hi).2.1.1, (hq i hi).2.2.1.1, (hq i hi).2.2.2.1.1⟩
    · intro i hi
      exact ⟨(hq i hi).2.1.2.1, (hq i hi).2.2.1.2.1, (hq i hi).2.2.2.1.2.1⟩
    · intro i hi
      exact ⟨(hq i hi).2.1.2.2, (hq i hi).2.2.1.2.2, (hq i hi).2.2.2.1.2.2⟩
    · intro i hi
      exact (hq i hi).2.2.2.2
end
end Go.Proofs.YtjiciklnhcmfaaaDoor
