/- What came in, opened: rows of Framed. -/
import Derived.Test.YtjiciklnhcmfaaaDoorOpen
import Derived.Test.YtjiciklnhcmfaaaDoorStep
namespace Go.Proofs.YtjiciklnhcmfaaaDoor
set_option linter.unusedVariables false
set_option linter.unusedSimpArgs false
open Go.ChangeShapes Go.WideShapes Go.ChangeAt Go.RowKit Go.Deep
theorem small_agg {H : Type} {t : TypeId} {fs : Array Field} {parts : List (DataW H)} (hu : Tryd.prog.underlying t = some (.struct fs)) (h : Small t (.agg parts)) {j : Nat} {u : TypeId} {d : DataW H} (ht : (fs.toList.map (·.type))[j]? = some u) (hd : parts[j]? = some d) : Small u d :=
  fun n hn => h n (by simp only [DataW.weights, hu]; exact DataW.weights_mem_each ht hd n hn)
theorem i64_of_wf {n : Int} (h : (Lit.int .i64 n).wf = true) : -9223372036854775808 ≤ n ∧ n ≤ 9223372036854775807 := by
  simp [Lit.wf, IntKind.min, IntKind.max, IntKind.signed, IntKind.bits] at h
  exact ⟨by omega, by omega⟩
theorem list4 {α : Type} : ∀ {l : List α}, l.length = 4 → ∃ a b c d, l = [a, b, c, d]
  | [a, b, c, d], _ => ⟨a, b, c, d, rfl⟩
section
variable {H : Type} {enc : TypeId × Value → H} {W : World} {held : Bool} {fuel : Nat}
theorem open_framed {v : Value} {d : DataW H} {pl : List MemPlace} (h : DataW.trod enc Tryd.prog W 0 (fun _ => true) held fuel 63 [v] = some (d, pl)) (hs : Small 63 d) :
    ∃ a n cap B Tl Ba Ta Bc Tc At By, v = .slice a n cap ∧ RdF W a n B Tl Ba Ta Bc Tc At By ∧ n ≤ cap ∧ n ≤ 140737488355328 := by
  rcases open_slice Tryd.underlying63 h with ⟨hcs, _⟩ | ⟨a, len, cap, m, n, D, Pl, hcs, _, hl, hm, hmm, hx, hel⟩
  · simp only [List.cons.injEq, and_true] at hcs
    subst hcs
    exact ⟨none, 0, 0, fun _ => [], fun _ => [], fun _ => none, fun _ => none, fun _ => 0, fun _ => 0, fun _ => 0, fun _ => 0, rfl, ⟨fun i hi => absurd hi (Nat.not_lt_zero _), fun i hi => absurd hi (Nat.not_lt_zero _), fun i hi => absurd hi (Nat.not_lt_zero _), fun i hi => absurd hi (Nat.not_lt_zero _), fun i hi => absurd hi (Nat.not_lt_zero _)⟩, Nat.le_refl _, Nat.zero_le _⟩
  · simp only [List.cons.injEq, and_true] at hcs
    subst hcs
    simp only [if_true] at hmm
    obtain rfl := hmm.symm
    simp only [Prod.mk.injEq] at hx
    obtain ⟨rfl, _⟩ := hx
    obtain ⟨hw, hse, _⟩ := small_slice Tryd.underlying63 hs
    rw [show Tryd.prog.bytesOf 65 = 64 by kernel_rfl] at hw
    simp only [List.length_map, List.length_range] at hw
    have hlen : len * 64 ≤ 140737488351232 := by
      have : reachBytes = 140737488351232 := rfl
      omega
    have key : ∀ i, i < len → ∃ q : (Option Addr × List UInt8 × Nat) × (Option Addr × List UInt8 × Nat) × Int × Int,
        (W.cell? (a.add (i * 4 + 0)) = some (.slice q.1.1 q.1.2.1.length q.1.2.2) ∧ W.cell? (a.add (i * 4 + 1)) = some (.slice q.2.1.1 q.2.1.2.1.length q.2.1.2.2) ∧ W.cell? (a.add (i * 4 + 2)) = some (.int .i64 q.2.2.1) ∧ W.cell? (a.add (i * 4 + 3)) = some (.int .i64 q.2.2.2)) ∧
        (Byt W q.1.1 q.1.2.1 ∧ q.1.2.1.length ≤ q.1.2.2 ∧ q.1.2.1.length ≤ 140737488351232) ∧ (Byt W q.2.1.1 q.2.1.2.1 ∧ q.2.1.2.1.length ≤ q.2.1.2.2 ∧ q.2.1.2.1.length ≤ 140737488351232) ∧
        (-9223372036854775808 ≤ q.2.2.1 ∧ q.2.2.1 ≤ 9223372036854775807) ∧ (-9223372036854775808 ≤ q.2.2.2 ∧ q.2.2.2 ≤ 9223372036854775807) := by
      intro i hi
      obtain ⟨cs', h1, h2⟩ := hel i (by omega)
      have hsi := hse (D i) (List.mem_map.2 ⟨i, List.mem_range.2 hi, rfl⟩)
      rw [show Tryd.prog.cellsOf 65 = 4 by kernel_rfl] at h1
      obtain ⟨_, hcl, hc⟩ := World.cells?_some h1
      obtain ⟨xs, n', _, hxx, _, hxl, hf⟩ := DataW.trod_struct Tryd.underlying65 h2
      have e1 : Tryd.prog.cellsOf 55 = 1 := by kernel_rfl
      have e2 : Tryd.prog.cellsOf 3 = 1 := by kernel_rfl
      obtain ⟨c0, c1, c2, c3, rfl⟩ := list4 hcl
      obtain ⟨y0, y1, y2, y3, rfl⟩ := list4 (show xs.length = 4 from hxl)
      have g0 : DataW.trod enc Tryd.prog W 0 (fun _ => true) held n' 55 [c0] = some y0 := by simpa [e1, e2] using hf 0 _ rfl
      have g1 : DataW.trod enc Tryd.prog W 0 (fun _ => true) held n' 55 [c1] = some y1 := by simpa [e1, e2] using hf 1 _ rfl
      have g2 : DataW.trod enc Tryd.prog W 0 (fun _ => true) held n' 3 [c2] = some y2 := by simpa [e1, e2] using hf 2 _ rfl
      have g3 : DataW.trod enc Tryd.prog W 0 (fun _ => true) held n' 3 [c3] = some y3 := by simpa [e1, e2] using hf 3 _ rfl
      simp only [Prod.mk.injEq] at hxx
      rw [hxx.1] at hsi
      have s0 : Small 55 y0.1 := small_agg Tryd.underlying65 hsi (j := 0) (by rfl) (by rfl)
      have s1 : Small 55 y1.1 := small_agg Tryd.underlying65 hsi (j := 1) (by rfl) (by rfl)
      obtain ⟨a0, x0, k0, rfl, b0, m0, l0⟩ := open_bytes (d := y0.1) (pl := y0.2) g0 s0
      obtain ⟨a1, x1, k1, rfl, b1, m1, l1⟩ := open_bytes (d := y1.1) (pl := y1.2) g1 s1
      obtain ⟨z2, q2, _, w2⟩ := DataW.trod_int Tryd.underlying3 g2
      obtain ⟨z3, q3, _, w3⟩ := DataW.trod_int Tryd.underlying3 g3
      simp only [List.cons.injEq, and_true] at q2 q3
      subst q2
      subst q3
      have j0 := hc 0 (by omega); have j1 := hc 1 (by omega); have j2 := hc 2 (by omega); have j3 := hc 3 (by omega)
      rw [add_add] at j0 j1 j2 j3
      exact ⟨((a0, x0, k0), (a1, x1, k1), z2, z3), ⟨j0, j1, j2, j3⟩, ⟨b0, m0, l0⟩, ⟨b1, m1, l1⟩, i64_of_wf w2, i64_of_wf w3⟩
    obtain ⟨q, hq⟩ := choose_lt key
    refine ⟨some a, len, _, fun i => (q i).1.2.1, fun i => (q i).2.1.2.1, fun i => (q i).1.1, fun i => (q i).2.1.1, fun i => (q i).1.2.2, fun i => (q i).2.1.2.2, fun i => (q i).2.2.1, fun i => (q i).2.2.2, rfl, ⟨?_, ?_, ?_, ?_, ?_⟩, hl, by omega⟩
    · intro i hi
      obtain ⟨⟨r0, r1, r2, r3⟩, _⟩ := hq i hi
      obtain ⟨⟨u0, _⟩, _⟩ := hq 0 (by omega)
      obtain ⟨b, o, rfl⟩ := addr_plain (by simpa using u0)
      rw [Addr.add_lit] at r0 r1 r2 r3
      exact ⟨b, o, rfl, r0, r1, r2, r3⟩
    · intro i hi
      exact ⟨(hq i hi).2.1.1, (hq i hi).2.2.1.1⟩
    · intro i hi
      exact ⟨(hq i hi).2.1.2.1, (hq i hi).2.2.1.2.1⟩
    · intro i hi
      exact ⟨(hq i hi).2.1.2.2, (hq i hi).2.2.1.2.2⟩
    · intro i hi
      exact (hq i hi).2.2.2
end
end Go.Proofs.YtjiciklnhcmfaaaDoor
