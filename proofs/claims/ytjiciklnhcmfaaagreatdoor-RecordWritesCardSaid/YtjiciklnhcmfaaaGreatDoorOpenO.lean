/- What came in, opened: rows of Op. -/
import Derived.Test.YtjiciklnhcmfaaaGreatDoorOpenB
import Derived.Test.YtjiciklnhcmfaaaGreatDoorOps2
namespace Go.Proofs.YtjiciklnhcmfaaaGreatDoor
set_option linter.unusedVariables false
set_option linter.unusedSimpArgs false
open Go.ChangeShapes Go.WideShapes Go.ChangeAt Go.RowKit Go.Deep
theorem list23 {α : Type} : ∀ {l : List α}, l.length = 23 → ∃ a b c d e f g r, l = a :: b :: c :: d :: e :: f :: g :: r ∧ r.length = 16
  | a :: b :: c :: d :: e :: f :: g :: r, h => ⟨a, b, c, d, e, f, g, r, rfl, by simpa using h⟩
theorem u64_of_wf {n : Int} (h : (Lit.int .u64 n).wf = true) : n = (n.toNat : Int) ∧ n.toNat ≤ 18446744073709551615 := by
  simp [Lit.wf, IntKind.min, IntKind.max, IntKind.signed, IntKind.bits] at h
  exact ⟨by omega, by omega⟩
instance : Inhabited OpD := ⟨⟨0, 0, 0, 0, 0, false, none, 0, [], []⟩⟩
section
variable {H : Type} {enc : TypeId × Value → H} {W : World} {held : Bool} {fuel : Nat}
/-- Sixteen bytes, opened. -/
theorem open_id {cs : List Value} {y : DataW H × List MemPlace} (h : DataW.trod enc Tryz.prog W 0 (fun _ => true) held fuel 64 cs = some y) (hl : cs.length = 16) : ∃ d : List UInt8, d.length = 16 ∧ cs = bys d := by
  obtain ⟨xs, m, _, _, _, hx, hf⟩ := DataW.trod_array Tryz.underlying64 h
  have e1 : Tryz.prog.cellsOf 5 = 1 := by kernel_rfl
  have key : ∀ i, i < 16 → ∃ z : UInt8, cs[i]? = some (.int .u8 (z.toNat : Int)) := by
    intro i hi
    have g := hf i hi
    rw [e1, Nat.mul_one] at g
    have hi' : i < cs.length := by omega
    rw [List.drop_eq_getElem_cons hi', List.take_succ_cons, List.take_zero, List.getElem?_eq_getElem (by omega)] at g
    obtain ⟨z, hz⟩ := open_byte g
    exact ⟨z, by rw [List.getElem?_eq_getElem hi', hz]⟩
  obtain ⟨q, hq⟩ := choose_lt key
  refine ⟨(List.range 16).map q, by simp, ?_⟩
  apply List.ext_getElem?
  intro i
  by_cases hi : i < 16
  · rw [hq i hi, bys_get (by simpa using hi)]
    simp
  · rw [List.getElem?_eq_none (by omega), List.getElem?_eq_none (by rw [bys_length]; simp; omega)]
/-- An Op, opened. -/
theorem open_op {cs : List Value} {y : DataW H × List MemPlace} (h : DataW.trod enc Tryz.prog W 0 (fun _ => true) held fuel 66 cs = some y) (hcl : cs.length = 23) (hsi : Small 66 y.1) : ∃ o : OpD, cs = (opv o).toList ∧ OpOk o ∧ Byt W o.ba o.b ∧ (-9223372036854775808 ≤ o.i ∧ o.i ≤ 9223372036854775807) := by
  obtain ⟨xs, n', _, hxx, _, hxl, hf⟩ := DataW.trod_struct Tryz.underlying66 h
  have e1 : Tryz.prog.cellsOf 23 = 1 := by kernel_rfl
  have e2 : Tryz.prog.cellsOf 3 = 1 := by kernel_rfl
  have e3 : Tryz.prog.cellsOf 62 = 1 := by kernel_rfl
  have e4 : Tryz.prog.cellsOf 2 = 1 := by kernel_rfl
  have e5 : Tryz.prog.cellsOf 4 = 1 := by kernel_rfl
  have e6 : Tryz.prog.cellsOf 64 = 16 := by kernel_rfl
  obtain ⟨c0, c1, c2, c3, c4, c5, c6, cd, rfl, hcd⟩ := list23 hcl
  obtain ⟨y0, y1, y2, y3, y4, y5, y6, y7, rfl⟩ := list8 (show xs.length = 8 from hxl)
  have g0 : DataW.trod enc Tryz.prog W 0 (fun _ => true) held n' 3 [c0] = some y0 := by simpa [e2] using hf 0 _ rfl
  have g1 : DataW.trod enc Tryz.prog W 0 (fun _ => true) held n' 3 [c1] = some y1 := by simpa [e2] using hf 1 _ rfl
  have g2 : DataW.trod enc Tryz.prog W 0 (fun _ => true) held n' 62 [c2] = some y2 := by simpa [e3] using hf 2 _ rfl
  have g3 : DataW.trod enc Tryz.prog W 0 (fun _ => true) held n' 3 [c3] = some y3 := by simpa [e2] using hf 3 _ rfl
  have g4 : DataW.trod enc Tryz.prog W 0 (fun _ => true) held n' 2 [c4] = some y4 := by simpa [e4] using hf 4 _ rfl
  have g5 : DataW.trod enc Tryz.prog W 0 (fun _ => true) held n' 4 [c5] = some y5 := by simpa [e5] using hf 5 _ rfl
  have g6 : DataW.trod enc Tryz.prog W 0 (fun _ => true) held n' 23 [c6] = some y6 := by simpa [e1] using hf 6 _ rfl
  have g7 : DataW.trod enc Tryz.prog W 0 (fun _ => true) held n' 64 cd = some y7 := by simpa [e6, List.take_of_length_le (Nat.le_of_eq hcd)] using hf 7 _ rfl
  rw [hxx] at hsi
  have s6 : Small 23 y6.1 := small_agg Tryz.underlying66 hsi (j := 6) (by rfl) (by rfl)
  obtain ⟨a6, x6, k6, rfl, b6, m6, l6⟩ := open_bytes (d := y6.1) (pl := y6.2) g6 s6
  obtain ⟨z0, q0, _, w0⟩ := DataW.trod_int Tryz.underlying3 g0
  obtain ⟨z1, q1, _, w1⟩ := DataW.trod_int Tryz.underlying3 g1
  obtain ⟨z2, q2, _, w2⟩ := DataW.trod_int Tryz.underlying62 g2
  obtain ⟨z3, q3, _, w3⟩ := DataW.trod_int Tryz.underlying3 g3
  obtain ⟨z4, q4, _, w4⟩ := DataW.trod_int Tryz.underlying2 g4
  obtain ⟨z5, q5, _⟩ := DataW.trod_bool Tryz.underlying4 g5
  obtain ⟨d, hd, rfl⟩ := open_id g7 hcd
  simp only [List.cons.injEq, and_true] at q0 q1 q2 q3 q4 q5
  subst q0 q1 q2 q3 q4 q5
  obtain ⟨u1, u2⟩ := u64_of_wf w2
  refine ⟨⟨z0, z1, z2.toNat, z3, z4, z5, a6, k6, x6, d⟩, ?_, ⟨hd, u2, i64_of_wf w3, l6, m6⟩, b6, i64_of_wf w4⟩
  unfold opv idv
  rw [← u1]
  simp
theorem open_ops {v : Value} {d : DataW H} {pl : List MemPlace} (h : DataW.trod enc Tryz.prog W 0 (fun _ => true) held fuel 22 [v] = some (d, pl)) (hs : Small 22 d) :
    ∃ a L cap, v = .slice a L.length cap ∧ RdO W a L ∧ L.length ≤ cap ∧ L.length ≤ 140737488351232 ∧ ∀ o ∈ L, (-9223372036854775808 ≤ o.i ∧ o.i ≤ 9223372036854775807) := by
  rcases open_slice Tryz.underlying22 h with ⟨hcs, _⟩ | ⟨a, len, cap, m, n, D, Pl, hcs, _, hl, hm, hmm, hx, hel⟩
  · simp only [List.cons.injEq, and_true] at hcs
    subst hcs
    exact ⟨none, [], 0, rfl, ⟨(fun i o hi => by simp at hi), (fun o h => by cases h), (fun o h => by cases h)⟩, Nat.le_refl _, Nat.zero_le _, (fun o h => by cases h)⟩
  · simp only [List.cons.injEq, and_true] at hcs
    subst hcs
    simp only [if_true] at hmm
    obtain rfl := hmm.symm
    simp only [Prod.mk.injEq] at hx
    obtain ⟨rfl, _⟩ := hx
    obtain ⟨hw, hse, _⟩ := small_slice Tryz.underlying22 hs
    rw [show Tryz.prog.bytesOf 66 = 88 by kernel_rfl] at hw
    simp only [List.length_map, List.length_range] at hw
    have hlen : len * 88 ≤ 140737488351232 := by
      have : reachBytes = 140737488351232 := rfl
      omega
    have key : ∀ i, i < len → ∃ o : OpD, (∀ j u, (opv o).toList[j]? = some u → W.cell? (a.add (i * 23 + j)) = some u) ∧ OpOk o ∧ Byt W o.ba o.b ∧ (-9223372036854775808 ≤ o.i ∧ o.i ≤ 9223372036854775807) := by
      intro i hi
      obtain ⟨cs', h1, h2⟩ := hel i (by omega)
      have hsi := hse (D i) (List.mem_map.2 ⟨i, List.mem_range.2 hi, rfl⟩)
      rw [show Tryz.prog.cellsOf 66 = 23 by kernel_rfl] at h1
      obtain ⟨_, hcl, hc⟩ := World.cells?_some h1
      obtain ⟨o, rfl, ho, hb⟩ := open_op h2 hcl hsi
      refine ⟨o, fun j u hj => ?_, ho, hb⟩
      have hj' : j < 23 := by rw [← hcl]; exact (List.getElem?_eq_some_iff.1 hj).1
      have h := hc j hj'
      rw [add_add] at h
      rw [h, hj]
    obtain ⟨q, hq⟩ := choose_lt key
    have hl2 : ((List.range len).map q).length = len := by simp
    have hg : ∀ i o, ((List.range len).map q)[i]? = some o → i < len ∧ o = q i := by
      intro i o h
      have hi : i < len := by rw [← hl2]; exact (List.getElem?_eq_some_iff.1 h).1
      refine ⟨hi, ?_⟩
      rw [List.getElem?_map, List.getElem?_range hi] at h
      exact (Option.some.inj h).symm
    have hmem : ∀ o ∈ (List.range len).map q, ∃ i, i < len ∧ o = q i := by
      intro o ho
      obtain ⟨i, hi, rfl⟩ := List.mem_map.1 ho
      exact ⟨i, List.mem_range.1 hi, rfl⟩
    refine ⟨some a, (List.range len).map q, _, by rw [hl2], ⟨?_, ?_, ?_⟩, by rw [hl2]; exact hl, by rw [hl2]; omega, ?_⟩
    · intro i o hio
      obtain ⟨hi, rfl⟩ := hg i o hio
      have c0 := (hq i hi).1 0 _ (show (opv (q i)).toList[0]? = some (.int .i64 (q i).doo) from by rw [Array.getElem?_toList, opv_lo _ 0 (by decide)]; rfl)
      obtain ⟨b, off, rfl⟩ : ∃ b o, a = ⟨b, o, none⟩ := by
        have h0 := (hq 0 (by omega)).1 0 _ (show (opv (q 0)).toList[0]? = some (.int .i64 (q 0).doo) from by rw [Array.getElem?_toList, opv_lo _ 0 (by decide)]; rfl)
        exact addr_plain (by simpa using h0)
      refine ⟨b, off, rfl, fun j u hj => ?_⟩
      have := (hq i hi).1 j u hj
      rw [Addr.add_lit] at this
      rw [show off + i * 23 + j = off + (i * 23 + j) by omega]
      exact this
    · intro o ho
      obtain ⟨i, hi, rfl⟩ := hmem o ho
      exact (hq i hi).2.1
    · intro o ho
      obtain ⟨i, hi, rfl⟩ := hmem o ho
      exact (hq i hi).2.2.1
    · intro o ho
      obtain ⟨i, hi, rfl⟩ := hmem o ho
      exact (hq i hi).2.2.2
end
end Go.Proofs.YtjiciklnhcmfaaaGreatDoor
