/- What came in, opened: files, ops of layer 9. -/
import Derived.Test.YtcmllfnhdodbdaaGreatDoorLaid9
import Derived.Test.YtcmllfnhdodbdaaGreatDoorOps9
import Derived.Deep.Slices
import Derived.OpenShut
namespace Go.Proofs.YtcmllfnhdodbdaaGreatDoor
set_option linter.unusedVariables false
set_option linter.unusedSimpArgs false
open Go.ChangeShapes Go.WideShapes Go.ChangeAt Go.RowKit Go.Deep
/-- No weight of a datum passes the reach. -/
def Small {H : Type} (t : TypeId) (d : DataW H) : Prop := ∀ n ∈ d.weights Tryz.prog t, n ≤ reachBytes
theorem small_all {H : Type} {e : TypeId} : ∀ {l : List (DataW H)}, (∀ n ∈ DataW.weightsAll Tryz.prog e l, n ≤ reachBytes) → ∀ d ∈ l, Small e d
  | [], _, d, hd => by cases hd
  | x :: l, h, d, hd => by
    simp only [DataW.weightsAll, List.mem_append] at h
    rcases List.mem_cons.1 hd with rfl | hd
    · exact fun n hn => h n (.inl hn)
    · exact small_all (fun n hn => h n (.inr hn)) d hd
theorem small_slice {H : Type} {t e : TypeId} {elems spare : List (DataW H)} (hu : Tryz.prog.underlying t = some (.slice e)) (h : Small t (.slice elems spare)) : (elems.length + spare.length) * Tryz.prog.bytesOf e ≤ reachBytes ∧ (∀ d ∈ elems, Small e d) ∧ ∀ d ∈ spare, Small e d := by
  unfold Small at h
  simp only [DataW.weights, hu, List.mem_cons, List.mem_append] at h
  exact ⟨h _ (.inl rfl), small_all (fun n hn => h n (.inr (.inl hn))), small_all (fun n hn => h n (.inr (.inr hn)))⟩
theorem small_arg {H : Type} {ts : List TypeId} {ds : List (DataW H)} {j : Nat} {t : TypeId} {d : DataW H} (h : (DataW.weightsEach Tryz.prog ts ds).all (· ≤ reachBytes) = true) (ht : ts[j]? = some t) (hd : ds[j]? = some d) : Small t d :=
  fun n hn => by simpa using List.all_eq_true.1 h n (DataW.weights_mem_each ht hd n hn)

theorem small_agg {H : Type} {t : TypeId} {fs : Array Field} {parts : List (DataW H)} (hu : Tryz.prog.underlying t = some (.struct fs)) (h : Small t (.agg parts)) {j : Nat} {u : TypeId} {d : DataW H} (ht : (fs.toList.map (·.type))[j]? = some u) (hd : parts[j]? = some d) : Small u d :=
  fun n hn => h n (by simp only [DataW.weights, hu]; exact DataW.weights_mem_each ht hd n hn)
theorem i64_of_wf {n : Int} (h : (Lit.int .i64 n).wf = true) : -9223372036854775808 ≤ n ∧ n ≤ 9223372036854775807 := by
  simp [Lit.wf, IntKind.min, IntKind.max, IntKind.signed, IntKind.bits] at h
  exact ⟨by omega, by omega⟩
theorem list4 {α : Type} : ∀ {l : List α}, l.length = 4 → ∃ a b c d, l = [a, b, c, d]
  | [a, b, c, d], _ => ⟨a, b, c, d, rfl⟩
theorem list5 {α : Type} : ∀ {l : List α}, l.length = 5 → ∃ a b c d e, l = [a, b, c, d, e]
  | [a, b, c, d, e], _ => ⟨a, b, c, d, e, rfl⟩
theorem list8 {α : Type} : ∀ {l : List α}, l.length = 8 → ∃ a b c d e f g h, l = [a, b, c, d, e, f, g, h]
  | [a, b, c, d, e, f, g, h], _ => ⟨a, b, c, d, e, f, g, h, rfl⟩
section
variable {H : Type} {enc : TypeId × Value → H} {W : World} {held : Bool} {fuel : Nat}
theorem addr_plain {a : Addr} {v : Value} (h : W.cell? (a.add 0) = some v) : ∃ b o, a = ⟨b, o, none⟩ := by
  obtain ⟨b, o, s⟩ := a
  cases s with
  | none => exact ⟨b, o, rfl⟩
  | some x =>
    exfalso
    unfold Addr.add World.cell? at h
    simp only [if_true] at h
    split at h
    · simp at h
    · cases h
theorem byte_of_wf {n : Int} (h : (Lit.int .u8 n).wf = true) : n = ((UInt8.ofNat n.toNat).toNat : Int) := by
  simp [Lit.wf, IntKind.min, IntKind.max, IntKind.signed, IntKind.bits] at h
  rw [UInt8.toNat_ofNat']
  omega
/-- A row of bytes. -/
theorem open_bytes {v : Value} {d : DataW H} {pl : List MemPlace} (h : DataW.trod enc Tryz.prog W 0 (fun _ => true) held fuel 33 [v] = some (d, pl)) (hs : Small 33 d) :
    ∃ a xs cap, v = .slice a xs.length cap ∧ Byt W a xs ∧ xs.length ≤ cap ∧ xs.length ≤ 140737488351232 := by
  rcases open_ints Tryz.underlying33 Tryz.underlying5 (by kernel_rfl) h with ⟨hcs, _⟩ | ⟨a, l, c, zs, hcs, _, hl, hm, hz, hx, hcell, hwz⟩
  · simp only [List.cons.injEq, and_true] at hcs
    subst hcs
    exact ⟨none, [], 0, rfl, Byt.nil _ _, Nat.le_refl _, Nat.zero_le _⟩
  · simp only [List.cons.injEq, and_true] at hcs
    subst hcs
    simp only [if_true] at hz
    simp only [Prod.mk.injEq] at hx
    obtain ⟨rfl, _⟩ := hx
    have hr := (small_slice Tryz.underlying33 hs).1
    rw [show Tryz.prog.bytesOf 5 = 1 by kernel_rfl, lits, lits, List.length_map, List.length_map, List.length_take, List.length_drop, Nat.mul_one] at hr
    have hl2 : ((zs.take l).map fun n => UInt8.ofNat n.toNat).length = l := by rw [List.length_map, List.length_take]; omega
    refine ⟨some a, (zs.take l).map fun n => UInt8.ofNat n.toNat, c, by rw [hl2], ?_, by rw [hl2]; exact hl, by rw [hl2]; show l ≤ reachBytes; omega⟩
    intro i hi
    rw [hl2] at hi
    have hc := hcell i (by omega)
    have h0 := hcell 0 (by omega)
    obtain ⟨b, o, rfl⟩ := addr_plain h0
    refine ⟨b, o, rfl, ?_⟩
    rw [Addr.add_lit] at hc
    rw [hc]
    have hi2 : i < zs.length := by omega
    have hw := byte_of_wf (hwz (zs[i]) (List.getElem_mem hi2))
    simp only [List.getElem_map, List.getElem_take]
    rw [← hw]
    simp [List.getD, hi2]
end
theorem list2 {α : Type} : ∀ {l : List α}, l.length = 2 → ∃ a b, l = [a, b]
  | [a, b], _ => ⟨a, b, rfl⟩
instance : Inhabited O9 := ⟨⟨0, 0, [], [], none, [], 0, 0, 0, none, [], 0⟩⟩
section
variable {H : Type} {enc : TypeId × Value → H} {W : World} {held : Bool} {fuel : Nat}
/-- A string, opened. -/
theorem open_text {c : Value} {y : DataW H × List MemPlace} (h : DataW.trod enc Tryz.prog W 0 (fun _ => true) held fuel 9 [c] = some y) (hs : Small 9 y.1) : ∃ nm : List UInt8, c = .string ⟨nm.toArray⟩ ∧ nm.length ≤ 140737488351232 := by
  obtain ⟨s, hc, hx, hl⟩ := DataW.trod_string Tryz.underlying9 h
  simp only [List.cons.injEq, and_true] at hc
  subst hc
  refine ⟨s.data.toList, by simp, ?_⟩
  have h9 : ∀ k ∈ DataW.weights Tryz.prog 9 y.1, k ≤ reachBytes := hs
  rw [hx] at h9
  exact h9 _ (by simp [DataW.weights])
/-- A row of files. -/
theorem open_files {v : Value} {d : DataW H} {pl : List MemPlace} (h : DataW.trod enc Tryz.prog W 0 (fun _ => true) held fuel 34 [v] = some (d, pl)) (hs : Small 34 d) :
    ∃ a C cap, v = .slice a C.length cap ∧ Fil W a C ∧ C.length ≤ cap ∧ C.length ≤ 140737488351232 ∧ ∀ p ∈ C, p.1.length ≤ 140737488351232 ∧ p.2.length ≤ 140737488351232 := by
  rcases open_slice Tryz.underlying34 h with ⟨hcs, _⟩ | ⟨a, len, cap, m, n, D, Pl, hcs, _, hl, hm, hmm, hx, hel⟩
  · simp only [List.cons.injEq, and_true] at hcs
    subst hcs
    exact ⟨none, [], 0, rfl, (fun i hi => absurd hi (Nat.not_lt_zero _)), Nat.le_refl _, Nat.zero_le _, (fun o h => by cases h)⟩
  · simp only [List.cons.injEq, and_true] at hcs
    subst hcs
    simp only [if_true] at hmm
    obtain rfl := hmm.symm
    simp only [Prod.mk.injEq] at hx
    obtain ⟨rfl, _⟩ := hx
    obtain ⟨hw, hse, _⟩ := small_slice Tryz.underlying34 hs
    rw [show Tryz.prog.bytesOf 71 = 40 by kernel_rfl] at hw
    simp only [List.length_map, List.length_range] at hw
    have hlen : len * 40 ≤ 140737488351232 := by
      have : reachBytes = 140737488351232 := rfl
      omega
    have key : ∀ i, i < len → ∃ q : (List UInt8 × List UInt8) × Option Addr × Nat, W.cell? (a.add (i * 2)) = some (.string ⟨q.1.1.toArray⟩) ∧ W.cell? (a.add (i * 2 + 1)) = some (.slice q.2.1 q.1.2.length q.2.2) ∧ Byt W q.2.1 q.1.2 ∧ q.1.2.length ≤ q.2.2 ∧ q.1.1.length ≤ 140737488351232 ∧ q.1.2.length ≤ 140737488351232 := by
      intro i hi
      obtain ⟨cs', h1, h2⟩ := hel i (by omega)
      have hsi := hse (D i) (List.mem_map.2 ⟨i, List.mem_range.2 hi, rfl⟩)
      rw [show Tryz.prog.cellsOf 71 = 2 by kernel_rfl] at h1
      obtain ⟨_, hcl, hc⟩ := World.cells?_some h1
      obtain ⟨xs, n', _, hxx, _, hxl, hf⟩ := DataW.trod_struct Tryz.underlying71 h2
      have e1 : Tryz.prog.cellsOf 33 = 1 := by kernel_rfl
      have e2 : Tryz.prog.cellsOf 9 = 1 := by kernel_rfl
      obtain ⟨c0, c1, rfl⟩ := list2 hcl
      obtain ⟨y0, y1, rfl⟩ := list2 (show xs.length = 2 from hxl)
      have g0 : DataW.trod enc Tryz.prog W 0 (fun _ => true) held n' 9 [c0] = some y0 := by simpa [e1, e2] using hf 0 _ rfl
      have g1 : DataW.trod enc Tryz.prog W 0 (fun _ => true) held n' 33 [c1] = some y1 := by simpa [e1, e2] using hf 1 _ rfl
      simp only [Prod.mk.injEq] at hxx
      rw [hxx.1] at hsi
      have s0 : Small 9 y0.1 := small_agg Tryz.underlying71 hsi (j := 0) (by rfl) (by rfl)
      have s1 : Small 33 y1.1 := small_agg Tryz.underlying71 hsi (j := 1) (by rfl) (by rfl)
      obtain ⟨nm, rfl, hn⟩ := open_text g0 s0
      obtain ⟨a1, x1, k1, rfl, b1, m1, l1⟩ := open_bytes (d := y1.1) (pl := y1.2) g1 s1
      have k0' := hc 0 (by decide)
      have k1' := hc 1 (by decide)
      rw [add_add] at k0' k1'
      exact ⟨((nm, x1), a1, k1), by simpa using k0', by simpa using k1', b1, m1, hn, l1⟩
    obtain ⟨q, hq⟩ := choose_lt key
    have hl2 : ((List.range len).map fun i => (q i).1).length = len := by simp
    refine ⟨some a, (List.range len).map fun i => (q i).1, _, by rw [hl2], ?_, by rw [hl2]; exact hl, by rw [hl2]; omega, ?_⟩
    · intro i hi
      rw [hl2] at hi
      have h0 := (hq 0 (by omega)).1
      obtain ⟨b, off, rfl⟩ := addr_plain (by simpa using h0)
      obtain ⟨p1, p2, p3, p4, _, _⟩ := hq i hi
      rw [Addr.add_lit] at p1 p2
      have hg : ((List.range len).map fun i => (q i).1)[i]'(by rw [hl2]; exact hi) = (q i).1 := by simp
      rw [hg]
      exact ⟨b, off, (q i).2.1, (q i).2.2, rfl, p1, p2, p4, p3⟩
    · intro p hp
      obtain ⟨i, hi, rfl⟩ := List.mem_map.1 hp
      obtain ⟨_, _, _, _, p5, p6⟩ := hq i (List.mem_range.1 hi)
      exact ⟨p5, p6⟩
/-- An op, opened. -/
theorem open_op9 {cs : List Value} {y : DataW H × List MemPlace} (h : DataW.trod enc Tryz.prog W 0 (fun _ => true) held fuel 36 cs = some y) (hcl : cs.length = 8) (hsi : Small 36 y.1) : ∃ o : O9, cs = o.cells.toList ∧ o.At W := by
  obtain ⟨xs, n', _, hxx, _, hxl, hf⟩ := DataW.trod_struct Tryz.underlying36 h
  have e1 : Tryz.prog.cellsOf 33 = 1 := by kernel_rfl
  have e2 : Tryz.prog.cellsOf 3 = 1 := by kernel_rfl
  have e3 : Tryz.prog.cellsOf 9 = 1 := by kernel_rfl
  have e4 : Tryz.prog.cellsOf 34 = 1 := by kernel_rfl
  obtain ⟨c0, c1, c2, c3, c4, c5, c6, c7, rfl⟩ := list8 hcl
  obtain ⟨y0, y1, y2, y3, y4, y5, y6, y7, rfl⟩ := list8 (show xs.length = 8 from hxl)
  have g0 : DataW.trod enc Tryz.prog W 0 (fun _ => true) held n' 3 [c0] = some y0 := by simpa [e1, e2, e3, e4] using hf 0 _ rfl
  have g1 : DataW.trod enc Tryz.prog W 0 (fun _ => true) held n' 3 [c1] = some y1 := by simpa [e1, e2, e3, e4] using hf 1 _ rfl
  have g2 : DataW.trod enc Tryz.prog W 0 (fun _ => true) held n' 9 [c2] = some y2 := by simpa [e1, e2, e3, e4] using hf 2 _ rfl
  have g3 : DataW.trod enc Tryz.prog W 0 (fun _ => true) held n' 9 [c3] = some y3 := by simpa [e1, e2, e3, e4] using hf 3 _ rfl
  have g4 : DataW.trod enc Tryz.prog W 0 (fun _ => true) held n' 33 [c4] = some y4 := by simpa [e1, e2, e3, e4] using hf 4 _ rfl
  have g5 : DataW.trod enc Tryz.prog W 0 (fun _ => true) held n' 3 [c5] = some y5 := by simpa [e1, e2, e3, e4] using hf 5 _ rfl
  have g6 : DataW.trod enc Tryz.prog W 0 (fun _ => true) held n' 3 [c6] = some y6 := by simpa [e1, e2, e3, e4] using hf 6 _ rfl
  have g7 : DataW.trod enc Tryz.prog W 0 (fun _ => true) held n' 34 [c7] = some y7 := by simpa [e1, e2, e3, e4] using hf 7 _ rfl
  rw [hxx] at hsi
  have s2 : Small 9 y2.1 := small_agg Tryz.underlying36 hsi (j := 2) (by rfl) (by rfl)
  have s3 : Small 9 y3.1 := small_agg Tryz.underlying36 hsi (j := 3) (by rfl) (by rfl)
  have s4 : Small 33 y4.1 := small_agg Tryz.underlying36 hsi (j := 4) (by rfl) (by rfl)
  have s7 : Small 34 y7.1 := small_agg Tryz.underlying36 hsi (j := 7) (by rfl) (by rfl)
  obtain ⟨nm, rfl, hn⟩ := open_text g2 s2
  obtain ⟨tn, rfl, ht⟩ := open_text g3 s3
  obtain ⟨a4, x4, k4, rfl, b4, m4, l4⟩ := open_bytes (d := y4.1) (pl := y4.2) g4 s4
  obtain ⟨a7, C7, k7, rfl, b7, m7, l7, f7⟩ := open_files (d := y7.1) (pl := y7.2) g7 s7
  obtain ⟨z0, q0, _, w0⟩ := DataW.trod_int Tryz.underlying3 g0
  obtain ⟨z1, q1, _, w1⟩ := DataW.trod_int Tryz.underlying3 g1
  obtain ⟨z5, q5, _, w5⟩ := DataW.trod_int Tryz.underlying3 g5
  obtain ⟨z6, q6, _, w6⟩ := DataW.trod_int Tryz.underlying3 g6
  simp only [List.cons.injEq, and_true] at q0 q1 q5 q6
  subst q0 q1 q5 q6
  exact ⟨⟨z0, z1, nm, tn, a4, x4, k4, z5, z6, a7, C7, k7⟩, rfl, ⟨b4, m4, b7, l4, hn, ht, l7, f7, i64_of_wf w5, i64_of_wf w6⟩⟩
set_option maxRecDepth 100000 in
/-- A row of ops. -/
theorem open_ops9 {v : Value} {d : DataW H} {pl : List MemPlace} (h : DataW.trod enc Tryz.prog W 0 (fun _ => true) held fuel 22 [v] = some (d, pl)) (hs : Small 22 d) :
    ∃ a L cap, v = .slice a L.length cap ∧ Ops9 W a L ∧ L.length ≤ 140737488351232 := by
  rcases open_slice Tryz.underlying22 h with ⟨hcs, _⟩ | ⟨a, len, cap, m, n, D, Pl, hcs, _, hl, hm, hmm, hx, hel⟩
  · simp only [List.cons.injEq, and_true] at hcs
    subst hcs
    exact ⟨none, [], 0, rfl, (fun i hi => absurd hi (Nat.not_lt_zero _)), Nat.zero_le _⟩
  · simp only [List.cons.injEq, and_true] at hcs
    subst hcs
    simp only [if_true] at hmm
    obtain rfl := hmm.symm
    simp only [Prod.mk.injEq] at hx
    obtain ⟨rfl, _⟩ := hx
    obtain ⟨hw, hse, _⟩ := small_slice Tryz.underlying22 hs
    rw [show Tryz.prog.bytesOf 36 = 112 by kernel_rfl] at hw
    simp only [List.length_map, List.length_range] at hw
    have hlen : len * 112 ≤ 140737488351232 := by
      have : reachBytes = 140737488351232 := rfl
      omega
    have key : ∀ i, i < len → ∃ o : O9, (∀ j u, o.cells.toList[j]? = some u → W.cell? (a.add (i * 8 + j)) = some u) ∧ o.At W := by
      intro i hi
      obtain ⟨cs', h1, h2⟩ := hel i (by omega)
      have hsi := hse (D i) (List.mem_map.2 ⟨i, List.mem_range.2 hi, rfl⟩)
      rw [show Tryz.prog.cellsOf 36 = 8 by kernel_rfl] at h1
      obtain ⟨_, hcl, hc⟩ := World.cells?_some h1
      obtain ⟨o, rfl, ho⟩ := open_op9 h2 hcl hsi
      refine ⟨o, fun j u hj => ?_, ho⟩
      have hj' : j < 8 := by rw [← hcl]; exact (List.getElem?_eq_some_iff.1 hj).1
      have h := hc j hj'
      rw [add_add] at h
      rw [h, hj]
    obtain ⟨q, hq⟩ := choose_lt key
    have hl2 : ((List.range len).map q).length = len := by simp
    refine ⟨some a, (List.range len).map q, _, by rw [hl2], ?_, by rw [hl2]; omega⟩
    intro i hi
    rw [hl2] at hi
    have h0 := (hq 0 (by omega)).1 0 _ rfl
    obtain ⟨b, off, rfl⟩ := addr_plain (by simpa using h0)
    have hg : ((List.range len).map q)[i]'(by rw [hl2]; exact hi) = q i := by simp
    rw [hg]
    have k : ∀ j u, (q i).cells.toList[j]? = some u → W.cell? ⟨b, off + i * 8 + j, none⟩ = some u := fun j u hj => by
      have := (hq i hi).1 j u hj
      rw [Addr.add_lit] at this
      rw [show off + i * 8 + j = off + (i * 8 + j) by omega]
      exact this
    exact ⟨(hq i hi).2, b, off, rfl, k 0 _ rfl, k 1 _ rfl, k 2 _ rfl, k 3 _ rfl, k 4 _ rfl, k 5 _ rfl, k 6 _ rfl, k 7 _ rfl⟩
set_option maxRecDepth 100000 in
/-- Two rooms and ops, opened. -/
theorem open_script9 {cs : List Value} {y : DataW H × List MemPlace} (h : DataW.trod enc Tryz.prog W 0 (fun _ => true) held fuel 48 cs = some y) (hcl : cs.length = 3) (hsi : Small 48 y.1) : ∃ r0 r1 pa L cap, cs = [.int .i64 r0, .int .i64 r1, .slice pa L.length cap] ∧ Ops9 W pa L ∧ L.length ≤ 140737488351232 ∧ (-9223372036854775808 ≤ r0 ∧ r0 ≤ 9223372036854775807) := by
  obtain ⟨xs, n', _, hxx, _, hxl, hf⟩ := DataW.trod_struct Tryz.underlying48 h
  have e1 : Tryz.prog.cellsOf 46 = 2 := by kernel_rfl
  have e2 : Tryz.prog.cellsOf 3 = 1 := by kernel_rfl
  have e3 : Tryz.prog.cellsOf 22 = 1 := by kernel_rfl
  obtain ⟨c0, c1, c2, rfl⟩ : ∃ a b c, cs = [a, b, c] := by
    match cs, hcl with
    | [a, b, c], _ => exact ⟨a, b, c, rfl⟩
  obtain ⟨y0, y1, rfl⟩ := list2 (show xs.length = 2 from hxl)
  have g0 : DataW.trod enc Tryz.prog W 0 (fun _ => true) held n' 46 [c0, c1] = some y0 := by simpa [e1, e2, e3] using hf 0 _ rfl
  have g1 : DataW.trod enc Tryz.prog W 0 (fun _ => true) held n' 22 [c2] = some y1 := by simpa [e1, e2, e3] using hf 1 _ rfl
  rw [hxx] at hsi
  have s1 : Small 22 y1.1 := small_agg Tryz.underlying48 hsi (j := 1) (by rfl) (by rfl)
  obtain ⟨pa, L, cap, rfl, ho, hl⟩ := open_ops9 (d := y1.1) (pl := y1.2) g1 s1
  obtain ⟨zs, m, _, _, hz1, hz2, hz⟩ := DataW.trod_array Tryz.underlying46 g0
  have z0 := hz 0 (by decide)
  have z1 := hz 1 (by decide)
  rw [e2] at z0 z1
  simp only [Nat.zero_mul, Nat.one_mul, List.drop_zero, List.take_succ_cons, List.take_zero, List.drop_succ_cons] at z0 z1
  rw [List.getElem?_eq_getElem (by omega)] at z0 z1
  have hu0 := z0
  have hu1 := z1
  obtain ⟨k0, q0, _, w0⟩ := DataW.trod_int Tryz.underlying3 hu0
  obtain ⟨k1, q1, _, w1⟩ := DataW.trod_int Tryz.underlying3 hu1
  simp only [List.cons.injEq, and_true] at q0 q1
  subst q0 q1
  exact ⟨k0, k1, pa, L, cap, rfl, ho, hl, i64_of_wf w0⟩
end
end Go.Proofs.YtcmllfnhdodbdaaGreatDoor
