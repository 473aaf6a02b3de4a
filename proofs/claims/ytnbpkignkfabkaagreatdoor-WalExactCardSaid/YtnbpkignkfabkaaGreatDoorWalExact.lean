/- WalExact: for every input the law returns true, and the input reads as it did. Condition: the listed tables are laid as the text says (the card ties them). -/
import Derived.Test.YtnbpkignkfabkaaGreatDoorOpen3
import Derived.Test.YtnbpkignkfabkaaGreatDoorLaid10
import Derived.Test.YtnbpkignkfabkaaGreatDoorWxV
import Derived.Test.YtnbpkignkfabkaaGreatDoorTie
import Derived.Test.YtnbpkignkfabkaaGreatDoorCards
import Derived.SevenTiedAt
/- What came in, opened: ops of layer 10. -/
namespace Go.Proofs.YtnbpkignkfabkaaGreatDoor
set_option linter.unusedVariables false
set_option linter.unusedSimpArgs false
open Go.ChangeShapes Go.WideShapes Go.ChangeAt Go.RowKit Go.Deep
theorem two_of {α : Type} : ∀ {l : List α}, l.length = 2 → ∃ a b, l = [a, b]
  | [a, b], _ => ⟨a, b, rfl⟩
instance : Inhabited O10 := ⟨⟨0, 0, none, [], 0, 0, 0⟩⟩
section
variable {H : Type} {enc : TypeId × Value → H} {W : World} {held : Bool} {fuel : Nat}
/-- An op, opened. -/
theorem open_op10 {cs : List Value} {y : DataW H × List MemPlace} (h : DataW.trod enc Tryz.prog W 0 (fun _ => true) held fuel 76 cs = some y) (hcl : cs.length = 5) (hsi : Small 76 y.1) : ∃ o : O10, cs = o.cells.toList ∧ o.At W := by
  obtain ⟨xs, n', _, hxx, _, hxl, hf⟩ := DataW.trod_struct Tryz.underlying76 h
  have e1 : Tryz.prog.cellsOf 74 = 1 := by kernel_rfl
  have e2 : Tryz.prog.cellsOf 3 = 1 := by kernel_rfl
  obtain ⟨c0, c1, c2, c3, c4, rfl⟩ := list5 hcl
  obtain ⟨y0, y1, y2, y3, y4, rfl⟩ := list5 (show xs.length = 5 from hxl)
  have g0 : DataW.trod enc Tryz.prog W 0 (fun _ => true) held n' 3 [c0] = some y0 := by simpa [e1, e2] using hf 0 _ rfl
  have g1 : DataW.trod enc Tryz.prog W 0 (fun _ => true) held n' 3 [c1] = some y1 := by simpa [e1, e2] using hf 1 _ rfl
  have g2 : DataW.trod enc Tryz.prog W 0 (fun _ => true) held n' 74 [c2] = some y2 := by simpa [e1, e2] using hf 2 _ rfl
  have g3 : DataW.trod enc Tryz.prog W 0 (fun _ => true) held n' 3 [c3] = some y3 := by simpa [e1, e2] using hf 3 _ rfl
  have g4 : DataW.trod enc Tryz.prog W 0 (fun _ => true) held n' 3 [c4] = some y4 := by simpa [e1, e2] using hf 4 _ rfl
  rw [hxx] at hsi
  have s2 : Small 74 y2.1 := small_agg Tryz.underlying76 hsi (j := 2) (by rfl) (by rfl)
  obtain ⟨a4, x4, k4, rfl, b4, m4, l4⟩ := open_bytes (d := y2.1) (pl := y2.2) g2 s2
  obtain ⟨z0, q0, _, w0⟩ := DataW.trod_int Tryz.underlying3 g0
  obtain ⟨z1, q1, _, w1⟩ := DataW.trod_int Tryz.underlying3 g1
  obtain ⟨z3, q3, _, w3⟩ := DataW.trod_int Tryz.underlying3 g3
  obtain ⟨z4, q4, _, w4⟩ := DataW.trod_int Tryz.underlying3 g4
  simp only [List.cons.injEq, and_true] at q0 q1 q3 q4
  subst q0 q1 q3 q4
  exact ⟨⟨z0, z1, a4, x4, k4, z3, z4⟩, rfl, ⟨b4, m4, l4, i64_of_wf w3⟩⟩
set_option maxRecDepth 100000 in
/-- A row of ops. -/
theorem open_ops10 {v : Value} {d : DataW H} {pl : List MemPlace} (h : DataW.trod enc Tryz.prog W 0 (fun _ => true) held fuel 22 [v] = some (d, pl)) (hs : Small 22 d) :
    ∃ a L cap, v = .slice a L.length cap ∧ Ops10 W a L ∧ L.length ≤ 140737488351232 := by
  rcases open_slice Tryz.underlying22 h with ⟨hcs, _⟩ | ⟨a, len, cap, m, n, D, Pl, hcs, _, hl, hm, hmm, hx, hel⟩
  · simp only [List.cons.injEq, and_true] at hcs
    subst hcs
    exact ⟨none, [], 0, rfl, (fun i hi => absurd hi (Nat.not_lt_zero _)), Nat.zero_le _⟩
  · simp only [List.cons.injEq, and_true] at hcs
    subst hcs
    simp only [if_true] at hmm
    obtain rfl := hmm.symm
    simp only [Prod.mk.injEq] at hx
    obtain ⟨rfl, _⟩ := hx
    obtain ⟨hw, hse, _⟩ := small_slice Tryz.underlying22 hs
    rw [show Tryz.prog.bytesOf 76 = 56 by kernel_rfl] at hw
    simp only [List.length_map, List.length_range] at hw
    have hlen : len * 56 ≤ 140737488351232 := by
      have : reachBytes = 140737488351232 := rfl
      omega
    have key : ∀ i, i < len → ∃ o : O10, (∀ j u, o.cells.toList[j]? = some u → W.cell? (a.add (i * 5 + j)) = some u) ∧ o.At W := by
      intro i hi
      obtain ⟨cs', h1, h2⟩ := hel i (by omega)
      have hsi := hse (D i) (List.mem_map.2 ⟨i, List.mem_range.2 hi, rfl⟩)
      rw [show Tryz.prog.cellsOf 76 = 5 by kernel_rfl] at h1
      obtain ⟨_, hcl, hc⟩ := World.cells?_some h1
      obtain ⟨o, rfl, ho⟩ := open_op10 h2 hcl hsi
      refine ⟨o, fun j u hj => ?_, ho⟩
      have hj' : j < 5 := by rw [← hcl]; exact (List.getElem?_eq_some_iff.1 hj).1
      have h := hc j hj'
      rw [add_add] at h
      rw [h, hj]
    obtain ⟨q, hq⟩ := choose_lt key
    have hl2 : ((List.range len).map q).length = len := by simp
    refine ⟨some a, (List.range len).map q, _, by rw [hl2], ?_, by rw [hl2]; omega⟩
    intro i hi
    rw [hl2] at hi
    have h0 := (hq 0 (by omega)).1 0 _ rfl
    obtain ⟨b, off, rfl⟩ := addr_plain (by simpa using h0)
    have hg : ((List.range len).map q)[i]'(by rw [hl2]; exact hi) = q i := by simp
    rw [hg]
    have k : ∀ j u, (q i).cells.toList[j]? = some u → W.cell? ⟨b, off + i * 5 + j, none⟩ = some u := fun j u hj => by
      have := (hq i hi).1 j u hj
      rw [Addr.add_lit] at this
      rw [show off + i * 5 + j = off + (i * 5 + j) by omega]
      exact this
    exact ⟨(hq i hi).2, b, off, rfl, k 0 _ rfl, k 1 _ rfl, k 2 _ rfl, k 3 _ rfl, k 4 _ rfl⟩
set_option maxRecDepth 100000 in
/-- A room and ops, opened. -/
theorem open_script10 {cs : List Value} {y : DataW H × List MemPlace} (h : DataW.trod enc Tryz.prog W 0 (fun _ => true) held fuel 24 cs = some y) (hcl : cs.length = 2) (hsi : Small 24 y.1) : ∃ r0 pa L cap, cs = [.int .i64 r0, .slice pa L.length cap] ∧ Ops10 W pa L ∧ L.length ≤ 140737488351232 ∧ (-9223372036854775808 ≤ r0 ∧ r0 ≤ 9223372036854775807) := by
  obtain ⟨xs, n', _, hxx, _, hxl, hf⟩ := DataW.trod_struct Tryz.underlying24 h
  have e2 : Tryz.prog.cellsOf 3 = 1 := by kernel_rfl
  have e3 : Tryz.prog.cellsOf 22 = 1 := by kernel_rfl
  obtain ⟨c0, c1, rfl⟩ := two_of hcl
  obtain ⟨y0, y1, rfl⟩ := two_of (show xs.length = 2 from hxl)
  have g0 : DataW.trod enc Tryz.prog W 0 (fun _ => true) held n' 3 [c0] = some y0 := by simpa [e2, e3] using hf 0 _ rfl
  have g1 : DataW.trod enc Tryz.prog W 0 (fun _ => true) held n' 22 [c1] = some y1 := by simpa [e2, e3] using hf 1 _ rfl
  rw [hxx] at hsi
  have s1 : Small 22 y1.1 := small_agg Tryz.underlying24 hsi (j := 1) (by rfl) (by rfl)
  obtain ⟨pa, L, cap, rfl, ho, hl⟩ := open_ops10 (d := y1.1) (pl := y1.2) g1 s1
  obtain ⟨k0, q0, _, w0⟩ := DataW.trod_int Tryz.underlying3 g0
  simp only [List.cons.injEq, and_true] at q0
  subst q0
  exact ⟨k0, pa, L, cap, rfl, ho, hl, i64_of_wf w0⟩
end
end Go.Proofs.YtnbpkignkfabkaaGreatDoor
namespace Go.Proofs.YtnbpkignkfabkaaGreatDoor.WalExact
set_option linter.unusedVariables false
set_option linter.unusedSimpArgs false
open Go Go.ChangeShapes Go.WideShapes Go.ChangeAt Go.RowKit

set_option maxRecDepth 100000 in
theorem lifted (os : Os) (started : os.Started) (H : Type) (enc : TypeId × Value → H) :
    ReturnsInHanded {} Tryz.checked os 3 .any (fun w args => (Rows.walExactSpec.pre enc Tryz.prog Tryz.f3 [] false w args ∧ laidMetH Tryz.prog laid10 w) ∧ sizedMet enc Tryz.prog Tryz.f3 (OpenSpec.ofChange Rows.walExactSpec) false w args)
      (Rows.walExactSpec.post enc Tryz.prog Tryz.f3 false true false false) := by
  refine returnsInHanded_of_change_and (C := Tryz.checked) (X := fun w _ => laidMetH Tryz.prog laid10 w) (fun _ _ _ hh h => h.of_heap hh) own started (by kernel_rfl) Tryz.func3
    (ChangeSpec.witness_shaped (enc := enc) (C := Tryz.checked) (os := os) (X := fun w _ => laidMetH Tryz.prog laid10 w) false (World.laidAll Tryz.prog os laid10) #[.agg #[.int .i64 0, .slice none 0 0]] 8 (World.laidAll_os _ _ _) (shaped10 os) (by kernel_rfl) (by kernel_rfl) (by kernel_rfl) (met10 os _)) ?_
  intro W base args ds gs before hval0 hW _ hsz0 hL _
  have hsz : (DataW.weightsEach Tryz.prog (Tryz.f3.params.toList ++ Rows.walExactSpec.plain.varTypes Tryz.prog) (ds ++ gs)).all (· ≤ reachBytes) = true := hsz0
  have hval : ∀ (j : Nat) t v, Tryz.f3.params[j]? = some t → args[j]? = some v → Value.okWide Tryz.prog W .any base t v := hval0
  have hW' := hW
  obtain ⟨p, q, hA0, hV, rfl, hfz, hnd⟩ := hW
  have hA : DataW.TrodAll enc Tryz.prog W 0 (fun _ => true) true Tryz.f3.params.toList args.toList ds p := hA0
  rw [Tryz.params3] at hA hval hsz
  obtain ⟨v0, d0, hargs, rfl, h0⟩ := trodAll_one hA
  obtain rfl : args = #[v0] := by cases args; simp_all
  obtain ⟨rfl, rfl⟩ := trodVars_none hV
  obtain ⟨ht, hg⟩ := of_laid10 hL
  have k0 := h0
  have lt0 : ∀ x ∈ p, x.block < W.heap.size := by obtain ⟨m, hm⟩ := k0; exact DataW.trod_lt m _ _ _ hm
  have hsm : Small 24 d0 := small_arg hsz (j := 0) (by rfl) (by rfl)
  obtain ⟨cs, rfl, hcz⟩ := okWide_struct Tryz.underlying24 (hval 0 24 v0 rfl rfl)
  rw [show Tryz.prog.cellsOf 24 = 2 by kernel_rfl] at hcz
  obtain ⟨l⟩ := cs
  obtain ⟨fuel, hf⟩ := h0
  obtain ⟨r0, pa, L, cap, hl, ho, hlen, hr⟩ := open_script10 (cs := l) hf hcz hsm
  subst hl
  clear hA0 hval0 hsz0 hsz
  refine (WalExact_calls W r0 pa cap L ho (by omega) hr.1 hr.2 ht hg).mono fun e W' ⟨he, bel⟩ => ?_
  subst he
  exact ⟨_, rfl, _, _, _, [], _, [], hW', trodAll_mk1 (shut_bool Tryz.underlying4 _), trodAll_mk1 (Below.trod laidOut (by kernel_rfl) (of_decide_eq_true (by kernel_rfl)) k0 bel lt0), rfl, bel.frame _, fun h => by cases h⟩

theorem row : Rows.WalExactSaid :=
  OpenClaim.holds_of_wide 3 Tryz.f3 rfl rfl rfl rfl rfl rfl rfl ⟨rfl, rfl, rfl, rfl, rfl⟩ rfl rfl rfl rfl rfl (by kernel_rfl) Tryz.func3 (by kernel_rfl)
    (of_decide_eq_true (by kernel_rfl)) (by unfold Func.isWrapper; first | (rw [if_pos (by decide +kernel)]; kernel_rfl) | (rw [if_neg (by decide +kernel)]; exact ⟨rfl, rfl⟩))
    (fun os started H enc _ => lifted os started H enc)
theorem proved : Rows.WalExactCardSaid :=
  Claim7.holds_tied_plain_at .later [] [.data, .data, .pinned] true (true, "86ce6bd30a38aa21cff71b898ea3e5cd2c78b89a0313d524329f2dfe8022b7d5") false
    row (fun _ h => by cases h) (by kernel_rfl) (fun _ h => by cases h) walExact_row_tie rfl ⟨rfl, rfl⟩ (by kernel_rfl) rfl
    (fun f fn hf hfn => by
      obtain rfl : f = 3 := Option.some.inj ((show Tryz.prog.funcNamed "postern/posternlaw10.WalExact" = some 3 by kernel_rfl).symm.trans hf) |>.symm
      obtain rfl : fn = Tryz.f3 := (Option.some.inj (Tryz.func3.symm.trans hfn)).symm
      exact ⟨by kernel_rfl, fun j t ht => by
        rw [Tryz.params3] at ht
        have hm : t ∈ [24] := by simpa using Array.mem_of_getElem? ht
        have hall : ([24].all fun u => !Tryz.prog.wantsStandIn u) = true := by kernel_rfl
        exact (show Tryz.prog.wantsStandIn t = false by simpa using List.all_eq_true.1 hall t hm)⟩)
    (by kernel_rfl)
#print axioms proved
end Go.Proofs.YtnbpkignkfabkaaGreatDoor.WalExact
