/- WalApart, in its second form (a condition on the input's bulk, which the proof doesn't use): for every input the law returns true, and the input reads as it did. -/
import Derived.Test.YtnbpkignkfabkaaDoorOpen3
import Derived.Test.YtnbpkignkfabkaaDoorLaid10
import Derived.Test.YtnbpkignkfabkaaDoorApart
import Derived.Deep.Grids
import Derived.Test.YtnbpkignkfabkaaDoorTie
import Derived.Test.YtnbpkignkfabkaaDoorCards
import Derived.SevenTiedAt
import Derived.Deep.DeepHandedRow
namespace Go.Proofs.YtnbpkignkfabkaaDoor.WalApart
set_option linter.unusedVariables false
set_option linter.unusedSimpArgs false
open Go Go.ChangeShapes Go.WideShapes Go.ChangeAt Go.RowKit

theorem list3 {α : Type} : ∀ {l : List α}, l.length = 3 → ∃ a b c, l = [a, b, c]
  | [a, b, c], _ => ⟨a, b, c, rfl⟩
open Go.Deep in
theorem open_bols {H : Type} {enc : TypeId × Value → H} {W : World} {held : Bool} {fuel : Nat} {v : Value} {d : DataW H} {pl : List MemPlace} (h : DataW.trod enc Tryd.prog W 0 (fun _ => true) held fuel 23 [v] = some (d, pl)) (hs : Small 23 d) :
    ∃ a ts cap, v = .slice a ts.length cap ∧ Bol W a ts ∧ ts.length ≤ 140737488351232 := by
  rcases open_bools Tryd.underlying23 Tryd.underlying4 (by kernel_rfl) h with ⟨hcs, _⟩ | ⟨a, len, cap, B, hcs, _, hl, hm, hx, hc⟩
  · simp only [List.cons.injEq, and_true] at hcs
    subst hcs
    exact ⟨none, [], 0, rfl, (fun i hi => absurd hi (Nat.not_lt_zero _)), Nat.zero_le _⟩
  · simp only [List.cons.injEq, and_true] at hcs
    subst hcs
    have hl2 : ((List.range len).map B).length = len := by simp
    simp only [Prod.mk.injEq] at hx
    obtain ⟨rfl, _⟩ := hx
    have hr := (small_slice Tryd.underlying23 (elems := (List.range len).map fun i => .lit (.bool (B i))) (by unfold boolRow at hs; exact hs)).1
    rw [show Tryd.prog.bytesOf 4 = 1 by kernel_rfl] at hr
    have hlen : len ≤ 140737488351232 := by
      have : reachBytes = 140737488351232 := rfl
      simp only [List.length_map, List.length_range] at hr
      omega
    refine ⟨some a, (List.range len).map B, cap, by rw [hl2], ?_, by rw [hl2]; exact hlen⟩
    intro i hi
    rw [hl2] at hi
    have h0 := hc 0 (by omega)
    obtain ⟨b, o, rfl⟩ := addr_plain h0
    have hc' := hc i (by omega)
    rw [Addr.add_lit] at hc'
    refine ⟨b, o, rfl, ?_⟩
    rw [hc']
    simp
set_option maxRecDepth 100000 in
theorem contract (H : Type) (enc : TypeId × Value → H) (W : World) (base : Nat) (args : Array Value) (ds gs : List (DataW H)) (before : List MemPlace)
    (hval0 : ∀ (j : Nat) t v, Tryd.f3.params[j]? = some t → args[j]? = some v → Value.okWide Tryd.prog W .any base t v)
    (hW : DataW.Whole enc Tryd.prog Tryd.f3.params.toList Rows.walApartSpec.vars false W args.toList ds gs before)
    (hsz0 : (DataW.weightsEach Tryd.prog (Tryd.f3.params.toList ++ Rows.walApartSpec.plain.varTypes Tryd.prog) (ds ++ gs)).all (· ≤ reachBytes) = true)
    (hL : laidMetH Tryd.prog laid10 W) :
    Calls Tryd.prog 3 args W fun e W' => ∃ v, e = .returned v ∧ Rows.walApartSpec.post enc Tryd.prog Tryd.f3 false true false false W args v W' := by
  have hsz := hsz0
  have hval := hval0
  have hW' := hW
  obtain ⟨p, q, hA0, hV, rfl, hfz, hnd⟩ := hW
  have hA : DataW.TrodAll enc Tryd.prog W 0 (fun _ => true) true Tryd.f3.params.toList args.toList ds p := hA0
  rw [Tryd.params3] at hA hval hsz
  obtain ⟨v0, d0, hargs, rfl, h0⟩ := trodAll_one hA
  obtain rfl : args = #[v0] := by cases args; simp_all
  obtain ⟨rfl, rfl⟩ := trodVars_none hV
  obtain ⟨ht, hg⟩ := of_laid10 hL
  have k0 := h0
  have lt0 : ∀ x ∈ p, x.block < W.heap.size := by obtain ⟨m, hm⟩ := k0; exact DataW.trod_lt m _ _ _ hm
  have hsm : Small 25 d0 := small_arg hsz (j := 0) (by rfl) (by rfl)
  obtain ⟨cs, rfl, hcz⟩ := okWide_struct Tryd.underlying25 (hval 0 25 v0 rfl rfl)
  rw [show Tryd.prog.cellsOf 25 = 3 by kernel_rfl] at hcz
  obtain ⟨l⟩ := cs
  obtain ⟨c0, c1, c2, rfl⟩ := list3 (show l.length = 3 from hcz)
  obtain ⟨fuel, hf⟩ := h0
  obtain ⟨xs, n', _, hxx, _, hxl, hfs⟩ := DataW.trod_struct Tryd.underlying25 hf
  have e1 : Tryd.prog.cellsOf 22 = 1 := by kernel_rfl
  have e2 : Tryd.prog.cellsOf 23 = 1 := by kernel_rfl
  obtain ⟨y0, y1, y2, rfl⟩ := list3 (show xs.length = 3 from hxl)
  have g0 : DataW.trod enc Tryd.prog W 0 (fun _ => true) true n' 22 [c0] = some y0 := by simpa [e1, Value.cells] using hfs 0 _ rfl
  have g1 : DataW.trod enc Tryd.prog W 0 (fun _ => true) true n' 22 [c1] = some y1 := by simpa [e1, e2, Value.cells] using hfs 1 _ rfl
  have g2 : DataW.trod enc Tryd.prog W 0 (fun _ => true) true n' 23 [c2] = some y2 := by simpa [e1, e2, Value.cells] using hfs 2 _ rfl
  simp only [Prod.mk.injEq] at hxx
  have hsm' := hsm
  rw [hxx.1] at hsm'
  have s0 : Small 22 y0.1 := small_agg Tryd.underlying25 hsm' (j := 0) (by rfl) (by rfl)
  have s1 : Small 22 y1.1 := small_agg Tryd.underlying25 hsm' (j := 1) (by rfl) (by rfl)
  have s2 : Small 23 y2.1 := small_agg Tryd.underlying25 hsm' (j := 2) (by rfl) (by rfl)
  obtain ⟨b0, xss, k0', Af, Cf, rfl, r0, _, l0⟩ := open_rows (d := y0.1) (pl := y0.2) g0 s0
  obtain ⟨b1, yss, k1', Bf, Df, rfl, r1, _, l1⟩ := open_rows (d := y1.1) (pl := y1.2) g1 s1
  obtain ⟨b2, tss, k2', rfl, r2, l2⟩ := open_bols (d := y2.1) (pl := y2.2) g2 s2
  clear hA0 hval0 hsz0 hsz
  refine (WalApart_calls W _ _ _ _ _ _ xss Af Cf yss Bf Df tss r0 r1 r2 (by omega) (by omega) (by omega) ht hg).mono fun e W' ⟨he, bel⟩ => ?_
  subst he
  exact ⟨_, rfl, _, _, _, [], _, [], hW', trodAll_mk1 (shut_bool Tryd.underlying4 _), trodAll_mk1 (Below.trod laidOut (by kernel_rfl) (of_decide_eq_true (by kernel_rfl)) k0 bel lt0), rfl, bel.frame _, fun h => by cases h⟩
theorem reads (os : Os) {H : Type} (enc : TypeId × Value → H) : ∃ places, DataW.whole enc Tryd.prog ((World.laidAll Tryd.prog os laid10).forCall (fun _ _ => 0) ⟨#[], #[.agg #[.slice none 0 0, .slice none 0 0, .slice none 0 0]], []⟩).memory Tryd.f3.params.toList Rows.walApartSpec.vars false #[Value.agg #[.slice none 0 0, .slice none 0 0, .slice none 0 0]].toList 8 = some ([.agg [.nil, .nil, .nil]], [], places) :=
  ⟨[], by kernel_rfl⟩
set_option maxRecDepth 100000 in
theorem lifted (os : Os) (started : os.Started) (H : Type) (enc : TypeId × Value → H) (I : Stop.Interp) :
    ReturnsInHanded {} Tryd.checked os 3 .any ((Rows.OpenSpec.upto Rows.walApartSpec).preRow enc Tryd.prog Tryd.f3 Rows.walApartUptoRow.domain false Rows.walApartUptoRow.laid) (((Rows.OpenSpec.upto Rows.walApartSpec).at I).post enc Tryd.prog Tryd.f3 false true false false) := by
  obtain ⟨places, hx⟩ := reads os enc
  have hok : Input.okWideB Tryd.prog ((World.laidAll Tryd.prog os laid10).forCall (fun _ _ => 0) ⟨#[], #[.agg #[.slice none 0 0, .slice none 0 0, .slice none 0 0]], []⟩) 3 ⟨#[], #[.agg #[.slice none 0 0, .slice none 0 0, .slice none 0 0]], []⟩ = true := by kernel_rfl
  refine returnsInHanded_of_row (C := Tryd.checked) (s := Rows.OpenSpec.upto Rows.walApartSpec) own started (by kernel_rfl) Tryd.func3
    ⟨World.laidAll Tryd.prog os laid10, fun _ _ => 0, ⟨#[], #[.agg #[.slice none 0 0, .slice none 0 0, .slice none 0 0]], []⟩, World.laidAll_os _ _ _, shaped10 os, (Input.okWide_of_okWideB (base := 0) hok).1, (Input.okWide_of_okWideB hok).2,
      OpenSpec.preRow_of_cond 8 hx (by kernel_rfl) (fun k hk => by cases hk; kernel_rfl) (by kernel_rfl) (met10 os _), by
        simp only [Assume.holds]
        exact ⟨by simp, by simp, fun _ => Modest.zero, by simp, by simp⟩⟩ ?_
  intro W base args ds gs before hval hW _ _ hsz hL _ _
  exact contract H enc W base args ds gs before hval hW hsz hL

theorem row : Rows.WalApartUptoSaid :=
  OpenClaim.holds_of_cond 3 Tryd.f3 rfl rfl rfl rfl rfl rfl rfl ⟨rfl, rfl, rfl, rfl, rfl⟩ rfl rfl rfl rfl rfl (by kernel_rfl) Tryd.func3 (by kernel_rfl)
    (of_decide_eq_true (by kernel_rfl)) (by unfold Func.isWrapper; first | (rw [if_pos (by decide +kernel)]; kernel_rfl) | (rw [if_neg (by decide +kernel)]; exact ⟨rfl, rfl⟩))
    (fun os started H enc _ I => by rw [OpenClaim.pre_eq_preRow]; exact lifted os started H enc I)
theorem proved : Rows.WalApartUptoCardSaid :=
  Claim7.holds_tied_plain_at .later [] _ _ _ _
    row (fun _ h => by cases h) (by kernel_rfl) (fun _ h => by cases h) walApartUpto_row_tie rfl ⟨rfl, rfl⟩ (by kernel_rfl) rfl
    (fun f fn hf hfn => by
      obtain rfl : f = 3 := Option.some.inj ((show Tryd.prog.funcNamed "postern/posternlaw10.WalApart" = some 3 by kernel_rfl).symm.trans hf) |>.symm
      obtain rfl : fn = Tryd.f3 := (Option.some.inj (Tryd.func3.symm.trans hfn)).symm
      exact ⟨by kernel_rfl, fun j t ht => by
        rw [Tryd.params3] at ht
        have hm : t ∈ [25] := by simpa using Array.mem_of_getElem? ht
        have hall : ([25].all fun u => !Tryd.prog.wantsStandIn u) = true := by kernel_rfl
        exact (show Tryd.prog.wantsStandIn t = false by simpa using List.all_eq_true.1 hall t hm)⟩)
    (by kernel_rfl)
#print axioms proved
end Go.Proofs.YtnbpkignkfabkaaDoor.WalApart
