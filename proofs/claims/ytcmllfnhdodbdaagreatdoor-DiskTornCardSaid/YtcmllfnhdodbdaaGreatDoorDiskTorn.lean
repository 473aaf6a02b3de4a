/- DiskTorn: for every input the law returns true, and the input reads as it did. Condition: the two tables of unicode/utf8 are laid as the library's text says (the card ties them); the proof reads neither. -/
import Derived.Test.YtcmllfnhdodbdaaGreatDoorLaid9
import Derived.Test.YtcmllfnhdodbdaaGreatDoorOpen9
import Derived.Test.YtcmllfnhdodbdaaGreatDoorDTorn
import Derived.Test.YtcmllfnhdodbdaaGreatDoorTie
import Derived.Test.YtcmllfnhdodbdaaGreatDoorCards
import Derived.SevenTiedAt
namespace Go.Proofs.YtcmllfnhdodbdaaGreatDoor
set_option linter.unusedVariables false
set_option linter.unusedSimpArgs false
open Go.ChangeShapes Go.WideShapes Go.ChangeAt Go.RowKit Go.Deep
set_option maxRecDepth 100000 in
/-- A room, ops, which one is torn, what it keeps, ops, opened. -/
theorem open_torn9 {H : Type} {enc : TypeId × Value → H} {W : World} {held : Bool} {fuel : Nat} {cs : List Value} {y : DataW H × List MemPlace} (h : DataW.trod enc Tryz.prog W 0 (fun _ => true) held fuel 24 cs = some y) (hcl : cs.length = 5) (hsi : Small 24 y.1) : ∃ r0 pn keep pa L cap pb L2 cap2, cs = [.int .i64 r0, .slice pa L.length cap, .int .i64 pn, .int .i64 keep, .slice pb L2.length cap2] ∧ Ops9 W pa L ∧ L.length ≤ 140737488351232 ∧ Ops9 W pb L2 ∧ L2.length ≤ 140737488351232 ∧ (-9223372036854775808 ≤ r0 ∧ r0 ≤ 9223372036854775807) ∧ (-9223372036854775808 ≤ pn ∧ pn ≤ 9223372036854775807) := by
  obtain ⟨xs, n', _, hxx, _, hxl, hf⟩ := DataW.trod_struct Tryz.underlying24 h
  have e2 : Tryz.prog.cellsOf 3 = 1 := by kernel_rfl
  have e3 : Tryz.prog.cellsOf 22 = 1 := by kernel_rfl
  obtain ⟨c0, c1, c2, c3, c4, rfl⟩ := list5 hcl
  obtain ⟨y0, y1, y2, y3, y4, rfl⟩ := list5 (show xs.length = 5 from hxl)
  have g0 : DataW.trod enc Tryz.prog W 0 (fun _ => true) held n' 3 [c0] = some y0 := by simpa [e2, e3] using hf 0 _ rfl
  have g1 : DataW.trod enc Tryz.prog W 0 (fun _ => true) held n' 22 [c1] = some y1 := by simpa [e2, e3] using hf 1 _ rfl
  have g2 : DataW.trod enc Tryz.prog W 0 (fun _ => true) held n' 3 [c2] = some y2 := by simpa [e2, e3] using hf 2 _ rfl
  have g3 : DataW.trod enc Tryz.prog W 0 (fun _ => true) held n' 3 [c3] = some y3 := by simpa [e2, e3] using hf 3 _ rfl
  have g4 : DataW.trod enc Tryz.prog W 0 (fun _ => true) held n' 22 [c4] = some y4 := by simpa [e2, e3] using hf 4 _ rfl
  rw [hxx] at hsi
  have s1 : Small 22 y1.1 := small_agg Tryz.underlying24 hsi (j := 1) (by rfl) (by rfl)
  have s4 : Small 22 y4.1 := small_agg Tryz.underlying24 hsi (j := 4) (by rfl) (by rfl)
  obtain ⟨pa, L, cap, rfl, ho, hl⟩ := open_ops9 (d := y1.1) (pl := y1.2) g1 s1
  obtain ⟨pb, L2, cap2, rfl, ho2, hl2⟩ := open_ops9 (d := y4.1) (pl := y4.2) g4 s4
  obtain ⟨z0, q0, _, w0⟩ := DataW.trod_int Tryz.underlying3 g0
  obtain ⟨z2, q2, _, w2⟩ := DataW.trod_int Tryz.underlying3 g2
  obtain ⟨z3, q3, _, _⟩ := DataW.trod_int Tryz.underlying3 g3
  simp only [List.cons.injEq, and_true] at q0 q2 q3
  subst q0 q2 q3
  exact ⟨z0, z2, z3, pa, L, cap, pb, L2, cap2, rfl, ho, hl, ho2, hl2, i64_of_wf w0, i64_of_wf w2⟩
end Go.Proofs.YtcmllfnhdodbdaaGreatDoor
namespace Go.Proofs.YtcmllfnhdodbdaaGreatDoor.DiskTorn
open Go Go.ChangeShapes Go.WideShapes Go.ChangeAt Go.RowKit

set_option maxRecDepth 100000 in
theorem lifted (os : Os) (started : os.Started) (H : Type) (enc : TypeId × Value → H) :
    ReturnsInHanded {} Tryz.checked os 3 .any (fun w args => (Rows.diskTornSpec.pre enc Tryz.prog Tryz.f3 [] false w args ∧ laidMetH Tryz.prog laid9 w) ∧ sizedMet enc Tryz.prog Tryz.f3 (OpenSpec.ofChange Rows.diskTornSpec) false w args)
      (Rows.diskTornSpec.post enc Tryz.prog Tryz.f3 false true false false) := by
  refine returnsInHanded_of_change_and (C := Tryz.checked) (X := fun w _ => laidMetH Tryz.prog laid9 w) (fun _ _ _ hh h => h.of_heap hh) own started (by kernel_rfl) Tryz.func3
    (ChangeSpec.witness_shaped (enc := enc) (C := Tryz.checked) (os := os) (X := fun w _ => laidMetH Tryz.prog laid9 w) false (World.laidAll Tryz.prog os laid9) #[.agg #[.int .i64 0, .slice none 0 0, .int .i64 0, .int .i64 0, .slice none 0 0]] 8 (World.laidAll_os _ _ _) (shaped9 os) (by kernel_rfl) (by kernel_rfl) (by kernel_rfl) (met9 os _)) ?_
  intro W base args ds gs before hval0 hW _ hsz0 hL _
  have hsz : (DataW.weightsEach Tryz.prog (Tryz.f3.params.toList ++ Rows.diskTornSpec.plain.varTypes Tryz.prog) (ds ++ gs)).all (· ≤ reachBytes) = true := hsz0
  have hval : ∀ (j : Nat) t v, Tryz.f3.params[j]? = some t → args[j]? = some v → Value.okWide Tryz.prog W .any base t v := hval0
  have hW' := hW
  obtain ⟨p, q, hA0, hV, rfl, hfz, hnd⟩ := hW
  have hA : DataW.TrodAll enc Tryz.prog W 0 (fun _ => true) true Tryz.f3.params.toList args.toList ds p := hA0
  rw [Tryz.params3] at hA hval hsz
  obtain ⟨v0, d0, hargs, rfl, h0⟩ := trodAll_one hA
  obtain rfl : args = #[v0] := by cases args; simp_all
  obtain ⟨rfl, rfl⟩ := trodVars_none hV
  have k0 := h0
  have lt0 : ∀ x ∈ p, x.block < W.heap.size := by obtain ⟨m, hm⟩ := k0; exact DataW.trod_lt m _ _ _ hm
  have hsm : Small 24 d0 := small_arg hsz (j := 0) (by rfl) (by rfl)
  obtain ⟨cs, rfl, hcz⟩ := okWide_struct Tryz.underlying24 (hval 0 24 v0 rfl rfl)
  rw [show Tryz.prog.cellsOf 24 = 5 by kernel_rfl] at hcz
  obtain ⟨l⟩ := cs
  obtain ⟨fuel, hf⟩ := h0
  obtain ⟨r0, pn, keep, pa, L, cap, pb, L2, cap2, hl, ho, hlen, ho2, hlen2, hr, hn⟩ := open_torn9 (cs := l) hf hcz hsm
  subst hl
  clear hA0 hval0 hsz0 hsz
  refine (DiskTorn_calls W r0 pn keep pa pb cap cap2 L L2 ho ho2 (by omega) (by omega) hr.1 hr.2 hn.1 hn.2).mono fun e W' ⟨he, bel⟩ => ?_
  subst he
  exact ⟨_, rfl, _, _, _, [], _, [], hW', trodAll_mk1 (shut_bool Tryz.underlying4 _), trodAll_mk1 (Below.trod laidOut (by kernel_rfl) (of_decide_eq_true (by kernel_rfl)) k0 bel lt0), rfl, bel.frame _, fun h => by cases h⟩

theorem row : Rows.DiskTornSaid :=
  OpenClaim.holds_of_wide 3 Tryz.f3 rfl rfl rfl rfl rfl rfl rfl ⟨rfl, rfl, rfl, rfl, rfl⟩ rfl rfl rfl rfl rfl (by kernel_rfl) Tryz.func3 (by kernel_rfl)
    (of_decide_eq_true (by kernel_rfl)) (by unfold Func.isWrapper; first | (rw [if_pos (by decide +kernel)]; kernel_rfl) | (rw [if_neg (by decide +kernel)]; exact ⟨rfl, rfl⟩))
    (fun os started H enc _ => lifted os started H enc)
theorem proved : Rows.DiskTornCardSaid :=
  Claim7.holds_tied_plain_at .later [] [.data, .pinned] true (true, "4d6e76f9a00a0d8f5a8e69c0b3bb3a971979ec7192299326725502e4e034dbea") false
    row (fun _ h => by cases h) (by kernel_rfl) (fun _ h => by cases h) diskTorn_row_tie rfl ⟨rfl, rfl⟩ (by kernel_rfl) rfl
    (fun f fn hf hfn => by
      obtain rfl : f = 3 := Option.some.inj ((show Tryz.prog.funcNamed "postern/posternlaw9.DiskTorn" = some 3 by kernel_rfl).symm.trans hf) |>.symm
      obtain rfl : fn = Tryz.f3 := (Option.some.inj (Tryz.func3.symm.trans hfn)).symm
      exact ⟨by kernel_rfl, fun j t ht => by
        rw [Tryz.params3] at ht
        have hm : t ∈ [24] := by simpa using Array.mem_of_getElem? ht
        have hall : ([24].all fun u => !Tryz.prog.wantsStandIn u) = true := by kernel_rfl
        exact (show Tryz.prog.wantsStandIn t = false by simpa using List.all_eq_true.1 hall t hm)⟩)
    (by kernel_rfl)
#print axioms proved
end Go.Proofs.YtcmllfnhdodbdaaGreatDoor.DiskTorn
