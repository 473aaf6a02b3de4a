/- FrameExact: for every input the law returns true, and the input reads as it did. Condition: the table of record is laid as the text says (the card ties it). -/
import Derived.Test.YtjiciklnhcmfaaaDoorOpen
import Derived.Test.YtjiciklnhcmfaaaDoorFrEx
import Derived.Test.YtjiciklnhcmfaaaDoorOpen3
import Derived.Test.YtjiciklnhcmfaaaDoorTie
import Derived.Test.YtjiciklnhcmfaaaDoorCards
import Derived.SevenTiedAt
namespace Go.Proofs.YtjiciklnhcmfaaaDoor.FrameExact
set_option linter.unusedVariables false
set_option linter.unusedSimpArgs false
open Go Go.ChangeShapes Go.WideShapes Go.ChangeAt Go.RowKit

theorem list2 {α : Type} : ∀ {l : List α}, l.length = 2 → ∃ a b, l = [a, b]
  | [a, b], _ => ⟨a, b, rfl⟩
set_option maxRecDepth 100000 in
theorem lifted (os : Os) (started : os.Started) (H : Type) (enc : TypeId × Value → H) :
    ReturnsInHanded {} Tryd.checked os 3 .any (fun w args => (Rows.frameExactSpec.pre enc Tryd.prog Tryd.f3 [] false w args ∧ laidMetH Tryd.prog laidL w) ∧ sizedMet enc Tryd.prog Tryd.f3 (OpenSpec.ofChange Rows.frameExactSpec) false w args)
      (Rows.frameExactSpec.post enc Tryd.prog Tryd.f3 false true false false) := by
  refine returnsInHanded_of_change_and (C := Tryd.checked) (X := fun w _ => laidMetH Tryd.prog laidL w) (fun _ _ _ hh h => h.of_heap hh) own started (by kernel_rfl) Tryd.func3
    (ChangeSpec.witness_shaped (enc := enc) (C := Tryd.checked) (os := os) (X := fun w _ => laidMetH Tryd.prog laidL w) false (World.doorLaid Tryd.prog 400 os) #[.agg #[.slice none 0 0, .slice none 0 0]] 8 rfl (World.shaped_of_RefB (by kernel_rfl) (by kernel_rfl)) (by kernel_rfl) (by kernel_rfl) (by kernel_rfl) (door_met os _)) ?_
  intro W base args ds gs before hval0 hW _ hsz0 hL _
  have hsz : (DataW.weightsEach Tryd.prog (Tryd.f3.params.toList ++ Rows.frameExactSpec.plain.varTypes Tryd.prog) (ds ++ gs)).all (· ≤ reachBytes) = true := hsz0
  have hval : ∀ (j : Nat) t v, Tryd.f3.params[j]? = some t → args[j]? = some v → Value.okWide Tryd.prog W .any base t v := hval0
  have hW' := hW
  obtain ⟨p, q, hA0, hV, rfl, hfz, hnd⟩ := hW
  have hA : DataW.TrodAll enc Tryd.prog W 0 (fun _ => true) true Tryd.f3.params.toList args.toList ds p := hA0
  rw [Tryd.params3] at hA hval hsz
  obtain ⟨v0, d0, hargs, rfl, h0⟩ := trodAll_one hA
  obtain rfl : args = #[v0] := by cases args; simp_all
  obtain ⟨rfl, rfl⟩ := trodVars_none hV
  obtain ⟨ht, hg⟩ := of_laid hL
  have k0 := h0
  have lt0 : ∀ x ∈ p, x.block < W.heap.size := by obtain ⟨m, hm⟩ := k0; exact DataW.trod_lt m _ _ _ hm
  have hsm : Small 24 d0 := small_arg hsz (j := 0) (by rfl) (by rfl)
  obtain ⟨cs, rfl, hcz⟩ := okWide_struct Tryd.underlying24 (hval 0 24 v0 rfl rfl)
  rw [show Tryd.prog.cellsOf 24 = 2 by kernel_rfl] at hcz
  obtain ⟨l⟩ := cs
  obtain ⟨c0, c1, rfl⟩ := list2 (show l.length = 2 from hcz)
  obtain ⟨fuel, hf⟩ := h0
  obtain ⟨xs, n', _, hxx, _, hxl, hfs⟩ := DataW.trod_struct Tryd.underlying24 hf
  have e1 : Tryd.prog.cellsOf 22 = 1 := by kernel_rfl
  obtain ⟨y0, y1, rfl⟩ := list2 (show xs.length = 2 from hxl)
  have g0 : DataW.trod enc Tryd.prog W 0 (fun _ => true) true n' 22 [c0] = some y0 := by simpa [e1, Value.cells] using hfs 0 _ rfl
  have g1 : DataW.trod enc Tryd.prog W 0 (fun _ => true) true n' 22 [c1] = some y1 := by simpa [e1, Value.cells] using hfs 1 _ rfl
  simp only [Prod.mk.injEq] at hxx
  have hsm' := hsm
  rw [hxx.1] at hsm'
  have s0 : Small 22 y0.1 := small_agg Tryd.underlying24 hsm' (j := 0) (by rfl) (by rfl)
  have s1 : Small 22 y1.1 := small_agg Tryd.underlying24 hsm' (j := 1) (by rfl) (by rfl)
  obtain ⟨b0, xss, d0', Af, Cf, rfl, r0, _, l0⟩ := open_rows (d := y0.1) (pl := y0.2) g0 s0
  obtain ⟨b1, yss, d1', Bf, Df, rfl, r1, _, l1⟩ := open_rows (d := y1.1) (pl := y1.2) g1 s1
  clear hA0 hval0 hsz0 hsz
  refine (FrameExact_calls W _ _ _ _ xss yss Af Bf Cf Df r0 r1 l0 l1 ht hg).mono fun e W' ⟨he, bel⟩ => ?_
  subst he
  exact ⟨_, rfl, _, _, _, [], _, [], hW', trodAll_mk1 (shut_bool Tryd.underlying4 _), trodAll_mk1 (Below.trod laidOut (by kernel_rfl) (of_decide_eq_true (by kernel_rfl)) k0 bel lt0), rfl, bel.frame _, fun h => by cases h⟩

theorem row : Rows.FrameExactSaid :=
  OpenClaim.holds_of_wide 3 Tryd.f3 rfl rfl rfl rfl rfl rfl rfl ⟨rfl, rfl, rfl, rfl, rfl⟩ rfl rfl rfl rfl rfl (by kernel_rfl) Tryd.func3 (by kernel_rfl)
    (of_decide_eq_true (by kernel_rfl)) (by unfold Func.isWrapper; first | (rw [if_pos (by decide +kernel)]; kernel_rfl) | (rw [if_neg (by decide +kernel)]; exact ⟨rfl, rfl⟩))
    (fun os started H enc _ => lifted os started H enc)
theorem proved : Rows.FrameExactCardSaid :=
  Claim7.holds_tied_plain_at .later [] [.data] true (true, "b0589f33d6814f5340a70408eb26a533be307ff17b35c52bbcb1b7a43d72c8ef") false
    row (fun _ h => by cases h) (by kernel_rfl) (fun _ h => by cases h) frameExact_row_tie rfl ⟨rfl, rfl⟩ (by kernel_rfl) rfl
    (fun f fn hf hfn => by
      obtain rfl : f = 3 := Option.some.inj ((show Tryd.prog.funcNamed "postern/posternlaw3.FrameExact" = some 3 by kernel_rfl).symm.trans hf) |>.symm
      obtain rfl : fn = Tryd.f3 := (Option.some.inj (Tryd.func3.symm.trans hfn)).symm
      exact ⟨by kernel_rfl, fun j t ht => by
        rw [Tryd.params3] at ht
        have hm : t ∈ [24] := by simpa using Array.mem_of_getElem? ht
        have hall : ([24].all fun u => !Tryd.prog.wantsStandIn u) = true := by kernel_rfl
        exact (show Tryd.prog.wantsStandIn t = false by simpa using List.all_eq_true.1 hall t hm)⟩)
    (by kernel_rfl)
#print axioms proved
end Go.Proofs.YtjiciklnhcmfaaaDoor.FrameExact
