/- WalHurt: for every input the law returns true, and the input reads as it did. Condition: the listed tables are laid as the text says (the card ties them). -/
import Derived.Test.YtnbpkignkfabkaaDoorOpen3
import Derived.Test.YtnbpkignkfabkaaDoorLaid10
import Derived.Test.YtnbpkignkfabkaaDoorHurt
import Derived.Test.YtnbpkignkfabkaaDoorTie
import Derived.Test.YtnbpkignkfabkaaDoorCards
import Derived.SevenTiedAt
namespace Go.Proofs.YtnbpkignkfabkaaDoor.WalHurt
set_option linter.unusedVariables false
set_option linter.unusedSimpArgs false
open Go Go.ChangeShapes Go.WideShapes Go.ChangeAt Go.RowKit

theorem list3 {α : Type} : ∀ {l : List α}, l.length = 3 → ∃ a b c, l = [a, b, c]
  | [a, b, c], _ => ⟨a, b, c, rfl⟩
theorem wf_i64 {i : Int} (wi : (Lit.int .i64 i).wf = true) : -9223372036854775808 ≤ i ∧ i ≤ 9223372036854775807 := by
  simp [Lit.wf, IntKind.min, IntKind.max, IntKind.signed, IntKind.bits] at wi
  exact ⟨by omega, by omega⟩
set_option maxRecDepth 100000 in
theorem lifted (os : Os) (started : os.Started) (H : Type) (enc : TypeId × Value → H) :
    ReturnsInHanded {} Tryd.checked os 6 .any (fun w args => (Rows.walHurtSpec.pre enc Tryd.prog Tryd.f6 [] false w args ∧ laidMetH Tryd.prog laid10 w) ∧ sizedMet enc Tryd.prog Tryd.f6 (OpenSpec.ofChange Rows.walHurtSpec) false w args)
      (Rows.walHurtSpec.post enc Tryd.prog Tryd.f6 false true false false) := by
  refine returnsInHanded_of_change_and (C := Tryd.checked) (X := fun w _ => laidMetH Tryd.prog laid10 w) (fun _ _ _ hh h => h.of_heap hh) own started (by kernel_rfl) Tryd.func6
    (ChangeSpec.witness_shaped (enc := enc) (C := Tryd.checked) (os := os) (X := fun w _ => laidMetH Tryd.prog laid10 w) false (World.laidAll Tryd.prog os laid10) #[.agg #[.slice none 0 0, .int .i64 0, .int .i64 0]] 8 (World.laidAll_os _ _ _) (shaped10 os) (by kernel_rfl) (by kernel_rfl) (by kernel_rfl) (met10 os _)) ?_
  intro W base args ds gs before hval0 hW _ hsz0 hL _
  have hsz : (DataW.weightsEach Tryd.prog (Tryd.f6.params.toList ++ Rows.walHurtSpec.plain.varTypes Tryd.prog) (ds ++ gs)).all (· ≤ reachBytes) = true := hsz0
  have hval : ∀ (j : Nat) t v, Tryd.f6.params[j]? = some t → args[j]? = some v → Value.okWide Tryd.prog W .any base t v := hval0
  have hW' := hW
  obtain ⟨p, q, hA0, hV, rfl, hfz, hnd⟩ := hW
  have hA : DataW.TrodAll enc Tryd.prog W 0 (fun _ => true) true Tryd.f6.params.toList args.toList ds p := hA0
  rw [Tryd.params6] at hA hval hsz
  obtain ⟨v0, d0, hargs, rfl, h0⟩ := trodAll_one hA
  obtain rfl : args = #[v0] := by cases args; simp_all
  obtain ⟨rfl, rfl⟩ := trodVars_none hV
  obtain ⟨ht, hg⟩ := of_laid10 hL
  have k0 := h0
  have lt0 : ∀ x ∈ p, x.block < W.heap.size := by obtain ⟨m, hm⟩ := k0; exact DataW.trod_lt m _ _ _ hm
  have hsm : Small 57 d0 := small_arg hsz (j := 0) (by rfl) (by rfl)
  obtain ⟨cs, rfl, hcz⟩ := okWide_struct Tryd.underlying57 (hval 0 57 v0 rfl rfl)
  rw [show Tryd.prog.cellsOf 57 = 3 by kernel_rfl] at hcz
  obtain ⟨l⟩ := cs
  obtain ⟨c0, c1, c2, rfl⟩ := list3 (show l.length = 3 from hcz)
  obtain ⟨fuel, hf⟩ := h0
  obtain ⟨xs, n', _, hxx, _, hxl, hfs⟩ := DataW.trod_struct Tryd.underlying57 hf
  have e1 : Tryd.prog.cellsOf 22 = 1 := by kernel_rfl
  have e2 : Tryd.prog.cellsOf 3 = 1 := by kernel_rfl
  obtain ⟨y0, y1, y2, rfl⟩ := list3 (show xs.length = 3 from hxl)
  have g0 : DataW.trod enc Tryd.prog W 0 (fun _ => true) true n' 22 [c0] = some y0 := by simpa [e1, Value.cells] using hfs 0 _ rfl
  have g1 : DataW.trod enc Tryd.prog W 0 (fun _ => true) true n' 3 [c1] = some y1 := by simpa [e1, e2, Value.cells] using hfs 1 _ rfl
  have g2 : DataW.trod enc Tryd.prog W 0 (fun _ => true) true n' 3 [c2] = some y2 := by simpa [e1, e2, Value.cells] using hfs 2 _ rfl
  simp only [Prod.mk.injEq] at hxx
  have hsm' := hsm
  rw [hxx.1] at hsm'
  have s0 : Small 22 y0.1 := small_agg Tryd.underlying57 hsm' (j := 0) (by rfl) (by rfl)
  obtain ⟨b0, xss, d0', Af, Cf, rfl, r0, _, l0⟩ := open_rows (d := y0.1) (pl := y0.2) g0 s0
  obtain ⟨i1, z1, z2, z3⟩ := DataW.trod_int Tryd.underlying3 g1
  obtain ⟨i2, z4, z5, z6⟩ := DataW.trod_int Tryd.underlying3 g2
  simp only [List.cons.injEq, and_true] at z1 z4
  subst z1 z4
  clear hA0 hval0 hsz0 hsz
  refine (WalHurt_calls W _ _ xss Af Cf _ _ r0 (by omega) ⟨wf_i64 z3, wf_i64 z6⟩ ht hg).mono fun e W' ⟨he, bel⟩ => ?_
  subst he
  exact ⟨_, rfl, _, _, _, [], _, [], hW', trodAll_mk1 (shut_bool Tryd.underlying4 _), trodAll_mk1 (Below.trod laidOut (by kernel_rfl) (of_decide_eq_true (by kernel_rfl)) k0 bel lt0), rfl, bel.frame _, fun h => by cases h⟩

theorem row : Rows.WalHurtSaid :=
  OpenClaim.holds_of_wide 6 Tryd.f6 rfl rfl rfl rfl rfl rfl rfl ⟨rfl, rfl, rfl, rfl, rfl⟩ rfl rfl rfl rfl rfl (by kernel_rfl) Tryd.func6 (by kernel_rfl)
    (of_decide_eq_true (by kernel_rfl)) (by unfold Func.isWrapper; first | (rw [if_pos (by decide +kernel)]; kernel_rfl) | (rw [if_neg (by decide +kernel)]; exact ⟨rfl, rfl⟩))
    (fun os started H enc _ => lifted os started H enc)
theorem proved : Rows.WalHurtCardSaid :=
  Claim7.holds_tied_plain_at .later [] [.data, .data, .pinned] true (true, "1efa03985ecfe000ad89856ded7401f3b6401c983178e0b1dfe65a35601ff48f") false
    row (fun _ h => by cases h) (by kernel_rfl) (fun _ h => by cases h) walHurt_row_tie rfl ⟨rfl, rfl⟩ (by kernel_rfl) rfl
    (fun f fn hf hfn => by
      obtain rfl : f = 6 := Option.some.inj ((show Tryd.prog.funcNamed "postern/posternlaw10.WalHurt" = some 6 by kernel_rfl).symm.trans hf) |>.symm
      obtain rfl : fn = Tryd.f6 := (Option.some.inj (Tryd.func6.symm.trans hfn)).symm
      exact ⟨by kernel_rfl, fun j t ht => by
        rw [Tryd.params6] at ht
        have hm : t ∈ [57] := by simpa using Array.mem_of_getElem? ht
        have hall : ([57].all fun u => !Tryd.prog.wantsStandIn u) = true := by kernel_rfl
        exact (show Tryd.prog.wantsStandIn t = false by simpa using List.all_eq_true.1 hall t hm)⟩)
    (by kernel_rfl)
#print axioms proved
end Go.Proofs.YtnbpkignkfabkaaDoor.WalHurt
