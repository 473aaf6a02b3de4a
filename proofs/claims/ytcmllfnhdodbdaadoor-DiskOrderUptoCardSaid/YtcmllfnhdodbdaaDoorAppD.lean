/- disk.Append's closures: all of it, a part of it. -/
import Derived.Test.YtcmllfnhdodbdaaDoorAppC
namespace Go.Proofs.YtcmllfnhdodbdaaDoor
set_option linter.unusedVariables false
set_option linter.unusedSimpArgs false
open Go.RowKit Go.Maps
/-- The variables that Append's closures have captured. -/
structure Cap (w : World) (db mb : Nat) (L : List Fl) (nm : List UInt8) (wa da na : Nat) : Prop where
  hw : w.cell? ⟨wa, 0, none⟩ = some (valF L nm)
  hd : w.cell? ⟨da, 0, none⟩ = some (.pointer (some ⟨db, 0, none⟩))
  hn : w.cell? ⟨na, 0, none⟩ = some (.string ⟨nm.toArray⟩)
  nd : ¬ DkF db mb L da
  nn : ¬ DkF db mb L na
  nw : ¬ DkF db mb L wa
def layV (wa da na : Nat) : Value := .func (.func 32) #[] #[.pointer (some ⟨wa, 0, none⟩), .pointer (some ⟨da, 0, none⟩), .pointer (some ⟨na, 0, none⟩)]
set_option maxRecDepth 100000 in
set_option maxHeartbeats 2000000 in
theorem all_calls (base db mb : Nat) (m : Int) (k : DkV) (L : List Fl) (D : DataW Value) (nm b : List UInt8) (ba : Option Addr) (bc wa da na la bp : Nat) (w : World) (h : Dsk w base db mb m k L D) (hc : Cap w db mb L nm wa da na) (hb : Byt w ba b)
    (hla : w.cell? ⟨la, 0, none⟩ = some (layV wa da na)) (hbp : w.cell? ⟨bp, 0, none⟩ = some (.slice ba b.length bc))
    (hnm : nm.length ≤ 140737488351232) (hL : L.length ≤ 1000) (hlen : (bytF L nm).length + b.length ≤ 140737488355328) (hu : -4611686018427387904 ≤ k.used ∧ k.used ≤ 4611686018427387904) :
    Calls Tryd.prog 34 #[.pointer (some ⟨la, 0, none⟩), .pointer (some ⟨bp, 0, none⟩)] w fun r w' => r = .returned (.tuple #[]) ∧ LayF w w' base db mb m k L D nm b := by
  have LC := Lib.hid (layC_calls base db mb m k L D nm b ba bc wa da na w h hb hc.hw hc.hd hc.hn hc.nd hc.nn hc.nw hnm hL hlen hu)
  unfold layV at hla
  clear h hc hb hnm hL hlen hu
  go_enter Tryd.func34, Tryd.ntmps34
  go_wp2_with fail
  refine LC.out.mono ?_
  rintro r w1 ⟨rfl, hq⟩
  have HQ := Lib.hid hq
  clear hq
  go_wp2
  go_end0
  exact ⟨rfl, HQ.out⟩
/-- A call of a function value with one argument, as a step of a region. -/
theorem step_callv1 {P : Program} {ops : Array Oper} {o : Oper} {a : Act} {w : World} {K : Act → World → Prop} {Q : Exit → Act → World → Prop} {E : Prop} (hgd : Region.wanted o (yielded ops a.tmps) = true) {f : FuncId} {cap : Array Value} {fo x : Operand} {ts : Array TypeId}
    (hop : o.op = Op.call { callee := Callee.value fo, args := #[x], argTypes := ts }) (hf : a.eval fo = .func (.func f) #[] cap) {v : Value} (hv : a.eval x = v) {vals : Array Value} (hvals : #[v] ++ cap = vals) (hen : ∀ w' : World, (callFunc f vals).run P w' = .ok (.enter f vals) w')
    {R : Ending → World → Prop} (hc : Calls P f vals w R) (h : ∀ e w', R e w' → ∃ v, e = .returned v ∧ K (a.put o.dst v) w') :
    if Region.wanted o (yielded ops a.tmps) = true then Oper.wp P o a w K Q else E := by
  rw [if_pos hgd]
  have e1 : (execOp a.eval o).run P w = .ok (.enter f vals) w := by
    unfold execOp
    simp [hop, resolve, hf, hv, Deferred.ofValue, invoke, hvals, hen, Result.andThen]
  unfold Oper.wp
  rw [e1]
  show Calls P f vals w _
  refine hc.mono fun e w' hr => ?_
  obtain ⟨v, rfl, hk⟩ := h e w' hr
  exact hk
/-- So many bytes are kept. -/
def kept (b : List UInt8) (keep : Int) : List UInt8 := b.take (max 0 (min keep b.length)).toNat
theorem LayF.drewN {w w' : World} {n base db mb : Nat} {m : Int} {k : DkV} {L : List Fl} {D : DataW Value} {nm b : List UInt8} (h : LayF (w.drewN n) w' base db mb m k L D nm b) : LayF w w' base db mb m k L D nm b := by
  obtain ⟨a, c, h1, h2, h3⟩ := h
  exact ⟨a, c, h1, ⟨h2.os, h2.tape, h2.output, h2.size, h2.block⟩, h3⟩
theorem LayF.drew {w w' : World} {base db mb : Nat} {m : Int} {k : DkV} {L : List Fl} {D : DataW Value} {nm b : List UInt8} (h : LayF w.drew w' base db mb m k L D nm b) : LayF w w' base db mb m k L D nm b := by
  obtain ⟨a, c, h1, h2, h3⟩ := h
  exact ⟨a, c, h1, ⟨h2.os, h2.tape, h2.output, h2.size, h2.block⟩, h3⟩
set_option maxRecDepth 100000 in
set_option maxHeartbeats 2000000 in
theorem part_no (keep : Int) (la bp tp : Nat) (w : World) (htp : w.cell? ⟨tp, 0, none⟩ = some (.bool false)) (hk : ¬ 0 < keep) :
    Calls Tryd.prog 35 #[.int .i64 keep, .pointer (some ⟨tp, 0, none⟩), .pointer (some ⟨la, 0, none⟩), .pointer (some ⟨bp, 0, none⟩)] w fun r w' => r = .returned (.tuple #[]) ∧ w = w' := by
  have t1 : decide (0 < keep) = false := decide_eq_false hk
  go_enter Tryd.func35, Tryd.ntmps35
  go_wp2
  go_end0
  exact ⟨rfl, rfl⟩
set_option maxRecDepth 100000 in
set_option maxHeartbeats 2000000 in
theorem part_yes (base db mb : Nat) (m : Int) (k : DkV) (L : List Fl) (D : DataW Value) (nm b : List UInt8) (keep : Int) (ba : Option Addr) (bc wa da na la bp tp : Nat) (there : Bool) (w : World) (h : Dsk w base db mb m k L D) (hc : Cap w db mb L nm wa da na) (hb : Byt w ba b)
    (hla : w.cell? ⟨la, 0, none⟩ = some (layV wa da na)) (hbp : w.cell? ⟨bp, 0, none⟩ = some (.slice ba b.length bc)) (htp : w.cell? ⟨tp, 0, none⟩ = some (.bool there)) (hbc : b.length ≤ bc) (hb63 : b.length ≤ 140737488355328) (hor : there = true ∨ 0 < keep) (nla : ¬ DkF db mb L la) (nbp : ¬ DkF db mb L bp)
    (hnm : nm.length ≤ 140737488351232) (hL : L.length ≤ 1000) (hlen : (bytF L nm).length + b.length ≤ 140737488355328) (hu : -4611686018427387904 ≤ k.used ∧ k.used ≤ 4611686018427387904) :
    Calls Tryd.prog 35 #[.int .i64 keep, .pointer (some ⟨tp, 0, none⟩), .pointer (some ⟨la, 0, none⟩), .pointer (some ⟨bp, 0, none⟩)] w fun r w' => r = .returned (.tuple #[]) ∧ LayF w w' base db mb m k L D nm (kept b keep) := by
  obtain ⟨x, hx⟩ : ∃ x : Int, max 0 (min keep b.length) = x := ⟨_, rfl⟩
  have hx0 : 0 ≤ x := by omega
  have hx1 : x ≤ b.length := by omega
  have LC := fun (w0 : World) (hw0 : Below w.heap.size w w0) => layC_calls base db mb m k L D nm (b.take x.toNat) ba bc wa da na w0 (h.below hw0) ((hb.below hw0).take x.toNat) ((hw0.cell (World.block_lt_of_cell? _ _ hc.hw)).trans hc.hw) ((hw0.cell (World.block_lt_of_cell? _ _ hc.hd)).trans hc.hd) ((hw0.cell (World.block_lt_of_cell? _ _ hc.hn)).trans hc.hn) hc.nd hc.nn hc.nw hnm hL (by rw [List.length_take]; omega) hu
  have e1 : (b.take x.toNat).length = x.toNat := by rw [List.length_take]; omega
  rw [e1, ← hx] at LC
  have LCH := Lib.hid LC
  have VF := (h.fls.val_own nm).2.2
  have KEEP := Lib.hid (fun (w0 w4 : World) (hb0 : Below w.heap.size w w0) (bb : List UInt8) (hq : LayF w0 w4 base db mb m k L D nm bb) (p : Nat) (y : Value) (hp : w.cell? ⟨p, 0, none⟩ = some y) (np : ¬ DkF db mb L p) => show w4.cell? ⟨p, 0, none⟩ = some y from by
    obtain ⟨_, _, _, hu, _⟩ := hq
    have h0 := (hb0.cell (p := ⟨p, 0, none⟩) (World.block_lt_of_cell? _ _ hp)).trans hp
    exact hu.cell' h0 (fun s => np (by
      rcases s with s | s | s
      · exact .inl s
      · exact .inr (.inl s)
      · exact .inr (VF p s))))
  have NLA := Lib.hid nla; have NBP := Lib.hid nbp
  have bx0 : 0 ≤ max 0 (min keep (b.length : Int)) := by omega
  have bx1 : max 0 (min keep (b.length : Int)) ≤ (b.length : Int) := by omega
  have bx2 : max 0 (min keep (b.length : Int)) ≤ (bc : Int) := by omega
  have KX : Hid (kept b keep = b.take x.toNat) := by show _ = _; unfold kept; rw [hx]
  rw [KX.out]
  have HX := Lib.hid hx
  have c2 : w.cell? ⟨la, 0, none⟩ = some (layV wa da na) := hla
  unfold layV at c2
  rw [← hx] at KX ⊢
  clear h hc hla hnm hL hlen hu LC e1 hx hx0 hx1 VF nla nbp
  clear x HX hb
  have hbcI : (b.length : Int) ≤ (bc : Int) := by omega
  cases there with
  | true =>
    clear hor
    go_enter Tryd.func35, Tryd.ntmps35
    go_wp2_with fail
    go_region_held3 (fun w' => w'.cell? ⟨la, 0, none⟩ = some (.func (.func 32) #[] #[.pointer (some ⟨wa, 0, none⟩), .pointer (some ⟨da, 0, none⟩), .pointer (some ⟨na, 0, none⟩)]) ∧ w'.cell? ⟨bp, 0, none⟩ = some (.slice ba b.length bc))
      (first
        | go_keep)
      ((refine step_callv1 (by rfl) (f := 32) (by rfl) (by rfl) (v := .slice ba (max 0 (min keep (b.length : Int))).toNat bc) (by rfl) (by rfl) (Tryd.call32 _) (LCH.out _ (bel_drewN (Below.refl _ _) 1)) ?_; rintro e4 w4 ⟨rfl, hq4⟩; refine ⟨_, rfl, ?_⟩; have y1 := KEEP.out _ w4 (bel_drewN (Below.refl _ _) 1) _ hq4 la _ c2 NLA.out; have y2 := KEEP.out _ w4 (bel_drewN (Below.refl _ _) 1) _ hq4 bp _ hbp NBP.out; have Q4 := Lib.hid hq4; clear hq4))
    all_goals
      go_wp2
      go_end0
      exact ⟨rfl, by first | exact Q4.out.drewN | exact Q4.out.drew⟩
  | false =>
    have hk : 0 < keep := by rcases hor with h | h; cases h; exact h
    have t1 : decide (0 < keep) = true := decide_eq_true hk
    clear hor
    go_enter Tryd.func35, Tryd.ntmps35
    go_wp2_with fail
    go_region_held3 (fun w' => w'.cell? ⟨la, 0, none⟩ = some (.func (.func 32) #[] #[.pointer (some ⟨wa, 0, none⟩), .pointer (some ⟨da, 0, none⟩), .pointer (some ⟨na, 0, none⟩)]) ∧ w'.cell? ⟨bp, 0, none⟩ = some (.slice ba b.length bc))
      (first
        | go_keep)
      ((refine step_callv1 (by rfl) (f := 32) (by rfl) (by rfl) (v := .slice ba (max 0 (min keep (b.length : Int))).toNat bc) (by rfl) (by rfl) (Tryd.call32 _) (LCH.out _ (bel_drewN (Below.refl _ _) 1)) ?_; rintro e4 w4 ⟨rfl, hq4⟩; refine ⟨_, rfl, ?_⟩; have y1 := KEEP.out _ w4 (bel_drewN (Below.refl _ _) 1) _ hq4 la _ c2 NLA.out; have y2 := KEEP.out _ w4 (bel_drewN (Below.refl _ _) 1) _ hq4 bp _ hbp NBP.out; have Q4 := Lib.hid hq4; clear hq4))
    all_goals
      go_wp2
      go_end0
      exact ⟨rfl, by first | exact Q4.out.drewN | exact Q4.out.drew⟩
end Go.Proofs.YtcmllfnhdodbdaaDoor
