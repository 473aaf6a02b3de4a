/- posternref9: a new disk. -/
import Derived.Test.YtnbpkignkfabkaaGreatDoorRefW
import Derived.Deep.RegionHeld3
import Derived.Deep.CutBlock
import Derived.Deep.DeepCutAuto
/- posternref9: Names, Load, New. -/
/- posternref9: bytes, off, Arm, On, Files, Read, Size, Remove, Cut, Rename. -/
namespace Go.Proofs.YtnbpkignkfabkaaGreatDoor
set_option linter.unusedVariables false
set_option linter.unusedSimpArgs false
open Go.RowKit Go.Maps
set_option maxRecDepth 100000 in
set_option maxHeartbeats 2000000 in
theorem bytes9_calls {w : World} {B rb : Nat} {G : Nat → Prop} {s : DS} (h : RfS w B rb G s) (nm : List UInt8) (hnm : nm.length ≤ 140737488355328) :
    Calls Tryz.prog 116 #[.pointer (some ⟨rb, 0, none⟩), .string ⟨nm.toArray⟩] w fun r w' => ∃ fa fc, r = .returned (.slice fa (bytC s.C nm).length fc) ∧ (bytC s.C nm).length ≤ fc ∧ Own w' 0 5 1 (.slice fa (bytC s.C nm).length fc) (bytC s.C nm).length (bys (bytC s.C nm)) ∧ (∀ k, (Value.slice fa (bytC s.C nm).length fc).ownBlock = some k → G k ∧ k ≠ rb) ∧ Below w.heap.size w w' := by
  have PC := Lib.hid (place_calls h nm hnm)
  have H := Lib.hid h
  obtain ⟨b, hb⟩ : ∃ q, hasC s.C nm = q := ⟨_, rfl⟩
  obtain ⟨i, hi⟩ : ∃ q, plc nm s.C = q := ⟨_, rfl⟩
  rw [hb, hi] at PC
  have HB := Lib.hid hb; have HI := Lib.hid hi
  clear h hb hi
  go_enter Tryz.func116, Tryz.ntmps116
  go_wp2_with fail
  refine PC.out.mono ?_
  rintro r w1 ⟨rfl, b1⟩
  have h1 := H.out.below b1
  have B1 := Lib.hid b1
  clear b1 PC
  cases b with
  | false =>
    have E := Lib.hid (bytC_no HB.out)
    clear h1
    go_wp2
    go_ret
    refine ⟨none, 0, ?_, ?_, ?_, ?_, B1.out⟩
    · rw [E.out]; rfl
    · rw [E.out]; exact Nat.le_refl _
    · rw [E.out]; exact Own.nil _ _ _ _
    · rw [E.out]; intro k hk; cases hk
  | true =>
    obtain ⟨a, c, M, blk, hM, fg⟩ := h1.st
    obtain ⟨-, x1, -, -, -, -⟩ := rf_of blk
    have hl : M.length = s.C.length := by rw [← hM]; simp [conF]
    obtain ⟨n, hn⟩ : ∃ q, s.C.length = q := ⟨_, rfl⟩
    obtain ⟨hp, hq⟩ := plc_has H.out.ok.so HB.out
    have hby := bytC_mem H.out.ok.so (List.getElem_mem hp)
    rw [hq] at hby
    have hiM : i < M.length := by rw [hl, ← HI.out]; exact hp
    have hfi : bytC s.C nm = M[i].by_ := by
      rw [hby]
      have e : s.C[plc nm s.C] = (conF M)[i]'(by simpa [conF] using hiM) := by simp only [HI.out, hM]
      rw [e]; simp [conF]
    rw [HI.out, hn] at hp
    rw [hn] at x1 hl fg
    have ho := fg.own
    rw [hl] at ho
    obtain ⟨g, cap, hv⟩ := ho.shape (by omega)
    simp only [Value.slice.injEq] at hv
    obtain ⟨rfl, -, rfl⟩ := hv
    have y1 := (ho.cellAt (i * 2 + 1) (by omega)).trans (fcells_get hiM).2
    obtain ⟨k1, k2, k3⟩ := fg.byt M[i] (List.getElem_mem hiM)
    obtain ⟨f, hf⟩ : ∃ f, M[i] = f := ⟨_, rfl⟩
    rw [hf] at y1 k1 k2 k3 hfi
    have i2 : (i : Int) < (n : Int) := by omega
    have K1 := Lib.hid k1; have K2 := Lib.hid k2; have K3 := Lib.hid k3; have HF := Lib.hid hfi
    clear h1 blk hM fg hl hn hq hby hiM hfi ho k1 k2 k3 hf
    go_wp2
    go_ret
    refine ⟨f.a, f.c, ?_, ?_, ?_, ?_, B1.out⟩
    · rw [HF.out]; rfl
    · rw [HF.out]; exact K1.out
    · rw [HF.out]; exact K2.out
    · rw [HF.out]; exact K3.out
set_option maxRecDepth 100000 in
theorem off9_calls (b : Bool) (w : World) : Calls Tryz.prog 119 #[.bool b] w fun r w' => r = .returned (.int .i64 (if b = true then 94 else 0)) ∧ w = w' := by
  go_enter Tryz.func119, Tryz.ntmps119
  cases b with
  | true =>
    go_wp2
    go_ret
    exact ⟨rfl, rfl⟩
  | false =>
    go_wp2
    go_ret
    exact ⟨rfl, rfl⟩
set_option maxRecDepth 100000 in
set_option maxHeartbeats 2000000 in
theorem Arm9_calls {w : World} {B rb : Nat} {G : Nat → Prop} {s : DS} (h : RfS w B rb G s) (n keep : Int) (hn2 : n ≤ 9223372036854775807) :
    Calls Tryz.prog 29 #[.pointer (some ⟨rb, 0, none⟩), .int .i64 n, .int .i64 keep] w fun r w' => r = .returned (.tuple #[]) ∧ RfStep w w' B rb G (s.arm n keep) := by
  obtain ⟨a, c, blk, -, -, -⟩ := h.cells
  obtain ⟨-, -, x2, x3, -, -⟩ := rf_of blk
  have f2 := frozen_of_row blk 2
  have f3 := frozen_of_row blk 3
  have H := Lib.hid h
  clear h blk
  go_enter Tryz.func29, Tryz.ntmps29
  by_cases c1 : 1 ≤ n
  · have t1 : decide (1 ≤ n) = true := decide_eq_true c1
    go_wp2
    go_end0
    refine ⟨rfl, rf_ext H.out ((((Upd.refl (fun i => i = rb) w).setCell (fun _ => rfl) _).setCell (fun _ => rfl) _).setCell (fun _ => rfl) _) (fun a c hb => ?_) rfl (H.out.ok.arm n keep hn2)⟩
    rw [setCell_row (setCell_row (setCell_row hb _ _) _ _)]
    simp [rfcells, DS.arm, show max 0 n = n by omega]
  · have t1 : decide (1 ≤ n) = false := decide_eq_false c1
    go_wp2
    go_end0
    refine ⟨rfl, rf_ext H.out (((Upd.refl (fun i => i = rb) w).setCell (fun _ => rfl) _).setCell (fun _ => rfl) _) (fun a c hb => ?_) rfl (H.out.ok.arm n keep hn2)⟩
    rw [setCell_row (setCell_row hb _ _)]
    simp [rfcells, DS.arm, show max 0 n = 0 by omega]
set_option maxRecDepth 100000 in
set_option maxHeartbeats 2000000 in
theorem On9_calls {w : World} {B rb : Nat} {G : Nat → Prop} {s : DS} (h : RfS w B rb G s) :
    Calls Tryz.prog 30 #[.pointer (some ⟨rb, 0, none⟩)] w fun r w' => r = .returned (.tuple #[]) ∧ RfStep w w' B rb G s.on := by
  obtain ⟨a, c, blk, -, -, -⟩ := h.cells
  obtain ⟨-, -, -, -, x4, -⟩ := rf_of blk
  have f4 := frozen_of_row blk 4
  have H := Lib.hid h
  clear h blk
  go_enter Tryz.func30, Tryz.ntmps30
  go_wp2
  go_end0
  refine ⟨rfl, rf_ext H.out ((Upd.refl (fun i => i = rb) w).setCell (fun _ => rfl) _) (fun a c hb => ?_) rfl H.out.ok.on⟩
  rw [setCell_row hb]
  simp [rfcells, DS.on]
set_option maxRecDepth 100000 in
set_option maxHeartbeats 2000000 in
theorem Files9_calls {w : World} {B rb : Nat} {G : Nat → Prop} {s : DS} (h : RfS w B rb G s) :
    Calls Tryz.prog 35 #[.pointer (some ⟨rb, 0, none⟩)] w fun r w' => ∃ v M, r = .returned v ∧ conF M = s.C ∧ Fio w' w.heap.size v M ∧ Below w.heap.size w w' := by
  obtain ⟨a, c, blk, -, -, fil⟩ := h.cells
  obtain ⟨-, x1, -, -, -, -⟩ := rf_of blk
  have CF := Lib.hid (CopyFiles_calls s.C a c w fil (by have := h.ok.len; omega) (fun p hp => by
    have h2 := h.ok.byt p.1
    rw [bytC_mem h.ok.so hp] at h2
    omega))
  clear h blk fil
  go_enter Tryz.func35, Tryz.ntmps35
  go_wp2_with fail
  refine CF.out.mono ?_
  rintro r w1 ⟨v, M, rfl, hM, hf, hb⟩
  have HM := Lib.hid hM; have HF := Lib.hid hf; have HB := Lib.hid hb
  clear hM hf hb CF
  go_wp2
  go_ret
  exact ⟨v, M, rfl, HM.out, HF.out, HB.out⟩
set_option maxRecDepth 100000 in
set_option maxHeartbeats 2000000 in
theorem Read9_calls {w : World} {B rb : Nat} {G : Nat → Prop} {s : DS} (h : RfS w B rb G s) (nm : List UInt8) (hnm : nm.length ≤ 140737488355328) :
    Calls Tryz.prog 56 #[.pointer (some ⟨rb, 0, none⟩), .string ⟨nm.toArray⟩] w fun r w' => ∃ v, r = .returned (.tuple #[v, .int .i64 (s.may true [nm])]) ∧ Own w' w.heap.size 5 1 v (readB s nm).length (bys (readB s nm)) ∧ Below w.heap.size w w' := by
  have MC := Lib.hid (missing_calls h nm hnm)
  have H := Lib.hid h
  have RB := Lib.hid (show readB s nm = if s.may true [nm] = 0 then bytC s.C nm else [] from rfl)
  obtain ⟨e, he⟩ : ∃ q, s.may true [nm] = q := ⟨_, rfl⟩
  rw [he] at MC RB
  have HE := Lib.hid he
  rw [he]
  clear h he
  go_enter Tryz.func56, Tryz.ntmps56
  go_wp2_with fail
  refine MC.out.mono ?_
  rintro r w1 ⟨rfl, b1⟩
  have B1 := Lib.hid b1
  have BC := Lib.hid (bytes9_calls (H.out.below b1) nm hnm)
  clear b1 MC
  by_cases c : e = 0
  · subst c
    go_wp2_with fail
    refine BC.out.mono ?_
    rintro r w2 ⟨fa, fc, rfl, -, ho, -, b2⟩
    obtain ⟨t, ht⟩ : ∃ q, bytC s.C nm = q := ⟨_, rfl⟩
    have tl : t.length ≤ 140737488355328 := by have := H.out.ok.byt nm; rw [ht] at this; omega
    rw [ht] at ho RB ⊢
    obtain ⟨a2, c2, hv, -, -, hy, -, -⟩ := own_val ho
    simp only [Value.slice.injEq] at hv
    obtain ⟨rfl, -, rfl⟩ := hv
    have CC := Lib.hid (Copy_calls fa fc t w2 hy tl)
    have B2 := Lib.hid (B1.out.trans (b2.mono B1.out.size))
    clear ho hy b2 ht BC
    go_wp2_with fail
    refine CC.out.mono ?_
    rintro r w3 ⟨v3, rfl, o3, b3⟩
    have O3 := Lib.hid (o3.rebase (base' := w.heap.size) (fun k hk => Nat.le_trans B2.out.size (o3.lt k hk).1))
    have B3 := Lib.hid (B2.out.trans (b3.mono B2.out.size))
    clear o3 b3 CC
    go_wp2
    go_ret2
    exact ⟨v3, rfl, by have h9 := RB.out; simp only [if_true] at h9; rw [h9]; exact O3.out, B3.out⟩
  · have t1 : (e != 0) = true := bne_iff_ne.2 c
    have RB2 := RB.out
    rw [if_neg c] at RB2
    have RB3 := Lib.hid RB2
    clear RB2
    go_wp2
    go_ret2
    exact ⟨.slice none 0 0, rfl, by rw [RB3.out]; exact Own.nil _ _ _ _, B1.out⟩
end Go.Proofs.YtnbpkignkfabkaaGreatDoor
/- posternref9: Remove, Cut, Rename. -/
namespace Go.Proofs.YtnbpkignkfabkaaGreatDoor
set_option linter.unusedVariables false
set_option linter.unusedSimpArgs false
open Go.RowKit Go.Maps
theorem may_off_false {s : DS} {th : Bool} {Ns : List (List UInt8)} (h : s.may th Ns = 0) : s.off = false := (DS.may_cases s th Ns h).1
set_option maxRecDepth 100000 in
set_option maxHeartbeats 2000000 in
theorem Remove9_calls {w : World} {B rb : Nat} {G : Nat → Prop} {s : DS} (h : RfS w B rb G s) (nm : List UInt8) (hnm : nm.length ≤ 140737488351232) (hw : s.writes ≤ 4611686018427387904) :
    Calls Tryz.prog 63 #[.pointer (some ⟨rb, 0, none⟩), .string ⟨nm.toArray⟩] w fun r w' => r = .returned (.int .i64 (s.remove nm).1) ∧ RfStep w w' B rb G (s.remove nm).2 := by
  have MC := Lib.hid (missing_calls h nm (by omega))
  have H := Lib.hid h
  have RV := Lib.hid (show s.remove nm = if s.may true [nm] ≠ 0 then (s.may true [nm], s) else if s.armed = 1 then (94, if 0 < s.keep then s.wr.del nm else s.wr) else (0, s.wr.del nm) from rfl)
  have ARM := Lib.hid (show s.armed = s.armed from rfl)
  obtain ⟨e, he⟩ : ∃ q, s.may true [nm] = q := ⟨_, rfl⟩
  rw [he] at MC RV
  have HE := Lib.hid he
  clear h he
  go_enter Tryz.func63, Tryz.ntmps63
  go_wp2_with fail
  refine MC.out.mono ?_
  rintro r w1 ⟨rfl, b1⟩
  have B1 := Lib.hid b1
  have H1 := Lib.hid (H.out.below b1)
  clear b1 MC
  by_cases c : e = 0
  · have hof := may_off_false (HE.out.trans c)
    have TC := Lib.hid (torn_calls H1.out hof hw)
    have RV2 := RV.out
    rw [if_neg (fun h9 => h9 c)] at RV2
    have RW := Lib.hid RV2
    subst c
    clear RV2 RV hof
    go_wp2_with fail
    refine TC.out.mono ?_
    rintro r w2 ⟨rfl, st2⟩
    obtain ⟨G2, h2, u2, b2, g2⟩ := st2
    obtain ⟨a, cc, blk, -, -, -⟩ := h2.cells
    obtain ⟨-, -, -, x3, -, -⟩ := rf_of blk
    have x3' : w2.cell? ⟨rb, 3, none⟩ = some (.int .i64 s.keep) := x3
    have DC := Lib.hid (drop9_calls h2 nm (by omega))
    have S2 := Lib.hid (RfStep.front H.out B1.out ⟨G2, h2, u2, b2, g2⟩)
    have H2 := Lib.hid h2
    have FIN := Lib.hid (fun (w3 : World) (st3 : RfStep w2 w3 B rb G2 (s.wr.del nm)) => show RfStep w w3 B rb G (s.wr.del nm) from by
      obtain ⟨G3, k1, k2, k3, k4⟩ := st3
      exact RfStep.front H.out B1.out ⟨G3, k1, u2.same k2, b2.trans k3, fun i hi => (k4 i hi).elim (g2 i) (fun h9 => .inr (Nat.le_trans u2.size h9))⟩)
    clear h2 u2 b2 g2 blk x3 TC
    by_cases c2 : s.armed = 1
    · have RX := RW.out
      rw [if_pos c2] at RX
      rw [decide_eq_true c2]
      by_cases c3 : 0 < s.keep
      · have t3 : decide (0 < s.keep) = true := decide_eq_true c3
        rw [if_pos c3] at RX
        have RY := Lib.hid RX
        clear RX c2 RW
        go_wp2_with fail
        refine DC.out.mono ?_
        rintro r w3 ⟨rfl, st3⟩
        have ST := Lib.hid (FIN.out _ st3)
        clear st3 DC FIN x3'
        go_wp2_with (go_at_call 119; refine (off9_calls _ _).mono ?_; rintro r wx ⟨rfl, rfl⟩)
        go_ret
        rw [RY.out]
        exact ⟨rfl, ST.out⟩
      · have t3 : decide (0 < s.keep) = false := decide_eq_false c3
        rw [if_neg c3] at RX
        have RY := Lib.hid RX
        clear RX c2 RW DC FIN
        go_wp2_with (go_at_call 119; refine (off9_calls _ _).mono ?_; rintro r wx ⟨rfl, rfl⟩)
        go_ret
        rw [RY.out]
        exact ⟨rfl, S2.out⟩
    · have RX := RW.out
      rw [if_neg c2] at RX
      rw [decide_eq_false c2]
      have RY := Lib.hid RX
      clear RX c2 RW
      go_wp2_with fail
      refine DC.out.mono ?_
      rintro r w3 ⟨rfl, st3⟩
      have ST := Lib.hid (FIN.out _ st3)
      clear st3 DC FIN x3'
      go_wp2_with (go_at_call 119; refine (off9_calls _ _).mono ?_; rintro r wx ⟨rfl, rfl⟩)
      go_ret
      rw [RY.out]
      exact ⟨rfl, ST.out⟩
  · have t1 : (e != 0) = true := bne_iff_ne.2 c
    have RV2 := RV.out
    rw [if_pos c] at RV2
    have RW := Lib.hid RV2
    clear RV2 RV
    go_wp2
    go_ret
    rw [RW.out]
    exact ⟨rfl, RfStep.same H.out B1.out⟩
theorem RfStep.lay {w0 w : World} {B rb : Nat} {G : Nat → Prop} {s : DS} (hst : RfStep w0 w B rb G s) (nm t : List UInt8) (fa : Option Addr) (fc : Nat) (hnm : nm.length ≤ 140737488355328) (hfc : t.length ≤ fc) (hfo : Own w 0 5 1 (.slice fa t.length fc) t.length (bys t)) (hk : ∀ k, (Value.slice fa t.length fc).ownBlock = some k → (G k ∨ w0.heap.size ≤ k) ∧ k ≠ rb ∧ B ≤ k) (hok : (s.put nm t).ok) :
    Calls Tryz.prog 47 #[.pointer (some ⟨rb, 0, none⟩), .agg #[.string ⟨nm.toArray⟩, .slice fa t.length fc]] w fun r w' => r = .returned (.tuple #[]) ∧ RfStep w0 w' B rb G (s.put nm t) := by
  obtain ⟨G1, h1, u1, b1, g1⟩ := hst
  have h2 : RfS w B rb (fun i => G1 i ∨ (Value.slice fa t.length fc).ownBlock = some i) s := h1.more (fun _ h => .inl h) (fun i hi => hi.elim (h1.fl i) (fun h9 => ⟨(hk i h9).2.2, (hfo.lt i h9).2⟩))
  refine (lay9_calls h2 nm t fa fc hnm hfc hfo (fun k hk' => ⟨.inr hk', (hk k hk').2.1⟩) hok).mono ?_
  rintro r w' ⟨rfl, st⟩
  exact ⟨rfl, RfStep.less u1 b1 st (fun i hi => hi.elim (g1 i) (fun h9 => (hk i h9).1))⟩
set_option maxRecDepth 100000 in
set_option maxHeartbeats 4000000 in
theorem Cut9_calls {w : World} {B rb : Nat} {G : Nat → Prop} {s : DS} (h : RfS w B rb G s) (nm : List UInt8) (n : Int) (hnm : nm.length ≤ 140737488351232) (hw : s.writes ≤ 4611686018427387904) :
    Calls Tryz.prog 58 #[.pointer (some ⟨rb, 0, none⟩), .string ⟨nm.toArray⟩, .int .i64 n] w fun r w' => r = .returned (.int .i64 (s.cut nm n).1) ∧ RfStep w w' B rb G (s.cut nm n).2 := by
  have MC := Lib.hid (missing_calls h nm (by omega))
  have H := Lib.hid h
  have RV := Lib.hid (show s.cut nm n = if s.may true [nm] ≠ 0 then (s.may true [nm], s) else if n < 0 ∨ (bytC s.C nm).length < n then (95, s) else if s.armed = 1 then (94, if 0 < s.keep then s.wr.put nm ((bytC s.C nm).take n.toNat) else s.wr) else (0, s.wr.put nm ((bytC s.C nm).take n.toNat)) from rfl)
  have OKC := Lib.hid (h.ok.cut nm n)
  obtain ⟨e, he⟩ : ∃ q, s.may true [nm] = q := ⟨_, rfl⟩
  rw [he] at MC RV
  have HE := Lib.hid he
  clear h he
  go_enter Tryz.func58, Tryz.ntmps58
  go_wp2_with fail
  refine MC.out.mono ?_
  rintro r w1 ⟨rfl, b1⟩
  have B1 := Lib.hid b1
  have H1 := Lib.hid (H.out.below b1)
  clear b1 MC
  by_cases c : e = 0
  · have BC := Lib.hid (bytes9_calls H1.out nm (by omega))
    have RV2 := RV.out
    rw [if_neg (fun h9 => h9 c)] at RV2
    have hof := may_off_false (HE.out.trans c)
    obtain ⟨t, ht⟩ : ∃ q, bytC s.C nm = q := ⟨_, rfl⟩
    have tl : t.length ≤ 268435456 := by have := H.out.ok.byt nm; rw [ht] at this; exact this
    rw [ht] at BC RV2
    have RW := Lib.hid RV2
    have HOF := Lib.hid hof
    subst c
    clear RV2 RV hof ht
    go_wp2_with fail
    refine BC.out.mono ?_
    rintro r w2 ⟨fa, fc, rfl, hfc, ho, hg, b2⟩
    have H2 := Lib.hid (H1.out.below b2)
    have B2 := Lib.hid (B1.out.trans (b2.mono B1.out.size))
    have HO := Lib.hid ho; have HG := Lib.hid hg
    clear b2 BC ho hg
    by_cases c1 : n < 0 ∨ (t.length : Int) < n
    · have RX := RW.out
      rw [if_pos c1] at RX
      have RY := Lib.hid RX
      clear RX RW
      by_cases c2 : n < 0
      · have t2 : decide (n < 0) = true := decide_eq_true c2
        clear c1
        go_wp2
        go_ret
        rw [RY.out]
        exact ⟨rfl, RfStep.same H.out B2.out⟩
      · have t2 : decide (n < 0) = false := decide_eq_false c2
        have t3 : decide ((t.length : Int) < n) = true := decide_eq_true (c1.resolve_left c2)
        clear c1
        go_wp2
        go_ret
        rw [RY.out]
        exact ⟨rfl, RfStep.same H.out B2.out⟩
    · obtain ⟨k, rfl⟩ : ∃ k : Nat, n = k := ⟨n.toNat, by omega⟩
      have hk : k ≤ t.length := by omega
      have t2 : decide ((k : Int) < 0) = false := decide_eq_false (by omega)
      have t3 : decide ((t.length : Int) < (k : Int)) = false := decide_eq_false (by omega)
      have RX := RW.out
      rw [if_neg c1, Int.toNat_natCast] at RX
      have TC := Lib.hid (torn_calls H2.out HOF.out hw)
      obtain ⟨p, hp⟩ : ∃ p, t.take k = p := ⟨_, rfl⟩
      have hpl : p.length = k := by rw [← hp, List.length_take]; omega
      rw [hp] at RX
      have RY := Lib.hid RX
      have HP := Lib.hid hp
      clear RX RW c1
      go_wp2_with fail
      refine TC.out.mono ?_
      rintro r w3 ⟨rfl, st3⟩
      have ST3 := Lib.hid (RfStep.front H.out B2.out st3)
      obtain ⟨G3, h3, u3, b3, g3⟩ := st3
      obtain ⟨a, cc, blk, -, -, -⟩ := h3.cells
      obtain ⟨-, -, -, x3, -, -⟩ := rf_of blk
      have x3' : w3.cell? ⟨rb, 3, none⟩ = some (.int .i64 s.keep) := x3
      have ho3 := HO.out.upd u3 (fun k hk e => (HG.out k hk).2 e)
      obtain ⟨a2, c2, hv, -, -, hy, -, -⟩ := own_val ho3
      simp only [Value.slice.injEq] at hv
      obtain ⟨rfl, -, rfl⟩ := hv
      have CC := Lib.hid (by
        have h9 := Copy_calls fa fc p w3 (by rw [← HP.out]; exact hy.take k) (by omega)
        rw [hpl] at h9
        exact h9)
      have LC := Lib.hid (fun (w4 : World) (a4 : Option Addr) (c4 : Nat) (o4 : Own w4 w3.heap.size 5 1 (.slice a4 p.length c4) p.length (bys p)) (b4 : Below w3.heap.size w3 w4) (hok : (s.wr.put nm p).ok) => RfStep.lay (RfStep.back ST3.out b4) nm p a4 c4 (by omega) (by obtain ⟨_, _, hv9, hc9, _, _⟩ := o4.shape'; simp only [Value.slice.injEq] at hv9; obtain ⟨_, _, rfl⟩ := hv9; exact hc9) (o4.rebase (base' := 0) (fun _ _ => Nat.zero_le _)) (fun k hk => by
        have h9 := (o4.lt k hk).1
        have s3 : w2.heap.size ≤ w3.heap.size := u3.size
        have s2 := B2.out.size
        have hr := (H.out.fl _ H.out.at_).2
        have hB := H.out.bw
        exact ⟨.inr (by omega), by omega, by omega⟩) hok)
      have EN := Lib.hid (fun (e : fa = none) => show t.length = 0 from by subst e; exact (ho3.none).1)
      have EN2 := Lib.hid (fun (e : fa = none) => show fc = 0 from by subst e; exact (ho3.none).2.1)
      clear ho3 hy h3 u3 b3 g3 blk x3 TC HO HG
      have HPL := Lib.hid hpl
      have OKW := Lib.hid OKC.out
      have pl2 : p.length ≤ 268435456 := by omega
      clear hp
      by_cases c4 : s.armed = 1
      · have RX := RY.out
        rw [if_pos c4] at RX
        rw [decide_eq_true c4]
        by_cases c5 : 0 < s.keep
        · have t5 : decide (0 < s.keep) = true := decide_eq_true c5
          rw [if_pos c5] at RX
          have RZ := Lib.hid RX
          clear RX RY c4
          cases fa with
          | none =>
            obtain rfl : k = 0 := by have := EN.out rfl; omega
            obtain rfl : fc = 0 := EN2.out rfl
            go_wp2_with fail
            refine CC.out.mono ?_
            rintro r w4 ⟨v4, rfl, o4, b4⟩
            rw [← HPL.out] at o4
            obtain ⟨a4, c4, hv4, -, -, -⟩ := o4.shape'
            subst hv4
            have LY := Lib.hid (LC.out w4 a4 c4 o4 b4 (by have h9 := OKC.out; rw [RZ.out] at h9; exact h9))
            rw [HPL.out] at LY ⊢
            clear o4 b4 CC LC x3'
            go_wp2_with fail
            refine LY.out.mono ?_
            rintro r w5 ⟨rfl, st5⟩
            have ST5 := Lib.hid st5
            clear st5 LY
            go_wp2_with (go_at_call 119; refine (off9_calls _ _).mono ?_; rintro r wx ⟨rfl, rfl⟩)
            go_ret
            rw [RZ.out]
            exact ⟨rfl, ST5.out⟩
          | some ad =>
            have k2 : (k : Int) ≤ (fc : Int) := by omega
            go_wp2_with fail
            refine CC.out.mono ?_
            rintro r w4 ⟨v4, rfl, o4, b4⟩
            rw [← HPL.out] at o4
            obtain ⟨a4, c4, hv4, -, -, -⟩ := o4.shape'
            subst hv4
            have LY := Lib.hid (LC.out w4 a4 c4 o4 b4 (by have h9 := OKC.out; rw [RZ.out] at h9; exact h9))
            rw [HPL.out] at LY ⊢
            clear o4 b4 CC LC x3'
            go_wp2_with fail
            refine LY.out.mono ?_
            rintro r w5 ⟨rfl, st5⟩
            have ST5 := Lib.hid st5
            clear st5 LY
            go_wp2_with (go_at_call 119; refine (off9_calls _ _).mono ?_; rintro r wx ⟨rfl, rfl⟩)
            go_ret
            rw [RZ.out]
            exact ⟨rfl, ST5.out⟩
        · have t5 : decide (0 < s.keep) = false := decide_eq_false c5
          rw [if_neg c5] at RX
          have RZ := Lib.hid RX
          clear RX RY c4 CC LC
          go_wp2_with (go_at_call 119; refine (off9_calls _ _).mono ?_; rintro r wx ⟨rfl, rfl⟩)
          go_ret
          rw [RZ.out]
          exact ⟨rfl, ST3.out⟩
      · have RX := RY.out
        rw [if_neg c4] at RX
        rw [decide_eq_false c4]
        have RZ := Lib.hid RX
        clear RX RY c4
        cases fa with
        | none =>
          obtain rfl : k = 0 := by have := EN.out rfl; omega
          obtain rfl : fc = 0 := EN2.out rfl
          go_wp2_with fail
          refine CC.out.mono ?_
          rintro r w4 ⟨v4, rfl, o4, b4⟩
          rw [← HPL.out] at o4
          obtain ⟨a4, c4, hv4, -, -, -⟩ := o4.shape'
          subst hv4
          have LY := Lib.hid (LC.out w4 a4 c4 o4 b4 (by have h9 := OKC.out; rw [RZ.out] at h9; exact h9))
          rw [HPL.out] at LY ⊢
          clear o4 b4 CC LC x3'
          go_wp2_with fail
          refine LY.out.mono ?_
          rintro r w5 ⟨rfl, st5⟩
          have ST5 := Lib.hid st5
          clear st5 LY
          go_wp2_with (go_at_call 119; refine (off9_calls _ _).mono ?_; rintro r wx ⟨rfl, rfl⟩)
          go_ret
          rw [RZ.out]
          exact ⟨rfl, ST5.out⟩
        | some ad =>
          have k2 : (k : Int) ≤ (fc : Int) := by omega
          go_wp2_with fail
          refine CC.out.mono ?_
          rintro r w4 ⟨v4, rfl, o4, b4⟩
          rw [← HPL.out] at o4
          obtain ⟨a4, c4, hv4, -, -, -⟩ := o4.shape'
          subst hv4
          have LY := Lib.hid (LC.out w4 a4 c4 o4 b4 (by have h9 := OKC.out; rw [RZ.out] at h9; exact h9))
          rw [HPL.out] at LY ⊢
          clear o4 b4 CC LC x3'
          go_wp2_with fail
          refine LY.out.mono ?_
          rintro r w5 ⟨rfl, st5⟩
          have ST5 := Lib.hid st5
          clear st5 LY
          go_wp2_with (go_at_call 119; refine (off9_calls _ _).mono ?_; rintro r wx ⟨rfl, rfl⟩)
          go_ret
          rw [RZ.out]
          exact ⟨rfl, ST5.out⟩
  · have t1 : (e != 0) = true := bne_iff_ne.2 c
    have RV2 := RV.out
    rw [if_pos c] at RV2
    have RW := Lib.hid RV2
    clear RV2 RV
    go_wp2
    go_ret
    rw [RW.out]
    exact ⟨rfl, RfStep.same H.out B1.out⟩
end Go.Proofs.YtnbpkignkfabkaaGreatDoor
/- posternref9: Rename, Append. -/
namespace Go.Proofs.YtnbpkignkfabkaaGreatDoor
set_option linter.unusedVariables false
set_option linter.unusedSimpArgs false
open Go.RowKit Go.Maps
theorem put_del_self {s : DS} {a : List UInt8} (hs : SortedC s.C) (hh : hasC s.C a = true) : (s.del a).put a (bytC s.C a) = s := by
  have e : setC (delC s.C a) a (bytC s.C a) = s.C := by
    refine SortedC.ext (sorted_setC _ _ (sorted_delC _ hs)) hs (fun p => ?_)
    rw [mem_setC, mem_delC]
    constructor
    · rintro (rfl | ⟨⟨h1, _⟩, _⟩)
      · exact mem_of_hasC hs hh
      · exact h1
    · intro hp
      by_cases c : p.1 = a
      · left
        exact SortedC.uniq hs hp (mem_of_hasC hs hh) c
      · exact .inr ⟨⟨hp, c⟩, c⟩
  show ({ s with C := setC (delC s.C a) a (bytC s.C a) } : DS) = s
  rw [e]
end Go.Proofs.YtnbpkignkfabkaaGreatDoor
/- posternref9: Append. -/
namespace Go.Proofs.YtnbpkignkfabkaaGreatDoor
set_option linter.unusedVariables false
set_option linter.unusedSimpArgs false
open Go.RowKit Go.Maps
theorem byt_ne_rf {w : World} {rb : Nat} {s : DS} {a : Option Addr} {c : Nat} {ba : Option Addr} {b : List UInt8} (hy : Byt w ba b) (h : w.heap[rb]? = some (.cells (rfcells s a c) 104 (0, 0))) : ∀ ad, ba = some ad → b ≠ [] → ad.block ≠ rb := by
  intro ad had hne hrb
  obtain ⟨g, o, e, hc⟩ := hy 0 (List.length_pos_iff.2 hne)
  rw [had] at e
  obtain rfl := Option.some.inj e
  have hrb' : g = rb := hrb
  subst hrb'
  rw [cell_of_row' h, Nat.add_zero] at hc
  match o, hc with
  | 0, hc => cases hc
  | 1, hc => cases hc
  | 2, hc => cases hc
  | 3, hc => cases hc
  | 4, hc => cases hc
  | 5, hc => cases hc
  | o + 6, hc => simp [rfcells] at hc
set_option maxRecDepth 100000 in
set_option maxHeartbeats 4000000 in
theorem Append9_calls {w : World} {B rb : Nat} {G : Nat → Prop} {s : DS} (h : RfS w B rb G s) (nm b : List UInt8) (ba : Option Addr) (bc : Nat) (hnm : nm.length ≤ 140737488351232) (hyb : Byt w ba b) (hbc : b.length ≤ bc) (hb : b.length ≤ 140737488351232) (hw : s.writes ≤ 4611686018427387904) :
    Calls Tryz.prog 61 #[.pointer (some ⟨rb, 0, none⟩), .string ⟨nm.toArray⟩, .slice ba b.length bc] w fun r w' => r = .returned (.int .i64 (s.append nm b).1) ∧ RfStep w w' B rb G (s.append nm b).2 := by
  have RC := Lib.hid (refused_calls h nm (by omega))
  have PC := Lib.hid (place_calls h nm (by omega))
  have H := Lib.hid h
  have YB := Lib.hid hyb
  have RV := Lib.hid (show s.append nm b = if s.may false [nm] ≠ 0 then (s.may false [nm], s) else if (hasC s.C nm = false ∧ 64 ≤ s.C.length) ∨ s.room < sumC s.C + b.length then (93, s) else if s.armed = 1 then (94, if hasC s.C nm = true ∨ 0 < s.keep then s.wr.put nm (bytC s.C nm ++ keptB b s.keep) else s.wr) else (0, s.wr.put nm (bytC s.C nm ++ b)) from rfl)
  have OKC := Lib.hid (h.ok.append nm b)
  obtain ⟨e, he⟩ : ∃ q, s.may false [nm] = q := ⟨_, rfl⟩
  obtain ⟨b0, hb0⟩ : ∃ q, hasC s.C nm = q := ⟨_, rfl⟩
  rw [he] at RC RV
  rw [hb0] at PC RV
  have HE := Lib.hid he; have HB0 := Lib.hid hb0
  clear h hyb he hb0
  go_enter Tryz.func61, Tryz.ntmps61
  go_wp2_with fail
  refine RC.out.mono ?_
  rintro r wx ⟨rfl, rfl⟩
  by_cases c1 : e = 0
  · have RV2 := RV.out
    rw [if_neg (fun h9 => h9 c1)] at RV2
    have RW := Lib.hid RV2
    have hof := may_off_false (HE.out.trans c1)
    have HOF := Lib.hid hof
    subst c1
    clear RV2 RV RC hof
    go_wp2_with fail
    refine PC.out.mono ?_
    rintro r w1 ⟨rfl, b1⟩
    have H1 := Lib.hid (H.out.below b1)
    have B1 := Lib.hid b1
    clear b1 PC
    obtain ⟨a, c, blk, -, -, -⟩ := H1.out.cells
    obtain ⟨x0, x1, -, -, -, -⟩ := rf_of blk
    have NE := Lib.hid (byt_ne_rf (YB.out.below B1.out) blk)
    have UQ := Lib.hid (fun m : Nat => Calls.quiet_of_same (n := m) ((used_calls (H1.out.below (bel_drewN (Below.refl _ _) m))).mono (fun _ _ hr => ⟨hr.1, hr.2.symm⟩)))
    obtain ⟨sm, hsm⟩ : ∃ q, sumC s.C = q := ⟨_, rfl⟩
    obtain ⟨n, hn⟩ : ∃ q, s.C.length = q := ⟨_, rfl⟩
    obtain ⟨rm, hrm⟩ : ∃ q, s.room = q := ⟨_, rfl⟩
    have k1 := H.out.ok.sum
    have k2 := H.out.ok.r2
    have k3 := H.out.ok.len
    rw [hsm] at UQ RW k1
    rw [hn] at x1 RW k3
    rw [hrm] at x0 RW k1 k2
    clear blk hsm hn hrm
    have wr1 : IntKind.i64.wrap ((rm : Int) - (sm : Int)) = (rm : Int) - (sm : Int) := IntWalk.i64_in _ (by omega)
    obtain ⟨f2, hf2, hf3⟩ : ∃ q : Bool, decide ((rm : Int) - (sm : Int) < (b.length : Int)) = q ∧ decide (rm < sm + b.length) = q := by
      by_cases c2 : rm < sm + b.length
      · exact ⟨true, decide_eq_true (by omega), decide_eq_true c2⟩
      · exact ⟨false, decide_eq_false (by omega), decide_eq_false c2⟩
    have HF3 := Lib.hid hf3
    clear hf3
    have REF := Lib.hid (fun (hcond : (b0 = false ∧ 64 ≤ n) ∨ rm < sm + b.length) => show s.append nm b = (93, s) from by have h9 := RW.out; rw [if_pos hcond] at h9; exact h9)
    cases b0 with
    | false =>
      by_cases c3 : 64 ≤ n
      · have t3 : decide ((64 : Int) ≤ (n : Int)) = true := decide_eq_true (by omega)
        have t3' : decide (64 ≤ n) = true := decide_eq_true c3
        have RF := Lib.hid (REF.out (.inl ⟨rfl, c3⟩))
        clear REF RW
        go_wp2_with fail
        go_quiet ((go_at_call 46; exact UQ.out _))
        go_wp2
        go_ret
        rw [RF.out]
        exact ⟨rfl, RfStep.same H.out (bel_drewN B1.out _)⟩
      · have t3 : decide ((64 : Int) ≤ (n : Int)) = false := decide_eq_false (by omega)
        have t3' : decide (64 ≤ n) = false := decide_eq_false c3
        cases f2 with
        | true =>
          have RF := Lib.hid (REF.out (.inr (of_decide_eq_true HF3.out)))
          clear REF RW
          go_wp2_with fail
          go_quiet ((go_at_call 46; exact UQ.out _))
          go_wp2
          go_ret
          rw [RF.out]
          exact ⟨rfl, RfStep.same H.out (bel_drewN B1.out _)⟩
        | false =>
          have RX2 := RW.out
          rw [if_neg (fun h9 => h9.elim (fun h8 => c3 h8.2) (of_decide_eq_false HF3.out))] at RX2
          have RX := Lib.hid RX2
          have BL2 := Lib.hid (show b.length ≤ 268435456 by have := of_decide_eq_false HF3.out; omega)
          clear RX2 RW REF
          go_wp2_with fail
          go_quiet ((go_at_call 46; exact UQ.out _))
          go_wp2_with fail
          refine (torn_calls (H1.out.below (bel_drewN (Below.refl _ _) _)) HOF.out hw).mono ?_
          rintro r w2 ⟨rfl, st2⟩
          have ST2 := Lib.hid (RfStep.front H.out (bel_drewN B1.out _) st2)
          obtain ⟨G2, h2, u2, b2, g2⟩ := st2
          obtain ⟨a9, cc, blk, -, -, -⟩ := h2.cells
          obtain ⟨-, -, -, x3, -, -⟩ := rf_of blk
          have x3' : w2.cell? ⟨rb, 3, none⟩ = some (.int .i64 s.keep) := x3
          have U2 := Lib.hid ((Upd.ofBelow (bel_drewN B1.out _)).trans u2 (fun _ s _ => s.elim) (fun _ s _ => s) (S := fun i => i = rb))
          have Y2 := Lib.hid (YB.out.upd U2.out (fun ad e hne s => NE.out ad e hne s))
          have BC := Lib.hid (bytes9_calls h2 nm (by omega))
          have H2 := Lib.hid h2
          clear h2 u2 b2 g2 blk x3 x0 x1 UQ
          by_cases c4 : s.armed = 1
          · have RX2 := RX.out
            rw [if_pos c4] at RX2
            rw [decide_eq_true c4]
            obtain ⟨kp, hkp⟩ : ∃ q, s.keep = q := ⟨_, rfl⟩
            obtain ⟨kk, hkk, hkl⟩ : ∃ kk : Nat, max 0 (min kp (b.length : Int)) = kk ∧ kk ≤ b.length := ⟨(max 0 (min kp (b.length : Int))).toNat, by omega, by omega⟩
            obtain ⟨p, hp⟩ : ∃ p, keptB b kp = p := ⟨_, rfl⟩
            have hp2 : b.take kk = p := by rw [← hp]; unfold keptB; rw [hkk, Int.toNat_natCast]
            have hpl : p.length = kk := by rw [← hp2, List.length_take]; omega
            rw [hkp] at x3' RX2
            rw [hp] at RX2
            have RZ := Lib.hid RX2
            subst hpl
            have HKK := Lib.hid hkk; have HP2 := Lib.hid hp2
            clear RX RX2 c4 hkp hkk hp hp2
            go_upto_if 65 with fail
            go_cut [10] (fun v wx => v = .int .i64 (min kp (b.length : Int)) ∧ w2 = wx)
            case first =>
              by_cases d1 : (b.length : Int) < kp
              · have s1 : decide ((b.length : Int) < kp) = true := decide_eq_true d1
                go_wp2
                go_meet
                case rel => exact ⟨congrArg (Value.int .i64) (by omega), rfl⟩
              · have s1 : decide ((b.length : Int) < kp) = false := decide_eq_false d1
                go_wp2
                go_meet
                case rel => exact ⟨congrArg (Value.int .i64) (by omega), rfl⟩
            case rest =>
              obtain ⟨rfl, hwc⟩ := hcut
              subst hwc
              go_upto_if 69 with fail
              go_cut [10] (fun v wx => v = .int .i64 (p.length : Nat) ∧ w2 = wx)
              case first =>
                by_cases d1 : min kp (b.length : Int) < 0
                · have s1 : decide (min kp (b.length : Int) < 0) = true := decide_eq_true d1
                  go_wp2
                  go_meet
                  case rel => exact ⟨congrArg (Value.int .i64) (by have := HKK.out; omega), rfl⟩
                · have s1 : decide (min kp (b.length : Int) < 0) = false := decide_eq_false d1
                  go_wp2
                  go_meet
                  case rel => exact ⟨congrArg (Value.int .i64) (by have := HKK.out; omega), rfl⟩
              case rest =>
                obtain ⟨rfl, hwc⟩ := hcut
                subst hwc
                by_cases d5 : 0 < kp
                · have s5 : decide (0 < kp) = true := decide_eq_true d5
                  have RX3 := RZ.out
                  rw [if_pos (.inr d5)] at RX3
                  have RZ2 := Lib.hid RX3
                  clear RX3 RZ
                  obtain ⟨old, hold⟩ : ∃ q, bytC s.C nm = q := ⟨_, rfl⟩
                  have ol : old.length ≤ 268435456 := by have := H.out.ok.byt nm; rw [hold] at this; exact this
                  obtain ⟨t, ht⟩ : ∃ q, old ++ p = q := ⟨_, rfl⟩
                  have HOLD := Lib.hid hold
                  have hpb : p.length ≤ b.length := by rw [← HP2.out, List.length_take]; omega
                  have hok : (s.wr.put nm t).ok := by
                    have h9 := OKC.out
                    rw [RZ2.out, hold, ht] at h9
                    exact h9
                  have BCd := Lib.hid (show Calls Tryz.prog 116 #[.pointer (some ⟨rb, 0, none⟩), .string ⟨nm.toArray⟩] w2.drew fun r w' => ∃ fa fc, r = .returned (.slice fa old.length fc) ∧ Byt w' fa old ∧ Below w2.heap.size w2 w' from (bytes9_calls (H2.out.below (bel_drew (Below.refl _ _))) nm (by omega)).mono (fun r w' hr => by
                    obtain ⟨fa, fc, rfl, _, ho, _, hb⟩ := hr
                    rw [show bytC s.wr.C nm = old from hold] at ho ⊢
                    obtain ⟨a2, c2, hv, -, -, hy, -, -⟩ := own_val ho
                    simp only [Value.slice.injEq] at hv
                    obtain ⟨rfl, -, rfl⟩ := hv
                    exact ⟨fa, fc, rfl, hy, (bel_drew (Below.refl _ _)).trans hb⟩))
                  have CCx := Lib.hid (fun (wx : World) (fa : Option Addr) (fc : Nat) (hy : Byt wx fa old) => Copy_calls fa fc old wx hy (by omega))
                  have SPx := Lib.hid (fun (w3 w4 : World) (b3 : Below w2.heap.size w2 w3) (b4 : Below w3.heap.size w3 w4) => Src_byt (c := bc) Tryz.underlying74 (show Byt w4 ba p from by rw [← HP2.out]; exact ((Y2.out.below b3).below b4).take _) (fun _ => .inr trivial))
                  have N1 : Hid (old.length + p.length ≤ maxLen) := by show _ ≤ _; unfold maxLen; omega
                  have N2 : Hid ((old.length + p.length) * 1 ≤ 140737488355328) := by show _ ≤ _; have := BL2.out; omega
                  have FIN5 := Lib.hid (fun (w3 w4 w5 : World) (v4 v5 : Value) (b3 : Below w2.heap.size w2 w3) (o4 : Own w4 w3.heap.size 5 1 v4 old.length (bys old)) (b4 : Below w3.heap.size w3 w4) (ho5 : Own w5 w3.heap.size 5 1 v5 (old.length + p.length) (bys old ++ bys p)) (hg5 : w4.grownBy w5 v4.ownBlock) => show ∃ a5 c5, v5 = .slice a5 (old.length + p.length) c5 ∧ Calls Tryz.prog 47 #[.pointer (some ⟨rb, 0, none⟩), .agg #[.string ⟨nm.toArray⟩, .slice a5 (old.length + p.length) c5]] w5 fun r w' => r = .returned (.tuple #[]) ∧ RfStep w w' B rb G (s.wr.put nm t) from by
                    have b5 : Below w3.heap.size w3 w5 := b4.grown hg5 b4.size (fun k hk => (o4.lt k hk).1)
                    rw [← bys_append, ← List.length_append, ht] at ho5
                    rw [← List.length_append, ht]
                    obtain ⟨a5, c5, rfl, hc5, -, -⟩ := ho5.shape'
                    exact ⟨a5, c5, rfl, RfStep.lay (RfStep.back ST2.out (b3.trans (b5.mono b3.size))) nm t a5 c5 (by omega) hc5 (ho5.rebase (base' := 0) (fun _ _ => Nat.zero_le _)) (fun k hk => by
                      have h9 := (ho5.lt k hk).1
                      have s3 := b3.size
                      have s2 := U2.out.size
                      have hr := (H.out.fl _ H.out.at_).2
                      have hB := H.out.bw
                      exact ⟨.inr (by omega), by omega, by omega⟩) hok⟩)
                  have HT := Lib.hid ht
                  have j1 : (p.length : Int) ≤ (bc : Int) := by omega
                  clear hold ht hok BC
                  go_upto_region 16 with fail
                  clear x3'
                  go_region_held3 (fun _ => True)
                    (first
                      | trivial)
                    (first
                      | (go_at_call 116; (with_reducible refine BCd.out.mono ?_); rintro r w3 ⟨fa, fc, rfl, y3, b3⟩; have Y3 := Lib.hid y3; have B3 := Lib.hid b3; clear y3 b3)
                      | (go_at_call 102; (with_reducible refine (CCx.out _ _ _ Y3.out).mono ?_); rintro r w4 ⟨v4, rfl, o4, b4⟩; have O4 := Lib.hid o4; have B4 := Lib.hid b4; clear o4 b4)
                      | (refine step_append rfl (.tmp 83) (.tmp 86) 74 74 rfl w3.heap.size 5 (.int .u8 0) 1 1 Tryz.underlying74 infoByte rfl (v := v4) (n := old.length) (xs := bys old) O4.out rfl (xv := .slice ba p.length bc) (m := p.length) (news := bys p) (SPx.out _ _ B3.out B4.out) rfl N1.out N2.out B4.out.size ?_; intro v5 w5 ho5 hg5 _ _; obtain ⟨a5, c5, rfl, ly⟩ := FIN5.out _ _ _ _ _ B3.out O4.out B4.out ho5 hg5; have LY := Lib.hid ly; clear ho5 hg5 ly)
                      | (go_at_call 47; (with_reducible refine LY.out.mono ?_); rintro r w6 ⟨rfl, st6⟩; have ST6 := Lib.hid st6; clear st6))
                  all_goals
                    go_wp2
                    go_ret
                    rw [RZ2.out, HOLD.out, HT.out]
                    exact ⟨rfl, ST6.out⟩
                · have s5 : decide (0 < kp) = false := decide_eq_false d5
                  have RX3 := RZ.out
                  rw [if_neg (fun h9 => h9.elim (fun h8 => Bool.noConfusion h8) d5)] at RX3
                  have RZ2 := Lib.hid RX3
                  clear RX3 RZ
                  go_wp2
                  go_ret
                  rw [RZ2.out]
                  exact ⟨rfl, ST2.out⟩
          · have RX2 := RX.out
            rw [if_neg c4] at RX2
            rw [decide_eq_false c4]
            have RZ := Lib.hid RX2
            clear RX RX2 c4 x3'
            go_wp2_with fail
            refine BC.out.mono ?_
            rintro r w3 ⟨fa, fc, rfl, -, ho, -, b3⟩
            rw [show bytC s.wr.C nm = bytC s.C nm from rfl] at ho ⊢
            obtain ⟨old, hold⟩ : ∃ q, bytC s.C nm = q := ⟨_, rfl⟩
            have ol : old.length ≤ 268435456 := by have := H.out.ok.byt nm; rw [hold] at this; exact this
            have HOLD := Lib.hid hold
            rw [hold] at ho ⊢
            obtain ⟨a2, c2, hv, -, -, hy, -, -⟩ := own_val ho
            simp only [Value.slice.injEq] at hv
            obtain ⟨rfl, -, rfl⟩ := hv
            have CC := Lib.hid (Copy_calls fa fc old w3 hy (by omega))
            have B3 := Lib.hid b3
            have Y3 := Lib.hid (Y2.out.below b3)
            clear ho hy b3 BC hold
            go_wp2_with fail
            refine CC.out.mono ?_
            rintro r w4 ⟨v4, rfl, o4, b4⟩
            have O4 := Lib.hid o4
            have B4 := Lib.hid b4
            have Y4 := Lib.hid (Y3.out.below b4)
            have N1 : Hid (old.length + b.length ≤ maxLen) := by show _ ≤ _; unfold maxLen; omega
            have N2 : Hid ((old.length + b.length) * 1 ≤ 140737488355328) := by show _ ≤ _; have := BL2.out; omega
            have N3 : Hid (w3.heap.size ≤ w4.heap.size) := b4.size
            clear o4 b4 CC
            go_wp2_with (at_builtin; refine wpList_append rfl (.tmp 53) (.tmp 54) 74 74 rfl w3.heap.size 5 (.int .u8 0) 1 1 Tryz.underlying74 infoByte rfl (v := v4) (n := old.length) (xs := bys old) O4.out rfl (xv := .slice ba b.length bc) (m := b.length) (news := bys b) (Src_byt Tryz.underlying74 Y4.out (fun _ => .inr trivial)) rfl N1.out N2.out N3.out ?_)
            rintro v5 w5 ho5 hg5 - -
            have b5 : Below w3.heap.size w3 w5 := B4.out.grown hg5 B4.out.size (fun k hk => (O4.out.lt k hk).1)
            rw [← bys_append, ← List.length_append] at ho5
            obtain ⟨t, ht⟩ : ∃ q, old ++ b = q := ⟨_, rfl⟩
            rw [ht] at ho5
            obtain ⟨a5, c5, rfl, hc5, -, -⟩ := ho5.shape'
            have hok : (s.wr.put nm t).ok := by
              have h9 := OKC.out
              rw [RZ.out, HOLD.out, ht] at h9
              exact h9
            have LY := Lib.hid (RfStep.lay (RfStep.back ST2.out (B3.out.trans (b5.mono B3.out.size))) nm t a5 c5 (by omega) hc5 (ho5.rebase (base' := 0) (fun _ _ => Nat.zero_le _)) (fun k hk => by
              have h9 := (ho5.lt k hk).1
              have s3 := B3.out.size
              have s2 := U2.out.size
              have hr := (H.out.fl _ H.out.at_).2
              have hB := H.out.bw
              exact ⟨.inr (by omega), by omega, by omega⟩) hok)
            have HT := Lib.hid ht
            clear ho5 hg5 b5 hc5 hok ht
            go_wp2_with fail
            refine LY.out.mono ?_
            rintro r w6 ⟨rfl, st6⟩
            have ST6 := Lib.hid st6
            clear st6 LY
            go_wp2
            go_ret
            rw [RZ.out, HOLD.out, HT.out]
            exact ⟨rfl, ST6.out⟩
    | true =>
      cases f2 with
      | true =>
        have RF := Lib.hid (REF.out (.inr (of_decide_eq_true HF3.out)))
        clear REF RW
        go_wp2_with fail
        go_quiet ((go_at_call 46; exact UQ.out _))
        go_wp2
        go_ret
        rw [RF.out]
        exact ⟨rfl, RfStep.same H.out (bel_drewN B1.out _)⟩
      | false =>
        have RX2 := RW.out
        rw [if_neg (fun h9 => h9.elim (fun h8 => Bool.noConfusion h8.1) (of_decide_eq_false HF3.out))] at RX2
        have RX := Lib.hid RX2
        have BL2 := Lib.hid (show b.length ≤ 268435456 by have := of_decide_eq_false HF3.out; omega)
        clear RX2 RW REF
        go_wp2_with fail
        go_quiet ((go_at_call 46; exact UQ.out _))
        go_wp2_with fail
        refine (torn_calls (H1.out.below (bel_drewN (Below.refl _ _) _)) HOF.out hw).mono ?_
        rintro r w2 ⟨rfl, st2⟩
        have ST2 := Lib.hid (RfStep.front H.out (bel_drewN B1.out _) st2)
        obtain ⟨G2, h2, u2, b2, g2⟩ := st2
        obtain ⟨a9, cc, blk, -, -, -⟩ := h2.cells
        obtain ⟨-, -, -, x3, -, -⟩ := rf_of blk
        have x3' : w2.cell? ⟨rb, 3, none⟩ = some (.int .i64 s.keep) := x3
        have U2 := Lib.hid ((Upd.ofBelow (bel_drewN B1.out _)).trans u2 (fun _ s _ => s.elim) (fun _ s _ => s) (S := fun i => i = rb))
        have Y2 := Lib.hid (YB.out.upd U2.out (fun ad e hne s => NE.out ad e hne s))
        have BC := Lib.hid (bytes9_calls h2 nm (by omega))
        have H2 := Lib.hid h2
        clear h2 u2 b2 g2 blk x3 x0 x1 UQ
        by_cases c4 : s.armed = 1
        · have RX2 := RX.out
          rw [if_pos c4] at RX2
          rw [decide_eq_true c4]
          obtain ⟨kp, hkp⟩ : ∃ q, s.keep = q := ⟨_, rfl⟩
          obtain ⟨kk, hkk, hkl⟩ : ∃ kk : Nat, max 0 (min kp (b.length : Int)) = kk ∧ kk ≤ b.length := ⟨(max 0 (min kp (b.length : Int))).toNat, by omega, by omega⟩
          obtain ⟨p, hp⟩ : ∃ p, keptB b kp = p := ⟨_, rfl⟩
          have hp2 : b.take kk = p := by rw [← hp]; unfold keptB; rw [hkk, Int.toNat_natCast]
          have hpl : p.length = kk := by rw [← hp2, List.length_take]; omega
          rw [hkp] at x3' RX2
          rw [hp] at RX2
          have RZ := Lib.hid RX2
          subst hpl
          have HKK := Lib.hid hkk; have HP2 := Lib.hid hp2
          clear RX RX2 c4 hkp hkk hp hp2
          go_upto_if 65 with fail
          go_cut [10] (fun v wx => v = .int .i64 (min kp (b.length : Int)) ∧ w2 = wx)
          case first =>
            by_cases d1 : (b.length : Int) < kp
            · have s1 : decide ((b.length : Int) < kp) = true := decide_eq_true d1
              go_wp2
              go_meet
              case rel => exact ⟨congrArg (Value.int .i64) (by omega), rfl⟩
            · have s1 : decide ((b.length : Int) < kp) = false := decide_eq_false d1
              go_wp2
              go_meet
              case rel => exact ⟨congrArg (Value.int .i64) (by omega), rfl⟩
          case rest =>
            obtain ⟨rfl, hwc⟩ := hcut
            subst hwc
            go_upto_if 69 with fail
            go_cut [10] (fun v wx => v = .int .i64 (p.length : Nat) ∧ w2 = wx)
            case first =>
              by_cases d1 : min kp (b.length : Int) < 0
              · have s1 : decide (min kp (b.length : Int) < 0) = true := decide_eq_true d1
                go_wp2
                go_meet
                case rel => exact ⟨congrArg (Value.int .i64) (by have := HKK.out; omega), rfl⟩
              · have s1 : decide (min kp (b.length : Int) < 0) = false := decide_eq_false d1
                go_wp2
                go_meet
                case rel => exact ⟨congrArg (Value.int .i64) (by have := HKK.out; omega), rfl⟩
            case rest =>
              obtain ⟨rfl, hwc⟩ := hcut
              subst hwc
              have RX3 := RZ.out
              rw [if_pos (.inl (by trivial))] at RX3
              have RZ2 := Lib.hid RX3
              clear RX3 RZ
              obtain ⟨old, hold⟩ : ∃ q, bytC s.C nm = q := ⟨_, rfl⟩
              have ol : old.length ≤ 268435456 := by have := H.out.ok.byt nm; rw [hold] at this; exact this
              obtain ⟨t, ht⟩ : ∃ q, old ++ p = q := ⟨_, rfl⟩
              have HOLD := Lib.hid hold
              have hpb : p.length ≤ b.length := by rw [← HP2.out, List.length_take]; omega
              have hok : (s.wr.put nm t).ok := by
                have h9 := OKC.out
                rw [RZ2.out, hold, ht] at h9
                exact h9
              have BCd := Lib.hid (show Calls Tryz.prog 116 #[.pointer (some ⟨rb, 0, none⟩), .string ⟨nm.toArray⟩] w2.drew fun r w' => ∃ fa fc, r = .returned (.slice fa old.length fc) ∧ Byt w' fa old ∧ Below w2.heap.size w2 w' from (bytes9_calls (H2.out.below (bel_drew (Below.refl _ _))) nm (by omega)).mono (fun r w' hr => by
                obtain ⟨fa, fc, rfl, _, ho, _, hb⟩ := hr
                rw [show bytC s.wr.C nm = old from hold] at ho ⊢
                obtain ⟨a2, c2, hv, -, -, hy, -, -⟩ := own_val ho
                simp only [Value.slice.injEq] at hv
                obtain ⟨rfl, -, rfl⟩ := hv
                exact ⟨fa, fc, rfl, hy, (bel_drew (Below.refl _ _)).trans hb⟩))
              have CCx := Lib.hid (fun (wx : World) (fa : Option Addr) (fc : Nat) (hy : Byt wx fa old) => Copy_calls fa fc old wx hy (by omega))
              have SPx := Lib.hid (fun (w3 w4 : World) (b3 : Below w2.heap.size w2 w3) (b4 : Below w3.heap.size w3 w4) => Src_byt (c := bc) Tryz.underlying74 (show Byt w4 ba p from by rw [← HP2.out]; exact ((Y2.out.below b3).below b4).take _) (fun _ => .inr trivial))
              have N1 : Hid (old.length + p.length ≤ maxLen) := by show _ ≤ _; unfold maxLen; omega
              have N2 : Hid ((old.length + p.length) * 1 ≤ 140737488355328) := by show _ ≤ _; have := BL2.out; omega
              have FIN5 := Lib.hid (fun (w3 w4 w5 : World) (v4 v5 : Value) (b3 : Below w2.heap.size w2 w3) (o4 : Own w4 w3.heap.size 5 1 v4 old.length (bys old)) (b4 : Below w3.heap.size w3 w4) (ho5 : Own w5 w3.heap.size 5 1 v5 (old.length + p.length) (bys old ++ bys p)) (hg5 : w4.grownBy w5 v4.ownBlock) => show ∃ a5 c5, v5 = .slice a5 (old.length + p.length) c5 ∧ Calls Tryz.prog 47 #[.pointer (some ⟨rb, 0, none⟩), .agg #[.string ⟨nm.toArray⟩, .slice a5 (old.length + p.length) c5]] w5 fun r w' => r = .returned (.tuple #[]) ∧ RfStep w w' B rb G (s.wr.put nm t) from by
                have b5 : Below w3.heap.size w3 w5 := b4.grown hg5 b4.size (fun k hk => (o4.lt k hk).1)
                rw [← bys_append, ← List.length_append, ht] at ho5
                rw [← List.length_append, ht]
                obtain ⟨a5, c5, rfl, hc5, -, -⟩ := ho5.shape'
                exact ⟨a5, c5, rfl, RfStep.lay (RfStep.back ST2.out (b3.trans (b5.mono b3.size))) nm t a5 c5 (by omega) hc5 (ho5.rebase (base' := 0) (fun _ _ => Nat.zero_le _)) (fun k hk => by
                  have h9 := (ho5.lt k hk).1
                  have s3 := b3.size
                  have s2 := U2.out.size
                  have hr := (H.out.fl _ H.out.at_).2
                  have hB := H.out.bw
                  exact ⟨.inr (by omega), by omega, by omega⟩) hok⟩)
              have HT := Lib.hid ht
              have j1 : (p.length : Int) ≤ (bc : Int) := by omega
              clear hold ht hok BC
              go_upto_region 16 with fail
              clear x3'
              go_region_held3 (fun _ => True)
                (first
                  | trivial)
                (first
                  | (go_at_call 116; (with_reducible refine BCd.out.mono ?_); rintro r w3 ⟨fa, fc, rfl, y3, b3⟩; have Y3 := Lib.hid y3; have B3 := Lib.hid b3; clear y3 b3)
                  | (go_at_call 102; (with_reducible refine (CCx.out _ _ _ Y3.out).mono ?_); rintro r w4 ⟨v4, rfl, o4, b4⟩; have O4 := Lib.hid o4; have B4 := Lib.hid b4; clear o4 b4)
                  | (refine step_append rfl (.tmp 83) (.tmp 86) 74 74 rfl w3.heap.size 5 (.int .u8 0) 1 1 Tryz.underlying74 infoByte rfl (v := v4) (n := old.length) (xs := bys old) O4.out rfl (xv := .slice ba p.length bc) (m := p.length) (news := bys p) (SPx.out _ _ B3.out B4.out) rfl N1.out N2.out B4.out.size ?_; intro v5 w5 ho5 hg5 _ _; obtain ⟨a5, c5, rfl, ly⟩ := FIN5.out _ _ _ _ _ B3.out O4.out B4.out ho5 hg5; have LY := Lib.hid ly; clear ho5 hg5 ly)
                  | (go_at_call 47; (with_reducible refine LY.out.mono ?_); rintro r w6 ⟨rfl, st6⟩; have ST6 := Lib.hid st6; clear st6))
              all_goals
                go_wp2
                go_ret
                rw [RZ2.out, HOLD.out, HT.out]
                exact ⟨rfl, ST6.out⟩
        · have RX2 := RX.out
          rw [if_neg c4] at RX2
          rw [decide_eq_false c4]
          have RZ := Lib.hid RX2
          clear RX RX2 c4 x3'
          go_wp2_with fail
          refine BC.out.mono ?_
          rintro r w3 ⟨fa, fc, rfl, -, ho, -, b3⟩
          rw [show bytC s.wr.C nm = bytC s.C nm from rfl] at ho ⊢
          obtain ⟨old, hold⟩ : ∃ q, bytC s.C nm = q := ⟨_, rfl⟩
          have ol : old.length ≤ 268435456 := by have := H.out.ok.byt nm; rw [hold] at this; exact this
          have HOLD := Lib.hid hold
          rw [hold] at ho ⊢
          obtain ⟨a2, c2, hv, -, -, hy, -, -⟩ := own_val ho
          simp only [Value.slice.injEq] at hv
          obtain ⟨rfl, -, rfl⟩ := hv
          have CC := Lib.hid (Copy_calls fa fc old w3 hy (by omega))
          have B3 := Lib.hid b3
          have Y3 := Lib.hid (Y2.out.below b3)
          clear ho hy b3 BC hold
          go_wp2_with fail
          refine CC.out.mono ?_
          rintro r w4 ⟨v4, rfl, o4, b4⟩
          have O4 := Lib.hid o4
          have B4 := Lib.hid b4
          have Y4 := Lib.hid (Y3.out.below b4)
          have N1 : Hid (old.length + b.length ≤ maxLen) := by show _ ≤ _; unfold maxLen; omega
          have N2 : Hid ((old.length + b.length) * 1 ≤ 140737488355328) := by show _ ≤ _; have := BL2.out; omega
          have N3 : Hid (w3.heap.size ≤ w4.heap.size) := b4.size
          clear o4 b4 CC
          go_wp2_with (at_builtin; refine wpList_append rfl (.tmp 53) (.tmp 54) 74 74 rfl w3.heap.size 5 (.int .u8 0) 1 1 Tryz.underlying74 infoByte rfl (v := v4) (n := old.length) (xs := bys old) O4.out rfl (xv := .slice ba b.length bc) (m := b.length) (news := bys b) (Src_byt Tryz.underlying74 Y4.out (fun _ => .inr trivial)) rfl N1.out N2.out N3.out ?_)
          rintro v5 w5 ho5 hg5 - -
          have b5 : Below w3.heap.size w3 w5 := B4.out.grown hg5 B4.out.size (fun k hk => (O4.out.lt k hk).1)
          rw [← bys_append, ← List.length_append] at ho5
          obtain ⟨t, ht⟩ : ∃ q, old ++ b = q := ⟨_, rfl⟩
          rw [ht] at ho5
          obtain ⟨a5, c5, rfl, hc5, -, -⟩ := ho5.shape'
          have hok : (s.wr.put nm t).ok := by
            have h9 := OKC.out
            rw [RZ.out, HOLD.out, ht] at h9
            exact h9
          have LY := Lib.hid (RfStep.lay (RfStep.back ST2.out (B3.out.trans (b5.mono B3.out.size))) nm t a5 c5 (by omega) hc5 (ho5.rebase (base' := 0) (fun _ _ => Nat.zero_le _)) (fun k hk => by
            have h9 := (ho5.lt k hk).1
            have s3 := B3.out.size
            have s2 := U2.out.size
            have hr := (H.out.fl _ H.out.at_).2
            have hB := H.out.bw
            exact ⟨.inr (by omega), by omega, by omega⟩) hok)
          have HT := Lib.hid ht
          clear ho5 hg5 b5 hc5 hok ht
          go_wp2_with fail
          refine LY.out.mono ?_
          rintro r w6 ⟨rfl, st6⟩
          have ST6 := Lib.hid st6
          clear st6 LY
          go_wp2
          go_ret
          rw [RZ.out, HOLD.out, HT.out]
          exact ⟨rfl, ST6.out⟩
  · have t1 : (e != 0) = true := bne_iff_ne.2 c1
    have RV2 := RV.out
    rw [if_pos c1] at RV2
    have RW := Lib.hid RV2
    clear RV2 RV RC
    go_wp2
    go_ret
    rw [RW.out]
    exact ⟨rfl, RfStep.same H.out (Below.refl _ _)⟩
end Go.Proofs.YtnbpkignkfabkaaGreatDoor
namespace Go.Proofs.YtnbpkignkfabkaaGreatDoor
set_option linter.unusedVariables false
set_option linter.unusedSimpArgs false
open Go.RowKit Go.Maps
def namesB (s : DS) : List (List UInt8) := if s.off = true then [] else nmsC s.C
/-- What the document's Load comes to. -/
def Load9P (w w' : World) (room : Int) (l : Con) (r : Ending) : Prop :=
  match (loadR room l).2 with
  | none => r = .returned (.tuple #[.pointer none, .int .i64 (loadR room l).1]) ∧ Below w.heap.size w w'
  | some s => ∃ rb G, r = .returned (.tuple #[.pointer (some ⟨rb, 0, none⟩), .int .i64 (loadR room l).1]) ∧ RfS w' w.heap.size rb G s ∧ Below w.heap.size w w'
set_option maxRecDepth 100000 in
set_option maxHeartbeats 4000000 in
theorem Load9_calls (room : Int) (l : Con) (a : Option Addr) (cap : Nat) (w : World) (h : Fil w a l) (hl : ∀ p ∈ l, p.1.length ≤ 140737488351232 ∧ p.2.length ≤ 140737488355328) (hn : l.length ≤ 140737488355328) :
    Calls Tryz.prog 15 #[.slice a l.length cap, .int .i64 room] w fun r w' => Load9P w w' room l r := by
  have FI := Lib.hid h; have HL := Lib.hid hl
  clear h hl
  go_enter Tryz.func15, Tryz.ntmps15
  by_cases c1 : room < 1
  · have e : loadR room l = (90, none) := if_pos (.inl c1)
    have t1 : decide (room < 1) = true := decide_eq_true c1
    have E := Lib.hid e
    clear e
    go_wp2
    go_ret2
    unfold Load9P
    rw [E.out]
    exact ⟨rfl, Below.refl _ _⟩
  · have t1 : decide (room < 1) = false := decide_eq_false c1
    by_cases c2 : 268435456 < room
    · have e : loadR room l = (90, none) := if_pos (.inr c2)
      have t2 : decide (268435456 < room) = true := decide_eq_true c2
      have E := Lib.hid e
      clear e
      go_wp2
      go_ret2
      unfold Load9P
      rw [E.out]
      exact ⟨rfl, Below.refl _ _⟩
    · have t2 : decide (268435456 < room) = false := decide_eq_false c2
      by_cases c3 : 64 < l.length
      · have e : loadR room l = (96, none) := by unfold loadR; rw [if_neg (fun h9 => h9.elim c1 c2), if_pos c3]
        have t3 : decide ((64 : Int) < (l.length : Int)) = true := decide_eq_true (by omega)
        have t3' : decide (64 < l.length) = true := decide_eq_true c3
        have E := Lib.hid e
        clear e
        go_wp2
        go_ret2
        unfold Load9P
        rw [E.out]
        exact ⟨rfl, Below.refl _ _⟩
      · have t3 : decide ((64 : Int) < (l.length : Int)) = false := decide_eq_false (by omega)
        have t3' : decide (64 < l.length) = false := decide_eq_false c3
        obtain ⟨rm, rfl⟩ : ∃ rm : Nat, room = rm := ⟨room.toNat, by omega⟩
        have E := Lib.hid (show loadR (rm : Int) l = match ldC rm l [] with | none => (96, none) | some C => (0, some { DS.new rm with C := C }) from by
          unfold loadR
          rw [if_neg (fun h9 => h9.elim c1 c2), if_neg c3, Int.toNat_natCast]
          cases ldC rm l [] <;> rfl)
        obtain ⟨w0, hw0⟩ : ∃ q, w.alloc (.cells #[.int .i64 (rm : Int), .slice none 0 0, .int .i64 0, .int .i64 0, .bool false, .int .i64 0] 104) = q := ⟨_, rfl⟩
        have W0 := Lib.hid hw0
        have b0 : Below w.heap.size w w0 := by rw [← hw0]; exact (Below.refl _ _).alloc (Nat.le_refl _) _
        have s0 : w0.heap.size = w.heap.size + 1 := by rw [← hw0]; simp
        have R0 : Hid (∃ G, RfS w0 w.heap.size w.heap.size G (DS.new rm)) := by
          refine ⟨fun i => i = w.heap.size, ⟨none, 0, [], by rw [← hw0]; exact heap_alloc_new w _, rfl, Own.nil _ _ _ _, (fun k hk => by cases hk), (fun f hf => by cases hf)⟩, ⟨List.Pairwise.nil, (fun _ h => by cases h), Nat.zero_le _, Nat.zero_le _, ?_, ?_, Int.le_refl _, by show (0 : Int) ≤ 9223372036854775807; decide⟩, rfl, fun i hi => by omega, b0.size⟩
          · show 1 ≤ rm; omega
          · show rm ≤ 268435456; omega
        have B0 := Lib.hid b0
        clear hw0 b0 s0
        go_wp2
        rw [W0.out]
        go_loopw [7, 8, 9] (fun vi _ _ wr => ∃ (i : Nat) (C : Con), vi = .int .i64 i ∧ i ≤ l.length ∧ C.length = i ∧ ldC rm l [] = ldC rm (l.drop i) C ∧ (∃ G, RfS wr w.heap.size w.heap.size G { DS.new rm with C := C }) ∧ Below w.heap.size w wr) (fun vi _ _ _ => l.length - (intOf vi).toNat)
        case atStart =>
          exact ⟨0, [], rfl, Nat.zero_le _, rfl, rfl, R0.out, B0.out⟩
        case round =>
          obtain ⟨i, C, rfl, hi, hCl, hld, ⟨G, hR⟩, hb⟩ := hrel
          have HR := Lib.hid hR; have BW := Lib.hid hb; have HCL := Lib.hid hCl
          have i64 : i ≤ 64 := by omega
          by_cases c4 : i < l.length
          · have t4 : decide ((i : Int) < (l.length : Int)) = true := decide_eq_true (by omega)
            have t4' : decide (i < l.length) = true := decide_eq_true c4
            have i2 : (i : Int) < (l.length : Int) := by omega
            obtain ⟨b1, o1, p1, k1, rfl, h1, h2, h3, h4⟩ := FI.out.below hb i c4
            obtain ⟨nm, hnm⟩ : ∃ q, l[i].1 = q := ⟨_, rfl⟩
            obtain ⟨t, ht⟩ : ∃ q, l[i].2 = q := ⟨_, rfl⟩
            have e3 : l[i] = (nm, t) := by rw [← hnm, ← ht]
            have hsz := HL.out _ (List.getElem_mem c4)
            rw [e3] at hsz
            have nml : nm.length ≤ 140737488351232 := hsz.1
            have tl : t.length ≤ 140737488355328 := hsz.2
            rw [hnm] at h1
            rw [ht] at h2 h3 h4
            have hstep : ldC rm l [] = if hasC C nm = true ∨ nmOk nm = false ∨ rm < sumC C + t.length then none else ldC rm (l.drop (i + 1)) (setC C nm t) := by
              rw [hld, List.drop_eq_getElem_cons c4, e3]
              rfl
            have HST := Lib.hid hstep
            have STEP := Lib.hid (fun (hc : hasC C nm = true ∨ nmOk nm = false ∨ rm < sumC C + t.length) => show ldC rm l [] = none from by rw [hstep, if_pos hc])
            have PC := Lib.hid (place_calls hR nm (by omega))
            have Y4 := Lib.hid h4
            obtain ⟨b0, hb0⟩ : ∃ q, hasC C nm = q := ⟨_, rfl⟩
            rw [show hasC ({ DS.new rm with C := C } : DS).C nm = b0 from hb0] at PC
            have HB0 := Lib.hid hb0
            have TX := Lib.hid (fun (wx : World) (hx : Below w.heap.size w wx) => FI.out.below hx i c4)
            clear hR hb hld hCl h1 h2 h3 h4 hnm ht hsz hstep hb0
            have EL := Lib.hid e3
            clear e3
            obtain ⟨b1', o1', p1', k1', eq1, h1, h2, h3, h4⟩ := TX.out wr BW.out
            cases eq1
            rw [EL.out] at h1 h2 h3 h4
            dsimp only at h1 h2 h3 h4
            go_wp2_with fail
            refine PC.out.mono ?_
            rintro r w2 ⟨rfl, b2⟩
            have BW2 := Lib.hid (BW.out.trans (b2.mono BW.out.size))
            have HR2 := Lib.hid (HR.out.below b2)
            have B2 := Lib.hid b2
            clear b2 PC h1 h2 h3 h4
            obtain ⟨b1', o1', p1', k1', eq1, h1, h2, h3, h4⟩ := TX.out w2 BW2.out
            cases eq1
            rw [EL.out] at h1 h2 h3 h4
            dsimp only at h1 h2 h3 h4
            have Y2 := Lib.hid h4
            clear h4
            have NQ0 := fun m : Nat => Calls.quiet_of_same (n := m) ((Named9_calls nm (w2.drewN m) (by omega)).mono (fun _ _ hr => ⟨hr.1, hr.2.symm⟩))
            have UQ0 := fun m : Nat => Calls.quiet_of_same (n := m) ((used_calls (HR2.out.below (bel_drewN (Below.refl _ _) m))).mono (fun _ _ hr => ⟨hr.1, hr.2.symm⟩))
            obtain ⟨ob, hob⟩ : ∃ q, nmOk nm = q := ⟨_, rfl⟩
            obtain ⟨sm, hsm⟩ : ∃ q, sumC C = q := ⟨_, rfl⟩
            rw [hob] at NQ0
            have k1s : sumC C ≤ rm := HR.out.ok.sum
            have k2s : rm ≤ 268435456 := HR.out.ok.r2
            rw [show sumC ({ DS.new rm with C := C } : DS).C = sm from hsm] at UQ0
            rw [hob, HB0.out, hsm] at STEP HST
            rw [hsm] at k1s
            have NQ := Lib.hid NQ0; have UQ := Lib.hid UQ0; have HOB := Lib.hid hob; have HSM := Lib.hid hsm
            clear NQ0 UQ0 hob hsm
            have wr1 : IntKind.i64.wrap ((rm : Int) - (sm : Int)) = (rm : Int) - (sm : Int) := IntWalk.i64_in _ (by omega)
            obtain ⟨f2, hf2, hf3⟩ : ∃ q : Bool, decide ((rm : Int) - (sm : Int) < (t.length : Int)) = q ∧ decide (rm < sm + t.length) = q := by
              by_cases c5 : rm < sm + t.length
              · exact ⟨true, decide_eq_true (by omega), decide_eq_true c5⟩
              · exact ⟨false, decide_eq_false (by omega), decide_eq_false c5⟩
            have HF3 := Lib.hid hf3
            clear hf3
            cases ob with
            | false =>
              have LN := Lib.hid (STEP.out (.inr (.inl (by trivial))))
              clear STEP
              go_wp2_with fail
              go_quiet ((first | (go_at_call 45; exact NQ.out _) | (go_at_call 46; exact UQ.out _)))
              go_wp2
              go_ret2
              unfold Load9P
              rw [E.out, LN.out]
              exact ⟨rfl, bel_drewN BW2.out _⟩
            | true =>
              cases b0 with
              | true =>
                have LN := Lib.hid (STEP.out (.inl (by trivial)))
                clear STEP
                go_wp2_with fail
                go_quiet ((first | (go_at_call 45; exact NQ.out _) | (go_at_call 46; exact UQ.out _)))
                go_wp2
                go_ret2
                unfold Load9P
                rw [E.out, LN.out]
                exact ⟨rfl, bel_drewN BW2.out _⟩
              | false =>
                cases f2 with
                | true =>
                  have LN := Lib.hid (STEP.out (.inr (.inr (of_decide_eq_true HF3.out))))
                  clear STEP
                  go_wp2_with fail
                  go_quiet ((first | (go_at_call 45; exact NQ.out _) | (go_at_call 46; exact UQ.out _)))
                  go_wp2
                  go_ret2
                  unfold Load9P
                  rw [E.out, LN.out]
                  exact ⟨rfl, bel_drewN BW2.out _⟩
                | false =>
                  have NX := Lib.hid (show ldC rm l [] = ldC rm (l.drop (i + 1)) (setC C nm t) from by
                    have h9 := HST.out
                    rw [if_neg (fun h8 => h8.elim (fun h7 => by simp at h7) (fun h7 => h7.elim (fun h6 => by simp at h6) (of_decide_eq_false HF3.out)))] at h9
                    exact h9)
                  have OKP : Hid ((({ DS.new rm with C := C } : DS).put nm t).ok) := by
                    refine HR.out.ok.put nm t HOB.out (.inr ?_) ?_
                    · show C.length < 64
                      have := HCL.out; omega
                    · show sumC C + t.length ≤ rm + _
                      have := of_decide_eq_false HF3.out; have := HSM.out; omega
                  have LEN : Hid ((setC C nm t).length = i + 1) := by
                    have h9 := len_set (b := t) HR.out.ok.so nm
                    have h8 : hasC ({ DS.new rm with C := C } : DS).C nm = false := HB0.out
                    rw [h8] at h9
                    have h7 : (setC C nm t).length + 0 = C.length + 1 := by simpa using h9
                    show _ = _
                    have := HCL.out; omega
                  clear STEP HST
                  go_wp2_with fail
                  go_quiet ((first | (go_at_call 45; exact NQ.out _) | (go_at_call 46; exact UQ.out _)))
                  go_wp2_with fail
                  refine (CopyFile_calls nm t _ _ _ (Y2.out.drewN _) (by omega)).mono ?_
                  rintro r w3 ⟨a3, c3', rfl, hc3, o3, b3⟩
                  have BA := Lib.hid ((bel_drewN B2.out _).trans (b3.mono (bel_drewN B2.out _).size))
                  have LY := Lib.hid (RfStep.lay (RfStep.same HR.out BA.out) nm t a3 c3' (by omega) hc3 (o3.rebase (base' := 0) (fun _ _ => Nat.zero_le _)) (fun k hk => by
                    have h9 := (o3.lt k hk).1
                    have s3 : wr.heap.size ≤ w2.heap.size := B2.out.size
                    have s4 : w2.heap.size ≤ k := h9
                    have hr := (HR.out.fl _ HR.out.at_).2
                    have hB := HR.out.bw
                    exact ⟨.inr (by omega), by omega, by omega⟩) OKP.out)
                  clear hc3 o3 b3 h1 h2 h3
                  go_wp2_with fail
                  refine LY.out.mono ?_
                  rintro r w4 ⟨rfl, st4⟩
                  obtain ⟨G4, g1, -, g3, -⟩ := st4
                  have ST := Lib.hid (show ∃ G, RfS w4 w.heap.size w.heap.size G { DS.new rm with C := setC C nm t } from ⟨G4, g1⟩)
                  have BF := Lib.hid (BW.out.trans g3)
                  clear g1 g3 LY
                  go_wp2
                  go_roundw
                  case rel => exact ⟨i + 1, _, by go_num, by omega, LEN.out, NX.out, ST.out, BF.out⟩
                  case measure => simp [intOf]; omega
          · have t4 : decide ((i : Int) < (l.length : Int)) = false := decide_eq_false (by omega)
            have t4' : decide (i < l.length) = false := decide_eq_false c4
            have LN : Hid (ldC rm l [] = some C) := by
              show _ = _
              rw [hld, List.drop_eq_nil_iff.2 (by omega)]
              rfl
            clear hR hb hld hCl
            go_wp2
            go_ret2
            unfold Load9P
            rw [E.out, LN.out]
            exact ⟨w.heap.size, G, rfl, HR.out, BW.out⟩
end Go.Proofs.YtnbpkignkfabkaaGreatDoor
namespace Go.Proofs.YtnbpkignkfabkaaGreatDoor
set_option linter.unusedVariables false
set_option linter.unusedSimpArgs false
open Go.RowKit Go.Maps
set_option maxRecDepth 100000 in
set_option maxHeartbeats 1000000 in
theorem New9_calls (room : Int) (w : World) :
    Calls Tryz.prog 6 #[.int .i64 room] w fun r w' => Load9P w w' room [] r := by
  have LC := Lib.hid (Load9_calls room [] none 0 w (fun i h => absurd h (Nat.not_lt_zero _)) (fun _ h => by cases h) (Nat.zero_le _))
  go_enter Tryz.func6, Tryz.ntmps6
  go_wp2_with fail
  refine LC.out.mono ?_
  rintro r w1 hr
  unfold Load9P at hr
  obtain ⟨q, hq⟩ : ∃ q, loadR room [] = q := ⟨_, rfl⟩
  rw [hq] at hr
  have HQ := Lib.hid hq
  clear hq
  obtain ⟨e, o⟩ := q
  cases o with
  | none =>
    obtain ⟨rfl, hb⟩ := hr
    have HB := Lib.hid hb
    clear hb LC
    go_wp2
    go_ret2
    unfold Load9P
    rw [HQ.out]
    exact ⟨rfl, HB.out⟩
  | some s =>
    obtain ⟨rb, G, rfl, h1, h2⟩ := hr
    have H1 := Lib.hid h1; have H2 := Lib.hid h2
    clear h1 h2 LC
    go_wp2
    go_ret2
    unfold Load9P
    rw [HQ.out]
    exact ⟨rb, G, rfl, H1.out, H2.out⟩
end Go.Proofs.YtnbpkignkfabkaaGreatDoor
