/- posternlaw1.Late.Settle: its walk. -/
import Derived.Test.YtjiciklnhcmfaaaGreatDoorLate4
namespace Go.Proofs.YtjiciklnhcmfaaaGreatDoor
set_option linter.unusedVariables false
set_option linter.unusedSimpArgs false
open Go.RowKit
theorem lt_nil {w : World} {base : Nat} {Pr : Nat → Prop} {tb : Nat} (hb : base ≤ tb) (h : w.heap[tb]? = some (.cells #[.slice none 0 0, .slice none 0 0] 61 (0, 0))) (hp : ∀ k, Pr k → k < w.heap.size ∧ k ≠ tb) : Lt w base Pr tb [] (.slice none 0 0) (.slice none 0 0) :=
  ⟨h, hb, Own.nil _ _ _ _, Own.nil _ _ _ _, (fun k e => by cases e), (fun g hg => by cases hg), (fun g hg => by cases hg), (fun i j _ g h hg => by cases hg), (fun k q => ⟨(hp k q).1, (by
    rintro (e | e | e | ⟨g, hg, _⟩ | ⟨g, hg, _⟩)
    · exact (hp k q).2 e
    · cases e
    · cases e
    · cases hg
    · cases hg)⟩), (fun g hg => by cases hg)⟩
set_option maxRecDepth 100000 in
set_option maxHeartbeats 2000000 in
theorem Settle_calls (w : World) (base : Nat) (Pr : Nat → Prop) (tb bb m n : Nat) (h : LBx w base Pr tb bb m) (hm : m ≤ 100000) (hn : n ≤ 1000) :
    Calls Tryz.prog 6 #[.pointer (some ⟨tb, 0, none⟩), .pointer (some ⟨bb, 0, none⟩), .int .i64 n] w fun r w' => r = .returned (.bool true) ∧ LBx w' base Pr tb bb (n - 1) ∧ Upd (Free base Pr) w w' := by
  obtain ⟨L, vg, vw, E, vb, vo, bat, tn, dn, us, hl, hb⟩ := h
  have c0 := hb.lt.k0
  have f0 := hb.lt.froz 0
  have c1 := hb.lt.k1
  have f1 := hb.lt.froz 1
  have hsame := same_calls w base Pr tb L vg vw hb.lt (by omega)
  have tlt := lt_of_block hb.lt.blk
  obtain ⟨av, cv, hvb, -, -, -⟩ := hb.lt.got.shape'
  subst hvb
  have HB := Lib.hid hb; have HS := Lib.hid hsame; clear hb hsame
  by_cases hln : L.length < n
  · have t1 : decide ((L.length : Int) < (n : Int)) = true := decide_eq_true (by omega)
    have t1' : decide (L.length < n) = true := decide_eq_true hln
    have HL : Hid (L.length ≤ n - 1) := by show _ ≤ _; omega
    clear hl
    go_enter Tryz.func6, Tryz.ntmps6
    go_wp2
    go_ret
    exact ⟨rfl, ⟨L, _, vw, E, vb, vo, bat, tn, dn, us, HL.out, HB.out⟩, Upd.refl _ _⟩
  · have t1 : decide ((L.length : Int) < (n : Int)) = false := decide_eq_false (by omega)
    have t1' : decide (L.length < n) = false := decide_eq_false hln
    go_enter Tryz.func6, Tryz.ntmps6
    go_wp2_with fail
    refine HS.out.mono ?_
    rintro r w1 ⟨q, rfl, rfl⟩
    have S0 := Lib.hid (SL.start HB.out ((Upd.refl (fun _ => False) w).drewN q))
    clear t1 t1' c0 c1
    go_wp2_with fail
    go_loopw [7] (fun vi wr => ∃ (i : Nat) (E : List Ent) (vb vo : Value) (tn : Int) (us : Nat), vi = .int .i64 i ∧ i ≤ L.length ∧ SL w wr base Pr tb bb L (.slice av L.length cv) vw i E vb vo bat tn dn us) (fun vi _ => L.length - (intOf vi).toNat)
    case atStart => exact ⟨0, E, vb, vo, tn, us, rfl, by omega, S0.out⟩
    case round =>
      clear S0
      obtain ⟨i, E, vb, vo, tn, us, rfl, hi, hs⟩ := hrel
      have SS := Lib.hid hs; clear hs
      have c0 : wr.cell? ⟨tb, 0, none⟩ = some (.slice av L.length cv) := by rw [cell_of_row' SS.out.blk]; rfl
      have lle : L.length ≤ 100000 := by omega
      by_cases hlt : i < L.length
      · have t1 : decide ((i : Int) < (L.length : Int)) = true := decide_eq_true (by omega)
        have t1' : decide (i < L.length) = true := decide_eq_true hlt
        obtain ⟨⟨ga, gc, gwa, gwc, gx⟩, hg⟩ : ∃ g, L[i]? = some g := ⟨_, List.getElem?_eq_getElem hlt⟩
        obtain ⟨g1, d1, hv1⟩ := SS.out.got.shape (by omega)
        cases hv1
        have q1 : wr.cell? ⟨g1, i, none⟩ = some (.slice ga gx.length gc) := by
          rw [SS.out.got.cellAt i (by omega)]
          simp [hg, Gt.val]
        have hr := SS.out.rest i (Nat.le_refl _) _ hg
        have hxl : gx.length ≤ 1000000000000 := HB.out.lt.xl _ (List.mem_of_getElem? hg)
        have BC := Lib.hid (BkBytes_calls wr base Pr bb E vb vo bat tn dn us SS.out.bk SS.out.cnt ga gx.length gc gx hr.1 hxl (fun k hk => ⟨fun hp => (SS.out.pr k hp).2.2 _ (List.mem_of_getElem? hg) hk, fun e he hk2 => hr.2 k hk (.inr (.inr (.inr ⟨e, he, hk2⟩)))⟩))
        have HG := Lib.hid hg
        clear hr hxl hg
        go_wp2_with fail
        refine BC.out.mono ?_
        rintro r w2 ⟨rfl, hp⟩
        obtain ⟨E', vb', vo', tn', us', hs'⟩ := SS.out.step HG.out hp
        have S2 := Lib.hid hs'; clear hs' hp
        clear c0 q1
        go_wp2
        go_roundw
        case rel => exact ⟨i + 1, E', vb', vo', tn', us', by go_num, by omega, S2.out⟩
        case measure => simp [intOf]; omega
      · have t1 : decide ((i : Int) < (L.length : Int)) = false := decide_eq_false (by omega)
        have t1' : decide (i < L.length) = false := decide_eq_false hlt
        have c1 : wr.cell? ⟨tb, 1, none⟩ = some vw := by rw [cell_of_row' SS.out.blk]; rfl
        have z0 := frozen_of_row SS.out.blk 0
        have z1 := frozen_of_row SS.out.blk 1
        have hblk : Hid (((wr.setCell ⟨tb, 0, none⟩ (.slice none 0 0)).setCell ⟨tb, 1, none⟩ (.slice none 0 0)).heap[tb]? = some (.cells #[.slice none 0 0, .slice none 0 0] 61 (0, 0))) := set_blk _ (set_blk _ SS.out.blk)
        have hU2 : Hid (Upd (fun k => k = tb) wr ((wr.setCell ⟨tb, 0, none⟩ (.slice none 0 0)).setCell ⟨tb, 1, none⟩ (.slice none 0 0))) := ((Upd.refl (fun k => k = tb) wr).setCell (p := ⟨tb, 0, none⟩) (fun _ => rfl) _).setCell (p := ⟨tb, 1, none⟩) (fun _ => rfl) _
        go_wp2_with fail
        generalize (wr.setCell ⟨tb, 0, none⟩ (.slice none 0 0)).setCell ⟨tb, 1, none⟩ (.slice none 0 0) = w2 at *
        have hbk := SS.out.bk.upd hU2.out (fun k s => by subst s; exact SS.out.nt)
        refine (Look_calls w2 base Pr bb E vb vo bat tn dn us hbk SS.out.cnt).mono ?_
        rintro r w3 ⟨rfl, E', vb', vo', bat', dn', p1, p2, p3, p4⟩
        have tb2 : tb < w2.heap.size := lt_of_block hblk.out
        have hb3 := (p4.block tb tb2 SS.out.nt).trans hblk.out
        have FU : Upd (Free base Pr) w w3 := (SS.out.up.trans hU2.out (fun k s _ => s) (fun k s _ => by
          subst s
          exact ⟨HB.out.lt.tbge, fun hp => (SS.out.pr _ hp).1 rfl⟩)).trans p4 (fun k s _ => s) (fun k s _ => by
          obtain ⟨f1, f2, f3⟩ := hbk.foot k s
          exact ⟨f1, f3⟩)
        have fin : LBx w3 base Pr tb bb (n - 1) := by
          refine ⟨[], _, _, E', vb', vo', bat', tn, dn', us, Nat.zero_le _, ⟨lt_nil HB.out.lt.tbge hb3 (fun k q => ⟨(p1.pr k q).1, (SS.out.pr k q).1⟩), p1, p2, ?_⟩⟩
          rintro k (e | e | e | ⟨g, hg, _⟩ | ⟨g, hg, _⟩)
          · subst e
            intro hq
            rcases p3 k hq with e | e
            · exact SS.out.nt e
            · omega
          · cases e
          · cases e
          · cases hg
          · cases hg
        have FUh := Lib.hid FU; have finh := Lib.hid fin
        clear FU fin hb3 p1 p2 p3 p4 hbk
        go_wp2
        go_ret
        exact ⟨rfl, finh.out, FUh.out⟩
end Go.Proofs.YtjiciklnhcmfaaaGreatDoor
