/- FrameBack's walk. -/
import Derived.Test.YtjiciklnhcmfaaaDoorStep
namespace Go.Proofs.YtjiciklnhcmfaaaDoor
set_option linter.unusedVariables false
set_option linter.unusedSimpArgs false
open Go.RowKit
set_option maxRecDepth 100000 in
theorem Head_calls (a : Option Addr) (cap : Nat) (t : List UInt8) (w : World) (hc : t.length ≤ cap) (hs : t.length ≤ 140737488355328) :
    Calls Tryd.prog 23 #[.slice a t.length cap] w fun r w' => r = .returned (.slice a (t.take 1048576).length cap) ∧ w = w' := by
  by_cases h : 1048576 < t.length
  · have t1 : decide ((1048576 : Int) < (t.length : Int)) = true := decide_eq_true (by omega)
    have t2 : decide (1048576 < t.length) = true := decide_eq_true h
    have hl : (t.take 1048576).length = 1048576 := by rw [List.length_take]; omega
    rw [hl]
    have hc2 : 1048576 ≤ cap := by omega
    clear hl
    go_enter Tryd.func23, Tryd.ntmps23
    go_wp2
    go_ret
    exact ⟨rfl, rfl⟩
  · have t1 : decide ((1048576 : Int) < (t.length : Int)) = false := decide_eq_false (by omega)
    have t2 : decide (1048576 < t.length) = false := decide_eq_false h
    rw [List.take_of_length_le (by omega)]
    go_enter Tryd.func23, Tryd.ntmps23
    go_wp2
    go_ret
    exact ⟨rfl, rfl⟩
theorem cells_of4 {w wx : World} {P : Nat} {v0 v1 v2 v3 : Value} {e : TypeId} (h : w.heap[P]? = some (.cells #[v0, v1, v2, v3] e (0, 0))) (hb : Below (P + 1) w wx) :
    wx.cell? ⟨P, 0, none⟩ = some v0 ∧ wx.cell? ⟨P, 1, none⟩ = some v1 ∧ wx.cell? ⟨P, 2, none⟩ = some v2 ∧ wx.cell? ⟨P, 3, none⟩ = some v3 := by
  have h' := (hb.block P (Nat.lt_succ_self P)).trans h
  exact ⟨by rw [cell_of_row' h']; rfl, by rw [cell_of_row' h']; rfl, by rw [cell_of_row' h']; rfl, by rw [cell_of_row' h']; rfl⟩
/-- A row of bytes and how many, with no error, as a taken frame leaves them. -/
def TakenR (w3 : World) (x : List UInt8) (k : Nat) (vb vn vg : Value) (wr : World) : Prop := ∃ a c, vb = .slice a x.length c ∧ vn = .int .i64 (k : Int) ∧ vg = .int .i64 0 ∧ Byt wr a x ∧ Below w3.heap.size w3 wr
set_option maxRecDepth 100000 in
set_option maxHeartbeats 4000000 in
theorem FrameBack_calls (w : World) (a : Option Addr) (cap n : Nat) (B T : Nat → List UInt8) (Ba Ta : Nat → Option Addr) (Bc Tc : Nat → Nat) (At By : Nat → Int) (h : RdF w a n B T Ba Ta Bc Tc At By) (hn : n ≤ 140737488355328) (ht : Tab w) (hg : 0 < w.heap.size) :
    Calls Tryd.prog 4 #[.slice a n cap] w fun r w' => r = .returned (.bool true) ∧ Below w.heap.size w w' := by
  have H := Lib.hid h; clear h
  have HT := Lib.hid ht; clear ht
  have HG := Lib.hid hg; clear hg
  go_enter Tryd.func4, Tryd.ntmps4
  go_upto_block 0 with (fail)
  go_cut [] (fun wr => Below w.heap.size w wr)
  case rest =>
    have Bw := Lib.hid hcut
    have T1 := Lib.hid (HT.out.below Bw.out)
    have G1 : Hid (0 < wc.heap.size) := Nat.lt_of_lt_of_le HG.out Bw.out.size
    clear hcut
    go_wp2_with fail
    refine (works_calls wc T1.out G1.out).mono ?_
    rintro r w2 ⟨rfl, hb2⟩
    have B2 := Lib.hid (Bw.out.trans (hb2.mono Bw.out.size))
    clear hb2
    go_wp2
    go_ret
    exact ⟨rfl, B2.out⟩
  case first =>
    go_wp2
    go_loopw [3, 4] (fun va vi wr => ∃ (i : Nat) (al : Nat), va = .int .i64 al ∧ vi = .int .i64 i ∧ i ≤ n ∧ al ≤ 65536 ∧ Below w.heap.size w wr) (fun _ vi _ => n - (intOf vi).toNat)
    case atStart => exact ⟨0, 0, rfl, rfl, Nat.zero_le _, by decide, Below.refl _ _⟩
    case round =>
      obtain ⟨i, al, rfl, rfl, hi, hal, hbw⟩ := hrel
      have BW := Lib.hid hbw; clear hbw
      by_cases c1 : i < n
      · have t1 : decide ((i : Int) < (n : Int)) = true := decide_eq_true (by omega)
        have t1' : decide (i < n) = true := decide_eq_true c1
        obtain ⟨b, o, rfl, k0, k1, k2, k3⟩ := H.out.cell i c1
        have hbl := World.block_lt_of_cell? _ _ k0
        have q0 := (BW.out.cell (p := ⟨b, o + i * 4, none⟩) hbl).trans k0
        have q1 := (BW.out.cell (p := ⟨b, o + i * 4 + 1, none⟩) hbl).trans k1
        have q2 := (BW.out.cell (p := ⟨b, o + i * 4 + 2, none⟩) hbl).trans k2
        have q3 := (BW.out.cell (p := ⟨b, o + i * 4 + 3, none⟩) hbl).trans k3
        obtain ⟨y1, y2⟩ := H.out.byt i c1
        obtain ⟨m1, m2⟩ := H.out.cap i c1
        obtain ⟨s1, s2⟩ := H.out.short i c1
        obtain ⟨⟨d1, d2⟩, ⟨d3, d4⟩⟩ := H.out.num i c1
        obtain ⟨x, hx⟩ : ∃ x, B i = x := ⟨_, rfl⟩
        obtain ⟨t, ht⟩ : ∃ x, T i = x := ⟨_, rfl⟩
        obtain ⟨na, hna⟩ : ∃ x, At i = x := ⟨_, rfl⟩
        obtain ⟨nb, hnb⟩ : ∃ x, By i = x := ⟨_, rfl⟩
        obtain ⟨xa, hxa⟩ : ∃ x, Ba i = x := ⟨_, rfl⟩
        obtain ⟨ta, hta⟩ : ∃ x, Ta i = x := ⟨_, rfl⟩
        obtain ⟨xc, hxc⟩ : ∃ x, Bc i = x := ⟨_, rfl⟩
        obtain ⟨tc, htc⟩ : ∃ x, Tc i = x := ⟨_, rfl⟩
        rw [hx] at q0 y1 m1 s1
        rw [hxa] at q0 y1
        rw [hxc] at q0 m1
        rw [ht] at q1 y2 m2 s2
        rw [hta] at q1 y2
        rw [htc] at q1 m2
        rw [hna] at q2 d1 d2
        rw [hnb] at q3 d3 d4
        have YX := Lib.hid y1; have YT := Lib.hid y2
        clear hx ht hna hnb hxa hta hxc htc y1 y2 k0 k1 k2 k3
        have hblr : b < wr.heap.size := Nat.lt_of_lt_of_le hbl BW.out.size
        by_cases c2 : 65536 < al + x.length + 1
        · have t2 : decide ((65536 : Int) < (al : Int) + (x.length : Int) + 1) = true := decide_eq_true (by omega)
          have t2' : decide (65536 < al + x.length + 1) = true := decide_eq_true c2
          go_wp2
          go_meet
          case rel => exact BW.out.alloc BW.out.size _
        · have t2 : decide ((65536 : Int) < (al : Int) + (x.length : Int) + 1) = false := decide_eq_false (by omega)
          have t2' : decide (65536 < al + x.length + 1) = false := decide_eq_false c2
          have xle : x.length ≤ 65536 := by omega
          go_wp2_with fail
          -- the world with the copy of p
          obtain ⟨P, hP⟩ : ∃ P, wr.heap.size = P := ⟨_, rfl⟩
          have w1c := heap_alloc_new wr (.cells #[.slice xa x.length xc, .slice ta t.length tc, .int .i64 na, .int .i64 nb] 65)
          rw [hP] at w1c
          have B1 : Hid (Below w.heap.size w (wr.alloc (.cells #[.slice xa x.length xc, .slice ta t.length tc, .int .i64 na, .int .i64 nb] 65))) := BW.out.alloc BW.out.size _
          have Psz : Hid (P < (wr.alloc (.cells #[.slice xa x.length xc, .slice ta t.length tc, .int .i64 na, .int .i64 nb] 65)).heap.size) := by show _ < _; rw [World.size_alloc, hP]; omega
          have Pge : Hid (w.heap.size ≤ P) := by show _ ≤ _; have := BW.out.size; omega
          have cP0 := fun (wx : World) (hb : Below (P + 1) (wr.alloc (.cells #[.slice xa x.length xc, .slice ta t.length tc, .int .i64 na, .int .i64 nb] 65)) wx) => cells_of4 w1c hb
          have CP := Lib.hid cP0; clear cP0
          rw [hP]
          refine (Copy_calls xa xc x _ (YX.out.below B1.out) (by omega)).mono ?_
          rintro r w2 ⟨v2, rfl, ho2, hb2⟩
          obtain ⟨a2, c2', rfl, _, hcc2, hy2, _⟩ := own_val ho2
          have Y2 := Lib.hid hy2
          have B2 := Lib.hid (B1.out.trans (hb2.mono B1.out.size))
          have P2 := Lib.hid (hb2.mono (Nat.succ_le_of_lt Psz.out))
          clear ho2 hb2 hy2
          go_wp2_with fail
          refine (Frame_calls w2 x a2 c2' Y2.out (HT.out.below B2.out) (Nat.lt_of_lt_of_le HG.out B2.out.size) (by omega)).mono ?_
          obtain ⟨fx, hfx⟩ : ∃ l, frm x = l := ⟨_, rfl⟩
          have lfx : fx.length = x.length + 13 := by rw [← hfx, frm_length]
          rw [show FrameR x = (frm x, 0) from if_pos (by omega), hfx]
          have HFX := Lib.hid hfx; have LFX := Lib.hid lfx; clear hfx lfx
          rintro r w3 ⟨v3, rfl, ho3, hb3⟩
          obtain ⟨fa, fc, rfl, _, hfc, hy3, _⟩ := own_val ho3
          have Y3 := Lib.hid hy3
          have B3 := Lib.hid (B2.out.trans (hb3.mono B2.out.size))
          have P3 := Lib.hid (P2.out.trans (hb3.mono (Nat.le_trans (Nat.succ_le_of_lt Psz.out) P2.out.size)))
          obtain ⟨z0, z1, z2, z3⟩ := CP.out w3 P3.out
          have P3sz : P < w3.heap.size := Nat.lt_of_lt_of_le Psz.out P3.out.size
          have ne1 : ((fx.length : Int) != (x.length : Int) + 13) = false := by rw [LFX.out]; simp
          clear ho3 hb3 hy3 w1c
          go_upto_region 11 with (go_at_call 21; refine (num_calls _ _).mono ?_; rintro r wx ⟨rfl, rfl⟩)
          -- the frame with a tail behind it
          have t1h : Hid ((t.take 1048576).length ≤ 1048576) := by show _ ≤ _; rw [List.length_take]; omega
          obtain ⟨u, hu⟩ : ∃ u, t.take 1048576 = u := ⟨_, rfl⟩
          have YU : Hid (Byt w3.drew ta u) := by show Byt _ _ _; rw [← hu]; exact (YT.out.below B3.out).take _
          have HC0 := fun wx => Head_calls ta tc t wx m2 (by omega)
          rw [hu] at HC0 t1h
          have HC := Lib.hid HC0; clear HC0
          obtain ⟨L2, hL2⟩ : ∃ L, fx ++ u = L := ⟨_, rfl⟩
          have hl2 : L2.length = fx.length + u.length := by rw [← hL2, List.length_append]
          have L2L := Lib.hid hl2; have L2H := Lib.hid hL2; have UH := Lib.hid hu
          clear hl2 hL2 hu
          have N1 : Hid (fx.length + u.length ≤ maxLen) := by show _ ≤ _; have := LFX.out; have := t1h.out; unfold maxLen; omega
          have N2 : Hid ((fx.length + u.length) * 1 ≤ 140737488355328) := by show _ ≤ _; have := LFX.out; have := t1h.out; omega
          have UNF : Hid (UnframeR L2 = (x, x.length + 13, 0)) := by show _ = _; rw [← L2H.out, ← HFX.out]; exact unframe_frm x u (by omega)
          have T3a := HT.out.below B3.out
          have T3 : Hid (Tab w3.drew) := T3a
          clear T3a
          have CQ0 := Copy_calls fa fc fx w3.drew Y3.out (by have := LFX.out; omega)
          have CQ := Lib.hid CQ0; clear CQ0
          have UQ0 := fun (wx : World) (a : Option Addr) (c : Nat) (h1 : Byt wx a L2) (h2 : L2.length ≤ c) (h3 : Tab wx) => Unframe_calls wx L2 a c h1 h2 (by have := L2L.out; have := LFX.out; have := t1h.out; omega) h3
          rw [UNF.out] at UQ0
          have UQ := Lib.hid UQ0; clear UQ0
          go_cut [8, 9, 10] (fun vb vn vg wr => TakenR w3 x (x.length + 13) vb vn vg wr)
          case first =>
            go_region_law (first
              | (refine step_call1 rfl (f := 20) (v := .slice fa fx.length fc) rfl rfl (Tryd.call20 _) CQ.out ?_; rintro e4 w4 ⟨v4, rfl, ho4, hb4⟩; refine ⟨_, rfl, ?_⟩; have B4 := Lib.hid hb4; have z14 := (hb4.cell (p := ⟨P, 1, none⟩) P3sz).trans z1; obtain ⟨a4, c4, rfl, _, _, _, _⟩ := own_val ho4; have O4 := Lib.hid ho4; clear ho4 hb4)
              | (refine step_call1 rfl (f := 23) (v := .slice ta t.length tc) rfl rfl (Tryd.call23 _) (HC.out _) ?_; rintro e5 w5 ⟨rfl, rfl⟩; refine ⟨_, rfl, ?_⟩)
              | (refine step_append rfl (.tmp 59) (.tmp 62) 55 55 rfl w.heap.size 5 (.int .u8 0) 1 1 Tryd.underlying55 infoByte rfl (n := fx.length) (xs := bys fx) (O4.out.mono B3.out.size) rfl (xv := .slice ta u.length tc) (m := u.length) (news := bys u) (Src_byt Tryd.underlying55 (YU.out.below B4.out) (fun _ => .inr trivial)) rfl N1.out N2.out (Nat.le_trans B3.out.size B4.out.size) ?_; intro v6 w6 ho6 hg6 _ _; rw [← L2L.out, ← bys_append, L2H.out] at ho6; have B6 := Lib.hid (B4.out.grown hg6 B4.out.size (fun k hk => (O4.out.lt k hk).1)); obtain ⟨a6, c6, rfl, _, hc6, hy6, _⟩ := own_val ho6; have Y6 := Lib.hid hy6; have C6 := Lib.hid hc6; clear ho6 hg6 hy6 hc6)
              | (refine step_call1 rfl (f := 22) (v := .slice a6 L2.length c6) rfl rfl (Tryd.call22 _) (UQ.out _ _ _ Y6.out C6.out (T3.out.below B6.out)) ?_; rintro e7 w7 ⟨v7, rfl, ho7, hb7⟩; refine ⟨_, rfl, ?_⟩; have B7 := Lib.hid (B6.out.trans (hb7.mono B6.out.size)); obtain ⟨a7, c7, rfl, _, hc7, hy7, _⟩ := own_val ho7; have Y7 := Lib.hid hy7; clear ho7 hb7 hy7 hc7))
            all_goals
              go_wp2_with fail
              go_meet
              case rel => exact ⟨a7, c7, rfl, rfl, rfl, Y7.out, bel_undrew B7.out⟩
          case rest =>
            obtain ⟨wA, rfl⟩ : ∃ q, q = wc := ⟨_, rfl⟩
            obtain ⟨a7, c7, rfl, rfl, rfl, hy7, hb7⟩ := hcut
            have B7 := Lib.hid hb7
            have C0 := Lib.hid (B3.out.trans (hb7.mono B3.out.size))
            have zc := (hb7.cell (p := ⟨P, 0, none⟩) P3sz).trans z0
            have zd := (hb7.cell (p := ⟨P, 1, none⟩) P3sz).trans z1
            have ze := (hb7.cell (p := ⟨P, 2, none⟩) P3sz).trans z2
            have zf := (hb7.cell (p := ⟨P, 3, none⟩) P3sz).trans z3
            have Pc : P < wA.heap.size := Nat.lt_of_lt_of_le P3sz hb7.size
            have YF := Lib.hid (Y3.out.below hb7)
            have x1 : (convert 55 9 (.slice a7 x.length c7)).run Tryd.prog wA = .ok (.string ⟨x.toArray⟩) wA := conv_bytes Tryd.underlying55 Tryd.underlying5 Tryd.underlying9 hy7
            have x2 : (convert 55 9 (.slice xa x.length xc)).run Tryd.prog wA = .ok (.string ⟨x.toArray⟩) wA := conv_bytes Tryd.underlying55 Tryd.underlying5 Tryd.underlying9 (YX.out.below C0.out)
            have ne2 : ((x.length : Int) + 13 != (fx.length : Int)) = false := by rw [LFX.out]; simp
            have ne3 : (((x.length + 13 : Nat) : Int) != (fx.length : Int)) = false := by rw [LFX.out]; simp
            clear hy7 hb7 z0 z1 z2 z3
            go_wp2_with (go_at_call 21; refine (num_calls _ _).mono ?_; rintro r wx ⟨rfl, rfl⟩)
            clear x1 x2 ne2 ne3
            have TC := Lib.hid (HT.out.below C0.out)
            have flen : fx.length ≤ 65549 := by have := LFX.out; omega
            go_loopw [11] (fun vk wr => ∃ k : Nat, vk = .int .i64 k ∧ k ≤ fx.length ∧ Below wA.heap.size wA wr) (fun vk _ => fx.length - (intOf vk).toNat)
            case atStart => exact ⟨0, rfl, Nat.zero_le _, Below.refl _ _⟩
            case round =>
              obtain ⟨k, rfl, hk, hbk⟩ := hrel
              have BK := Lib.hid hbk; clear hbk
              by_cases c3 : k < fx.length
              · have t3 : decide ((k : Int) < (fx.length : Int)) = true := decide_eq_true (by omega)
                have t3' : decide (k < fx.length) = true := decide_eq_true c3
                obtain ⟨tk, htk⟩ : ∃ l, fx.take k = l := ⟨_, rfl⟩
                have ltk : tk.length = k := by rw [← htk, List.length_take]; omega
                have UNK : UnframeR tk = ([], 0, 30) := by rw [← htk, ← HFX.out]; exact unframe_short x k (by omega) (by rw [HFX.out]; exact c3)
                have hy : Byt wr fa tk := by rw [← htk]; exact (YF.out.below BK.out).take _
                have hq := Unframe_calls wr tk fa k hy (by omega) (by have := LFX.out; omega) (TC.out.below BK.out)
                rw [UNK, ltk] at hq
                have HQ := Lib.hid hq
                clear hq hy UNK ltk htk
                have b1 : ¬ ((k : Int) < 0) := by omega
                have b2 : k ≤ fc := by omega
                have b3 : (k : Int) ≤ (fc : Int) := by omega
                by_cases c4 : 100 < k
                · have t4 : decide ((100 : Int) < (k : Int)) = true := decide_eq_true (by omega)
                  have t4' : decide (100 < k) = true := decide_eq_true c4
                  by_cases c5 : (k : Int) < (fx.length : Int) - 100
                  · have t5 : decide ((k : Int) < (fx.length : Int) - 100) = true := decide_eq_true c5
                    go_wp2
                    go_roundw
                    case rel => exact ⟨k + 1, by go_num, by omega, BK.out⟩
                    case measure => simp [intOf]; omega
                  · have t5 : decide ((k : Int) < (fx.length : Int) - 100) = false := decide_eq_false c5
                    go_wp2_with fail
                    refine HQ.out.mono ?_
                    rintro r wx ⟨v, rfl, _, hbx⟩
                    go_wp2_with (go_at_call 21; refine (num_calls _ _).mono ?_; rintro r wy ⟨rfl, rfl⟩)
                    go_roundw
                    case rel => exact ⟨k + 1, by go_num, by omega, BK.out.trans (hbx.mono BK.out.size)⟩
                    case measure => simp [intOf]; omega
                · have t4 : decide ((100 : Int) < (k : Int)) = false := decide_eq_false (by omega)
                  have t4' : decide (100 < k) = false := decide_eq_false c4
                  go_wp2_with fail
                  refine HQ.out.mono ?_
                  rintro r wx ⟨v, rfl, _, hbx⟩
                  go_wp2_with (go_at_call 21; refine (num_calls _ _).mono ?_; rintro r wy ⟨rfl, rfl⟩)
                  go_roundw
                  case rel => exact ⟨k + 1, by go_num, by omega, BK.out.trans (hbx.mono BK.out.size)⟩
                  case measure => simp [intOf]; omega
              · have t3 : decide ((k : Int) < (fx.length : Int)) = false := decide_eq_false (by omega)
                have t3' : decide (k < fx.length) = false := decide_eq_false c3
                go_wp2_with fail
                refine (Copy_calls fa fc fx wr (YF.out.below BK.out) (by omega)).mono ?_
                rintro r w5 ⟨v5, rfl, ho5, hb5⟩
                obtain ⟨g, cb, rfl⟩ := ho5.shape (by have := LFX.out; omega)
                have O5 := Lib.hid ho5
                have gge := (ho5.lt g rfl).1
                have B5 := Lib.hid (BK.out.trans (hb5.mono BK.out.size))
                obtain ⟨j, hj, hjl⟩ : ∃ j : Nat, na % (fx.length : Int) = j ∧ j < fx.length := ⟨(na % (fx.length : Int)).toNat, by have := Int.emod_nonneg na (show (fx.length : Int) ≠ 0 by have := LFX.out; omega); omega, by have := Int.emod_nonneg na (show (fx.length : Int) ≠ 0 by have := LFX.out; omega); have := Int.emod_lt_of_pos na (show (0 : Int) < fx.length by have := LFX.out; omega); omega⟩
                obtain ⟨m, hm, hml⟩ : ∃ m : Nat, nb % 255 = m ∧ m < 255 := ⟨(nb % 255).toNat, by omega, by omega⟩
                have W10 := fun wx => Within_calls na fx.length wx (by have := LFX.out; omega) (by omega) d1 d2
                rw [hj] at W10
                have W1 := Lib.hid W10; clear W10
                have W20 := fun wx => Within_calls nb 255 wx (by omega) (by omega) d3 d4
                rw [hm] at W20
                have W2 := Lib.hid W20; clear W20
                have c23 : w5.cell? ⟨g, j, none⟩ = some (.int .u8 (fx[j].toNat : Int)) := by rw [ho5.cellAt j (by omega)]; simp [bys, hjl]
                have f23 := ho5.frozenAt j (by omega)
                have y5 := (B5.out.cell (p := ⟨P, 2, none⟩) Pc).trans ze
                have y6 := (B5.out.cell (p := ⟨P, 3, none⟩) Pc).trans zf
                clear ho5 hb5 hj hm
                go_upto_region 23 with (go_at_call 24; refine (W1.out _).mono ?_; rintro r wx ⟨rfl, rfl⟩)
                have i1 : (j : Int) < (fx.length : Int) := by omega
                have SETH : Own (w5.setCell ⟨g, j, none⟩ (.int .u8 ((fx[j] ^^^ UInt8.ofNat (1 + m)).toNat : Int))) wr.heap.size 5 1 (.slice (some ⟨g, 0, none⟩) fx.length cb) fx.length (bys (bent fx j (UInt8.ofNat (1 + m)))) := by
                  have h := O5.out.set j (.int .u8 ((fx[j] ^^^ UInt8.ofNat (1 + m)).toNat : Int))
                  rw [bys_set] at h
                  rw [bent, show fx.getD j 0 = fx[j] by simp [List.getD, hjl]]
                  exact h
                have SET := Lib.hid SETH; clear SETH
                have BELH : Below wA.heap.size wA (w5.setCell ⟨g, j, none⟩ (.int .u8 ((fx[j] ^^^ UInt8.ofNat (1 + m)).toNat : Int))) := B5.out.setCell (by show _ ≤ g; exact Nat.le_trans BK.out.size gge) _
                have BEL := Lib.hid BELH; clear BELH
                have X8 : Hid (bits BinOp.xor IntKind.u8 (fx[j].toNat : Int) (IntKind.u8.wrap (IntKind.i64.wrap (1 + (m : Int)))) = ((fx[j] ^^^ UInt8.ofNat (1 + m)).toNat : Int)) := xor8 _ m hml
                go_cut [] (fun wx => Own wx wr.heap.size 5 1 (.slice (some ⟨g, 0, none⟩) fx.length cb) fx.length (bys (bent fx j (UInt8.ofNat (1 + m)))) ∧ Below wA.heap.size wA wx)
                case first =>
                  go_region_with (first | (go_at_call 24; refine (W2.out _).mono ?_; rintro r wx ⟨rfl, rfl⟩))
                  all_goals go_wp2_with fail
                  all_goals go_meet
                  all_goals
                    rw [X8.out]
                    exact ⟨SET.out, bel_drew BEL.out⟩
                case rest =>
                  obtain ⟨wB, rfl⟩ : ∃ q, q = wc := ⟨_, rfl⟩
                  obtain ⟨hoB, hbB⟩ := hcut
                  have yne : UInt8.ofNat (1 + m) ≠ 0 := by
                    intro h
                    have h1 := congrArg UInt8.toNat h
                    rw [UInt8.toNat_ofNat', Nat.mod_eq_of_lt (by omega)] at h1
                    simp at h1
                  obtain ⟨e, hun, he⟩ := unframe_bent x u j (UInt8.ofNat (1 + m)) (by omega) (by rw [HFX.out]; exact hjl) yne
                  rw [HFX.out] at hun
                  have lbt0 := bent_length fx j (UInt8.ofNat (1 + m))
                  obtain ⟨bt, hbt⟩ : ∃ l, bent fx j (UInt8.ofNat (1 + m)) = l := ⟨_, rfl⟩
                  rw [hbt] at hoB hun lbt0
                  have BT : Byt wB (some ⟨g, 0, none⟩) bt := hoB.byt.1
                  have zg := (hbB.cell (p := ⟨P, 1, none⟩) Pc).trans zd
                  have PB : P < wB.heap.size := Nat.lt_of_lt_of_le Pc hbB.size
                  have BB := Lib.hid (C0.out.trans (hbB.mono C0.out.size))
                  have TB0 := HT.out.below BB.out
                  have TB : Hid (Tab wB.drew) := TB0
                  have YUB0 : Byt wB ta u := by
                    have h1 := (YT.out.below BB.out).take 1048576
                    rw [UH.out] at h1
                    exact h1
                  have YUB : Hid (Byt wB.drew ta u) := YUB0
                  have CR0 := Copy_calls (some ⟨g, 0, none⟩) cb bt wB.drew BT (by omega)
                  rw [lbt0] at CR0
                  have CR := Lib.hid CR0; clear CR0
                  obtain ⟨L3, hL3⟩ : ∃ L, bt ++ u = L := ⟨_, rfl⟩
                  rw [hL3] at hun
                  have L3L : Hid (L3.length = fx.length + u.length) := by show _ = _; rw [← hL3, List.length_append, lbt0]
                  have L3H := Lib.hid hL3
                  have LBT := Lib.hid lbt0
                  have UR0 := fun (wx : World) (a : Option Addr) (c : Nat) (h1 : Byt wx a L3) (h2 : L3.length ≤ c) (h3 : Tab wx) => Unframe_calls wx L3 a c h1 h2 (by have := L3L.out; have := LFX.out; have := t1h.out; omega) h3
                  rw [hun] at UR0
                  have UR := Lib.hid UR0; clear UR0
                  have BBw := Lib.hid (show w.heap.size ≤ wB.drew.heap.size from BB.out.size)
                  clear hoB hbB hbt lbt0 hL3 TB0 YUB0 BT yne hun y5 y6 c23 f23
                  go_wp2_with fail
                  go_cut [17, 18, 19] (fun vb vn vg wx => (∃ a c, vb = .slice a 0 c) ∧ vn = .int .i64 0 ∧ vg = .int .i64 e ∧ Below wB.heap.size wB wx)
                  case first =>
                    go_region_law (first
                      | (refine step_call1 rfl (f := 20) (v := .slice (some ⟨g, 0, none⟩) fx.length cb) rfl rfl (Tryd.call20 _) CR.out ?_; rintro e4 w4 ⟨v4, rfl, ho4, hb4⟩; refine ⟨_, rfl, ?_⟩; have B4 := Lib.hid hb4; have z14 := (hb4.cell (p := ⟨P, 1, none⟩) PB).trans zg; obtain ⟨a4, c4, rfl, hnn, _, _, _⟩ := own_val ho4; have O4 := Lib.hid ho4; have NN := Lib.hid hnn; clear ho4 hb4 hnn)
                      | (refine step_call1 rfl (f := 23) (v := .slice ta t.length tc) rfl rfl (Tryd.call23 _) (HC.out _) ?_; rintro e5 w5 ⟨rfl, rfl⟩; refine ⟨_, rfl, ?_⟩)
                      | (refine step_append rfl (.tmp 134) (.tmp 137) 55 55 rfl w.heap.size 5 (.int .u8 0) 1 1 Tryd.underlying55 infoByte rfl (n := fx.length) (xs := bys bt) (O4.out.mono BBw.out) rfl (xv := .slice ta u.length tc) (m := u.length) (news := bys u) (Src_byt Tryd.underlying55 (YUB.out.below B4.out) (fun _ => .inr trivial)) rfl N1.out N2.out (Nat.le_trans BBw.out B4.out.size) ?_; intro v6 w6 ho6 hg6 _ _; rw [← L3L.out, ← bys_append, L3H.out] at ho6; have B6 := Lib.hid (B4.out.grown hg6 B4.out.size (fun k hk => (O4.out.lt k hk).1)); obtain ⟨a6, c6, rfl, _, hc6, hy6, _⟩ := own_val ho6; have Y6 := Lib.hid hy6; have C6 := Lib.hid hc6; clear ho6 hg6 hy6 hc6)
                      | (refine step_call1 rfl (f := 22) (v := .slice a6 L3.length c6) rfl rfl (Tryd.call22 _) (UR.out _ _ _ Y6.out C6.out (TB.out.below B6.out)) ?_; rintro e7 w7 ⟨v7, rfl, ho7, hb7⟩; refine ⟨_, rfl, ?_⟩; have B7 := Lib.hid (B6.out.trans (hb7.mono B6.out.size)); obtain ⟨a7, c7, rfl, _, hc7, hy7, _⟩ := own_val ho7; have Y7 := Lib.hid hy7; clear ho7 hb7 hy7 hc7))
                    all_goals
                      go_wp2_with fail
                      go_meet
                      case rel => exact ⟨⟨_, _, rfl⟩, rfl, rfl, bel_undrew B7.out⟩
                  case rest =>
                    obtain ⟨wD, rfl⟩ : ∃ q, q = wc := ⟨_, rfl⟩
                    obtain ⟨⟨a8, c8, rfl⟩, rfl, rfl, hbD⟩ := hcut
                    have BD := Lib.hid (BB.out.trans (hbD.mono BB.out.size))
                    clear hbD
                    have e0 : (e == 0) = false := by rcases he with h | h <;> subst h <;> rfl
                    have e30 : (e == 30) = false := by rcases he with h | h <;> subst h <;> rfl
                    go_wp2_with (go_at_call 21; refine (num_calls _ _).mono ?_; rintro r wy ⟨rfl, rfl⟩)
                    go_roundw
                    case rel => exact ⟨i + 1, al + x.length + 1, by go_num, by go_num, by omega, by omega, BD.out⟩
                    case measure => simp [intOf]; omega
      · have t1 : decide ((i : Int) < (n : Int)) = false := decide_eq_false (by omega)
        have t1' : decide (i < n) = false := decide_eq_false c1
        go_wp2
        go_meet
        case rel => exact BW.out
end Go.Proofs.YtjiciklnhcmfaaaDoor
