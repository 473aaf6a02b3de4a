/- FrameExact's walk. -/
import Derived.Test.YtjiciklnhcmfaaaDoorBookNew
import Derived.Test.YtjiciklnhcmfaaaDoorFRow
namespace Go.Proofs.YtjiciklnhcmfaaaDoor
set_option linter.unusedVariables false
set_option linter.unusedSimpArgs false
open Go.RowKit
set_option maxRecDepth 100000 in
set_option maxHeartbeats 8000000 in
theorem FrameExact_calls (w : World) (a1 a2 : Option Addr) (p1 p2 : Nat) (xss yss : List (List UInt8)) (Af Bf : Nat → Option Addr) (Cf Df : Nat → Nat) (h1 : Rd2 w a1 xss Af Cf) (h2 : Rd2 w a2 yss Bf Df) (n1 : xss.length ≤ 140737488351232) (n2 : yss.length ≤ 140737488351232) (ht : Tab w) (hg : 0 < w.heap.size) :
    Calls Tryd.prog 3 #[.agg #[.slice a1 xss.length p1, .slice a2 yss.length p2]] w fun r w' => r = .returned (.bool true) ∧ Below w.heap.size w w' := by
  have H1 := Lib.hid h1; have H2 := Lib.hid h2; have HT := Lib.hid ht; have HG := Lib.hid hg
  clear h1 h2 ht hg
  obtain ⟨w0, hw0⟩ : ∃ q, ((w.alloc (.cells #[.slice a1 xss.length p1, .slice a2 yss.length p2] 24)).alloc (.cells zBook 51)).alloc (.cells #[.slice none 0 0, .slice none 0 0] 54) = q := ⟨_, rfl⟩
  have b0 : Below w.heap.size w w0 := by rw [← hw0]; exact (((Below.refl _ w).alloc (Nat.le_refl _) _).alloc (by simp) _).alloc (by simp; omega) _
  have s0 : w0.heap.size = w.heap.size + 1 + 1 + 1 := by rw [← hw0, World.size_alloc, World.size_alloc, World.size_alloc]
  have e2 : w0.heap[w.heap.size + 1 + 1]? = some (.cells #[.slice none 0 0, .slice none 0 0] 54 (0, 0)) := by
    rw [← hw0]
    have h := heap_alloc_new ((w.alloc (.cells #[.slice a1 xss.length p1, .slice a2 yss.length p2] 24)).alloc (.cells zBook 51)) (.cells #[.slice none 0 0, .slice none 0 0] 54)
    rw [World.size_alloc, World.size_alloc] at h
    exact h
  have e1 : w0.heap[w.heap.size + 1]? = some (.cells zBook 51 (0, 0)) := by
    rw [← hw0, Below.heap_alloc _ _ _ (by rw [World.size_alloc, World.size_alloc]; omega)]
    have h := heap_alloc_new (w.alloc (.cells #[.slice a1 xss.length p1, .slice a2 yss.length p2] 24)) (.cells zBook 51)
    rw [World.size_alloc] at h
    exact h
  have e0 : w0.heap[w.heap.size]? = some (.cells #[.slice a1 xss.length p1, .slice a2 yss.length p2] 24 (0, 0)) := by
    rw [← hw0, Below.heap_alloc _ _ _ (by rw [World.size_alloc, World.size_alloc]; omega), Below.heap_alloc _ _ _ (by rw [World.size_alloc]; omega)]
    exact heap_alloc_new _ _
  have B0 := Lib.hid b0
  have L0 := Lib.hid (Late_new (Pr := fun k => k = w.heap.size) (fun k hk => by subst hk; exact ⟨by omega, by omega, by omega⟩) e2 e1 (show w.heap.size ≤ _ by omega) (by omega) (by omega))
  have PL : Hid (w.heap.size < w0.heap.size) := by show _ < _; omega
  have P0 : Hid (w0.cell? ⟨w.heap.size, 0, none⟩ = some (.slice a1 xss.length p1)) := by show _ = _; rw [cell_of_row' e0]; rfl
  have P1 : Hid (w0.cell? ⟨w.heap.size, 1, none⟩ = some (.slice a2 yss.length p2)) := by show _ = _; rw [cell_of_row' e0]; rfl
  have W0 := Lib.hid hw0
  clear b0 s0 e0 e1 e2 hw0
  go_enter Tryd.func3, Tryd.ntmps3
  go_upto_block 0 with (first | (with_reducible refine wpList_build (o := ⟨some 14, _, _, _, _, _⟩) rfl 51 rfl zBook zBook_built ?_) | (with_reducible refine wpList_box (o := ⟨some 15, _, _, _, _, _⟩) rfl 51 (.tmp 14) rfl zBook rfl ?_))
  rw [W0.out]
  clear W0
  go_cut [5] (fun va wr => ∃ al : Nat, va = .int .i64 al ∧ al ≤ 150000000000000 ∧ LBx wr w.heap.size (fun k => k = w.heap.size) (w.heap.size + 1 + 1) (w.heap.size + 1) 5 ∧ Upd (Free w.heap.size (fun k => k = w.heap.size)) w0 wr)
  case first =>
    go_wp2
    go_loopw [5, 6] (fun va vi wr => ∃ i al : Nat, va = .int .i64 al ∧ vi = .int .i64 i ∧ i ≤ xss.length ∧ al ≤ 1048576 ∧ LBx wr w.heap.size (fun k => k = w.heap.size) (w.heap.size + 1 + 1) (w.heap.size + 1) 5 ∧ Upd (Free w.heap.size (fun k => k = w.heap.size)) w0 wr) (fun _ vi _ => xss.length - (intOf vi).toNat)
    case atStart => exact ⟨0, 0, rfl, rfl, Nat.zero_le _, Nat.zero_le _, L0.out.mono (by decide), Upd.refl _ _⟩
    case round =>
      obtain ⟨i, al, rfl, rfl, hi, hal, hlb, hup⟩ := hrel
      have LW := Lib.hid hlb; have UW := Lib.hid hup; clear hlb hup
      have cP := (UW.out.cell (p := ⟨w.heap.size, 0, none⟩) PL.out (fun s => s.2 rfl)).trans P0.out
      by_cases c1 : i < xss.length
      · have t1 : decide ((i : Int) < (xss.length : Int)) = true := decide_eq_true (by omega)
        have t1' : decide (i < xss.length) = true := decide_eq_true c1
        have bw := Lib.hid (B0.out.trans ((Free.below UW.out B0.out.size).mono (Nat.le_refl _)))
        have sw := Lib.hid (Nat.le_trans B0.out.size UW.out.size)
        obtain ⟨b, o, rfl, k0⟩ := H1.out.cell i c1
        have hbl : b < w.heap.size := World.block_lt_of_cell? _ _ k0
        have q0 := (bw.out.cell (p := ⟨b, o + i, none⟩) hbl).trans k0
        have hy := H1.out.byt i c1
        have hcap := H1.out.cap i c1
        have hsh := H1.out.short i c1
        clear k0
        generalize xss[i] = x at *
        generalize Af i = xa at *
        generalize Cf i = xc at *
        have HY := Lib.hid hy; clear hy
        have nb : ¬ b = w.heap.size := by omega
        by_cases c2 : 1048576 < al + x.length + 13
        · have t2 : decide ((1048576 : Int) < (al : Int) + (x.length : Int) + 13) = true := decide_eq_true (by omega)
          have t2' : decide (1048576 < al + x.length + 13) = true := decide_eq_true c2
          go_wp2
          go_meet
          case rel => exact ⟨al + x.length + 13, by go_num, by omega, LW.out, UW.out⟩
        · have t2 : decide ((1048576 : Int) < (al : Int) + (x.length : Int) + 13) = false := decide_eq_false (by omega)
          have t2' : decide (1048576 < al + x.length + 13) = false := decide_eq_false c2
          have xle : x.length ≤ 1048576 := by omega
          have PX := Lib.hid (show x ≠ [] → ∀ k, xa.map (·.block) = some k → k < w.heap.size from fun hne k hk => by
            obtain ⟨ad, rfl, rfl⟩ := Option.map_eq_some_iff.1 hk
            exact HY.out.lt hne)
          go_wp2_with fail
          clear cP q0
          have Y0 := Lib.hid (HY.out.below bw.out)
          refine (Lend_calls xa xc x wr Y0.out (by omega)).mono ?_
          rintro r w1 ⟨g, cap, rfl, hln, hb1⟩
          have gge := hln.lt.1
          have glt := hln.lt.2
          have hcp := hln.cap
          have L1 := Lib.hid (LW.out.guard hb1 (Pr' := fun k => k = w.heap.size ∨ k = g) (fun k hk => by
            rcases hk with hk | hk
            · exact .inl hk
            · exact .inr ⟨by omega, by omega⟩))
          have N1 := Lib.hid hln
          have U1 := Lib.hid (UW.out.trans (Upd.ofBelowB hb1) (fun _ s _ => s) (fun k s hk => by have := UW.out.size; omega))
          have Bx1 := Lib.hid (bw.out.trans (hb1.mono sw.out))
          have u0 := UW.out.size
          clear hln hb1
          go_wp2_with fail
          -- once
          refine (framed_calls w1 w.heap.size (fun k => k = w.heap.size ∨ k = g) (w.heap.size + 1 + 1) (w.heap.size + 1) 5 L1.out (by decide) (some ⟨g, 0, none⟩) xa cap xc x N1.out.byt (HY.out.below Bx1.out) (by omega) (HT.out.below Bx1.out) HG.out (fun _ k hk => .inl (by cases hk; exact .inr rfl)) (fun hne k hk => .inr (PX.out hne k hk))).mono ?_
          rintro r w2 ⟨rfl, hl2, hu2⟩
          have L2 := Lib.hid hl2
          have N2 := Lib.hid (N1.out.upd hu2 (fun s => s.2 (.inr rfl)))
          have U2 := Lib.hid (U1.out.trans hu2 (fun _ s _ => s) (fun k s _ => ⟨s.1, fun e => s.2 (.inl e)⟩))
          have Bx2 := Lib.hid (Bx1.out.trans ((Free.below hu2 Bx1.out.size).mono (Nat.le_refl _)))
          clear hl2 hu2
          go_wp2_with fail
          -- twice
          refine (framed_calls w2 w.heap.size (fun k => k = w.heap.size ∨ k = g) (w.heap.size + 1 + 1) (w.heap.size + 1) 6 L2.out (by decide) (some ⟨g, 0, none⟩) xa cap xc x N2.out.byt (HY.out.below Bx2.out) (by omega) (HT.out.below Bx2.out) HG.out (fun _ k hk => .inl (by cases hk; exact .inr rfl)) (fun hne k hk => .inr (PX.out hne k hk))).mono ?_
          rintro r w3 ⟨rfl, hl3, hu3⟩
          have L3 := Lib.hid hl3
          have N3 := Lib.hid (N2.out.upd hu3 (fun s => s.2 (.inr rfl)))
          have U3 := Lib.hid (U2.out.trans hu3 (fun _ s _ => s) (fun k s _ => ⟨s.1, fun e => s.2 (.inl e)⟩))
          have Bx3 := Lib.hid (Bx2.out.trans ((Free.below hu3 Bx2.out.size).mono (Nat.le_refl _)))
          clear hl3 hu3
          go_wp2_with fail
          refine (Intact_calls wr.heap.size g cap x xa xc w3 N3.out (HY.out.below Bx3.out) (by omega)).mono ?_
          rintro r w4 ⟨nd, rfl, rfl⟩
          have L4 := Lib.hid (L3.out.upd ((Upd.refl (fun _ => False) w3).drewN nd) (fun _ s _ => s.elim))
          have N4 := Lib.hid (N3.out.upd ((Upd.refl (fun _ => False) w3).drewN nd) (fun s => s))
          have U4 := Lib.hid (U3.out.drewN nd)
          have Bx4 := Lib.hid (bel_drewN Bx3.out nd)
          generalize w3.drewN nd = w4 at *
          go_wp2_with fail
          -- other bytes
          refine (Other_calls xa xc x w4 (HY.out.below Bx4.out) (by omega)).mono ?_
          rintro r w5 ⟨v5, y, rfl, hyl, ho5, hb5⟩
          obtain ⟨oa, oc, rfl, -, hoc, hoy, hoa⟩ := own_vn ho5
          have g4 := N4.out.lt.2
          have OA := Lib.hid (show ∀ k, oa.map (·.block) = some k → w4.heap.size ≤ k ∧ k < w5.heap.size from fun k hk => by
            obtain ⟨ad, rfl, rfl⟩ := Option.map_eq_some_iff.1 hk
            exact (hoa ad rfl).2)
          have L5 := Lib.hid (L4.out.guard hb5 (Pr' := fun k => k = w.heap.size ∨ k = g ∨ oa.map (·.block) = some k) (fun k hk => by
            rcases hk with hk | hk | hk
            · exact .inl (.inl hk)
            · exact .inl (.inr hk)
            · exact .inr (OA.out k hk)))
          have N5 := Lib.hid (N4.out.upd (Upd.ofBelow hb5) (fun s => s))
          have U5 := Lib.hid (U4.out.trans (Upd.ofBelowB hb5) (fun _ s _ => s) (fun k s hk => by have := U4.out.size; omega))
          have Bx5 := Lib.hid (Bx4.out.trans (hb5.mono Bx4.out.size))
          have OY := Lib.hid hoy; have HYL := Lib.hid hyl
          clear ho5 hb5 hoy hoa hyl
          go_wp2_with fail
          refine (Into_calls wr.heap.size g cap x y oa oc w5 N5.out OY.out HYL.out (fun ad hae e => by have := (OA.out ad.block (by rw [hae]; rfl)).1; omega) (by omega)).mono ?_
          rintro r w6 ⟨rfl, hl6, hu6⟩
          have L6 := Lib.hid (L5.out.upd hu6 (fun k s _ => .inl (.inr (.inl s))))
          have U6 := Lib.hid (U5.out.trans hu6 (fun _ s _ => s) (fun k s hk => by subst s; omega))
          have OY6 := Lib.hid (OY.out.upd hu6 (fun ad hae _ s => by have := (OA.out ad.block (by rw [hae]; rfl)).1; omega))
          have Bx6 := Lib.hid (Bx5.out.trans (hu6.below (B := w.heap.size) (fun k s _ => by subst s; exact Nat.le_trans sw.out gge) Bx5.out.size))
          have N6 := Lib.hid hl6
          clear hl6 hu6
          rw [← HYL.out] at hcp hoc ⊢
          have yle : y.length ≤ 1048576 := by have := HYL.out; omega
          go_wp2_with fail
          refine (framed_calls w6 w.heap.size (fun k => k = w.heap.size ∨ k = g ∨ oa.map (·.block) = some k) (w.heap.size + 1 + 1) (w.heap.size + 1) 7 L6.out (by decide) (some ⟨g, 0, none⟩) oa cap oc y N6.out.byt OY6.out (by omega) (HT.out.below Bx6.out) HG.out (fun _ k hk => .inl (by cases hk; exact .inr (.inl rfl))) (fun hne k hk => .inl (.inr (.inr hk)))).mono ?_
          rintro r w7 ⟨rfl, hl7, hu7⟩
          have L7 := Lib.hid hl7
          have U7 := Lib.hid (U6.out.trans hu7 (fun _ s _ => s) (fun k s _ => ⟨s.1, fun e => s.2 (.inl e)⟩))
          clear hl7 hu7
          go_wp2_with fail
          refine (Settle_calls w7 w.heap.size (fun k => k = w.heap.size ∨ k = g ∨ oa.map (·.block) = some k) (w.heap.size + 1 + 1) (w.heap.size + 1) 8 6 L7.out (by decide) (by decide)).mono ?_
          rintro r w8 ⟨rfl, hl8, hu8⟩
          have L8 := Lib.hid (hl8.weak (Pr' := fun k => k = w.heap.size) (fun k hk => .inl hk))
          have U8 := Lib.hid (U7.out.trans hu8 (fun _ s _ => s) (fun k s _ => ⟨s.1, fun e => s.2 (.inl e)⟩))
          clear hl8 hu8
          go_wp2
          go_roundw
          case rel => exact ⟨i + 1, al + x.length + 13, by first | go_num | (rw [← HYL.out]; go_num), by go_num, by omega, by omega, L8.out, U8.out⟩
          case measure => simp [intOf]; omega
      · have t1 : decide ((i : Int) < (xss.length : Int)) = false := decide_eq_false (by omega)
        have t1' : decide (i < xss.length) = false := decide_eq_false c1
        go_wp2
        go_meet
        case rel => exact ⟨al, rfl, by omega, LW.out, UW.out⟩
  case rest =>
    obtain ⟨al0, rfl, hal0, hl0, hu0⟩ := hcut
    have LA := Lib.hid hl0; have UA := Lib.hid hu0
    clear hl0 hu0
    obtain ⟨wA, rfl⟩ : ∃ q, q = wc := ⟨_, rfl⟩
    go_upto_block 2 with (fail)
    go_cut [] (fun wr => LBx wr w.heap.size (fun k => k = w.heap.size) (w.heap.size + 1 + 1) (w.heap.size + 1) 5 ∧ Upd (Free w.heap.size (fun k => k = w.heap.size)) w0 wr)
    case first =>
      go_wp2
      go_loopw [5, 10] (fun va vi wr => ∃ i al : Nat, va = .int .i64 al ∧ vi = .int .i64 i ∧ i ≤ yss.length ∧ al ≤ 150000000000000 ∧ LBx wr w.heap.size (fun k => k = w.heap.size) (w.heap.size + 1 + 1) (w.heap.size + 1) 5 ∧ Upd (Free w.heap.size (fun k => k = w.heap.size)) w0 wr) (fun _ vi _ => yss.length - (intOf vi).toNat)
      case atStart => exact ⟨0, al0, rfl, rfl, Nat.zero_le _, hal0, LA.out, UA.out⟩
      case round =>
        obtain ⟨i, al, rfl, rfl, hi, hal, hlb, hup⟩ := hrel
        have LW := Lib.hid hlb; have UW := Lib.hid hup; clear hlb hup
        have cP := (UW.out.cell (p := ⟨w.heap.size, 1, none⟩) PL.out (fun s => s.2 rfl)).trans P1.out
        by_cases c1 : i < yss.length
        · have t1 : decide ((i : Int) < (yss.length : Int)) = true := decide_eq_true (by omega)
          have t1' : decide (i < yss.length) = true := decide_eq_true c1
          have bw := Lib.hid (B0.out.trans ((Free.below UW.out B0.out.size).mono (Nat.le_refl _)))
          have sw := Lib.hid (Nat.le_trans B0.out.size UW.out.size)
          obtain ⟨b, o, rfl, k0⟩ := H2.out.cell i c1
          have hbl : b < w.heap.size := World.block_lt_of_cell? _ _ k0
          have q0 := (bw.out.cell (p := ⟨b, o + i, none⟩) hbl).trans k0
          have hy := H2.out.byt i c1
          have hcap := H2.out.cap i c1
          have hsh := H2.out.short i c1
          clear k0
          generalize yss[i] = x at *
          generalize Bf i = xa at *
          generalize Df i = xc at *
          have HY := Lib.hid hy; clear hy
          have nb : ¬ b = w.heap.size := by omega
          by_cases c2 : 2097152 < al + x.length + 13
          · have t2 : decide ((2097152 : Int) < (al : Int) + (x.length : Int) + 13) = true := decide_eq_true (by omega)
            have t2' : decide (2097152 < al + x.length + 13) = true := decide_eq_true c2
            go_wp2
            go_meet
            case rel => exact ⟨LW.out, UW.out⟩
          · have t2 : decide ((2097152 : Int) < (al : Int) + (x.length : Int) + 13) = false := decide_eq_false (by omega)
            have t2' : decide (2097152 < al + x.length + 13) = false := decide_eq_false c2
            have xle : x.length ≤ 2097152 := by omega
            have PX := Lib.hid (show x ≠ [] → ∀ k, xa.map (·.block) = some k → k < w.heap.size from fun hne k hk => by
              obtain ⟨ad, rfl, rfl⟩ := Option.map_eq_some_iff.1 hk
              exact HY.out.lt hne)
            go_wp2_with fail
            clear cP q0
            have Y0 := Lib.hid (HY.out.below bw.out)
            refine (Lend_calls xa xc x wr Y0.out (by omega)).mono ?_
            rintro r w1 ⟨g, cap, rfl, hln, hb1⟩
            have gge := hln.lt.1
            have glt := hln.lt.2
            have hcp := hln.cap
            have L1 := Lib.hid (LW.out.guard hb1 (Pr' := fun k => k = w.heap.size ∨ k = g) (fun k hk => by
              rcases hk with hk | hk
              · exact .inl hk
              · exact .inr ⟨by omega, by omega⟩))
            have N1 := Lib.hid hln
            have U1 := Lib.hid (UW.out.trans (Upd.ofBelowB hb1) (fun _ s _ => s) (fun k s hk => by have := UW.out.size; omega))
            have Bx1 := Lib.hid (bw.out.trans (hb1.mono sw.out))
            have u0 := UW.out.size
            clear hln hb1
            go_wp2_with fail
            -- once
            refine (unframed_calls w1 w.heap.size (fun k => k = w.heap.size ∨ k = g) (w.heap.size + 1 + 1) (w.heap.size + 1) 5 L1.out (by decide) (some ⟨g, 0, none⟩) xa cap xc x N1.out.byt (HY.out.below Bx1.out) (by omega) (by omega) hcap (HT.out.below Bx1.out) HG.out (fun _ k hk => .inl (by cases hk; exact .inr rfl)) (fun hne k hk => .inr (PX.out hne k hk))).mono ?_
            rintro r w2 ⟨rfl, hl2, hu2⟩
            have L2 := Lib.hid hl2
            have N2 := Lib.hid (N1.out.upd hu2 (fun s => s.2 (.inr rfl)))
            have U2 := Lib.hid (U1.out.trans hu2 (fun _ s _ => s) (fun k s _ => ⟨s.1, fun e => s.2 (.inl e)⟩))
            have Bx2 := Lib.hid (Bx1.out.trans ((Free.below hu2 Bx1.out.size).mono (Nat.le_refl _)))
            clear hl2 hu2
            go_wp2_with fail
            -- twice
            refine (unframed_calls w2 w.heap.size (fun k => k = w.heap.size ∨ k = g) (w.heap.size + 1 + 1) (w.heap.size + 1) 6 L2.out (by decide) (some ⟨g, 0, none⟩) xa cap xc x N2.out.byt (HY.out.below Bx2.out) (by omega) (by omega) hcap (HT.out.below Bx2.out) HG.out (fun _ k hk => .inl (by cases hk; exact .inr rfl)) (fun hne k hk => .inr (PX.out hne k hk))).mono ?_
            rintro r w3 ⟨rfl, hl3, hu3⟩
            have L3 := Lib.hid hl3
            have N3 := Lib.hid (N2.out.upd hu3 (fun s => s.2 (.inr rfl)))
            have U3 := Lib.hid (U2.out.trans hu3 (fun _ s _ => s) (fun k s _ => ⟨s.1, fun e => s.2 (.inl e)⟩))
            have Bx3 := Lib.hid (Bx2.out.trans ((Free.below hu3 Bx2.out.size).mono (Nat.le_refl _)))
            clear hl3 hu3
            go_wp2_with fail
            refine (Intact_calls wr.heap.size g cap x xa xc w3 N3.out (HY.out.below Bx3.out) (by omega)).mono ?_
            rintro r w4 ⟨nd, rfl, rfl⟩
            have L4 := Lib.hid (L3.out.upd ((Upd.refl (fun _ => False) w3).drewN nd) (fun _ s _ => s.elim))
            have N4 := Lib.hid (N3.out.upd ((Upd.refl (fun _ => False) w3).drewN nd) (fun s => s))
            have U4 := Lib.hid (U3.out.drewN nd)
            have Bx4 := Lib.hid (bel_drewN Bx3.out nd)
            generalize w3.drewN nd = w4 at *
            go_wp2_with fail
            -- other bytes
            refine (Other_calls xa xc x w4 (HY.out.below Bx4.out) (by omega)).mono ?_
            rintro r w5 ⟨v5, y, rfl, hyl, ho5, hb5⟩
            obtain ⟨oa, oc, rfl, -, hoc, hoy, hoa⟩ := own_vn ho5
            have g4 := N4.out.lt.2
            have OA := Lib.hid (show ∀ k, oa.map (·.block) = some k → w4.heap.size ≤ k ∧ k < w5.heap.size from fun k hk => by
              obtain ⟨ad, rfl, rfl⟩ := Option.map_eq_some_iff.1 hk
              exact (hoa ad rfl).2)
            have L5 := Lib.hid (L4.out.guard hb5 (Pr' := fun k => k = w.heap.size ∨ k = g ∨ oa.map (·.block) = some k) (fun k hk => by
              rcases hk with hk | hk | hk
              · exact .inl (.inl hk)
              · exact .inl (.inr hk)
              · exact .inr (OA.out k hk)))
            have N5 := Lib.hid (N4.out.upd (Upd.ofBelow hb5) (fun s => s))
            have U5 := Lib.hid (U4.out.trans (Upd.ofBelowB hb5) (fun _ s _ => s) (fun k s hk => by have := U4.out.size; omega))
            have Bx5 := Lib.hid (Bx4.out.trans (hb5.mono Bx4.out.size))
            have OY := Lib.hid hoy; have HYL := Lib.hid hyl
            clear ho5 hb5 hoy hoa hyl
            go_wp2_with fail
            refine (Into_calls wr.heap.size g cap x y oa oc w5 N5.out OY.out HYL.out (fun ad hae e => by have := (OA.out ad.block (by rw [hae]; rfl)).1; omega) (by omega)).mono ?_
            rintro r w6 ⟨rfl, hl6, hu6⟩
            have L6 := Lib.hid (L5.out.upd hu6 (fun k s _ => .inl (.inr (.inl s))))
            have U6 := Lib.hid (U5.out.trans hu6 (fun _ s _ => s) (fun k s hk => by subst s; omega))
            have OY6 := Lib.hid (OY.out.upd hu6 (fun ad hae _ s => by have := (OA.out ad.block (by rw [hae]; rfl)).1; omega))
            have Bx6 := Lib.hid (Bx5.out.trans (hu6.below (B := w.heap.size) (fun k s _ => by subst s; exact Nat.le_trans sw.out gge) Bx5.out.size))
            have N6 := Lib.hid hl6
            clear hl6 hu6
            rw [← HYL.out] at hcp hoc ⊢
            have yle : y.length ≤ 2097152 := by have := HYL.out; omega
            go_wp2_with fail
            refine (unframed_calls w6 w.heap.size (fun k => k = w.heap.size ∨ k = g ∨ oa.map (·.block) = some k) (w.heap.size + 1 + 1) (w.heap.size + 1) 7 L6.out (by decide) (some ⟨g, 0, none⟩) oa cap oc y N6.out.byt OY6.out (by omega) (by omega) hoc (HT.out.below Bx6.out) HG.out (fun _ k hk => .inl (by cases hk; exact .inr (.inl rfl))) (fun hne k hk => .inl (.inr (.inr hk)))).mono ?_
            rintro r w7 ⟨rfl, hl7, hu7⟩
            have L7 := Lib.hid hl7
            have U7 := Lib.hid (U6.out.trans hu7 (fun _ s _ => s) (fun k s _ => ⟨s.1, fun e => s.2 (.inl e)⟩))
            clear hl7 hu7
            go_wp2_with fail
            refine (Settle_calls w7 w.heap.size (fun k => k = w.heap.size ∨ k = g ∨ oa.map (·.block) = some k) (w.heap.size + 1 + 1) (w.heap.size + 1) 8 6 L7.out (by decide) (by decide)).mono ?_
            rintro r w8 ⟨rfl, hl8, hu8⟩
            have L8 := Lib.hid (hl8.weak (Pr' := fun k => k = w.heap.size) (fun k hk => .inl hk))
            have U8 := Lib.hid (U7.out.trans hu8 (fun _ s _ => s) (fun k s _ => ⟨s.1, fun e => s.2 (.inl e)⟩))
            clear hl8 hu8
            go_wp2
            go_roundw
            case rel => exact ⟨i + 1, al + x.length + 13, by first | go_num | (rw [← HYL.out]; go_num), by go_num, by omega, by omega, L8.out, U8.out⟩
            case measure => simp [intOf]; omega
        · have t1 : decide ((i : Int) < (yss.length : Int)) = false := decide_eq_false (by omega)
          have t1' : decide (i < yss.length) = false := decide_eq_false c1
          go_wp2
          go_meet
          case rel => exact ⟨LW.out, UW.out⟩
    case rest =>
      obtain ⟨hl9, hu9⟩ := hcut
      have L9 := Lib.hid hl9; have U9 := Lib.hid hu9
      clear hl9 hu9
      go_wp2_with fail
      refine (Settle_calls _ w.heap.size (fun k => k = w.heap.size) (w.heap.size + 1 + 1) (w.heap.size + 1) 5 0 L9.out (by decide) (by decide)).mono ?_
      rintro r wE ⟨rfl, hlE, huE⟩
      have LE := Lib.hid hlE
      have UE := Lib.hid (U9.out.same huE)
      clear hlE huE
      go_wp2_with fail
      refine (Look_LB wE w.heap.size (fun k => k = w.heap.size) (w.heap.size + 1 + 1) (w.heap.size + 1) 0 LE.out).mono ?_
      rintro r wG ⟨rfl, hlG, huG⟩
      have BG := Lib.hid (B0.out.trans ((Free.below (UE.out.same huG) B0.out.size).mono (Nat.le_refl _)))
      have TG := Lib.hid (HT.out.below BG.out)
      have GG : Hid (0 < wG.heap.size) := Nat.lt_of_lt_of_le HG.out BG.out.size
      clear hlG huG
      go_wp2_with fail
      refine (works_calls wG TG.out GG.out).mono ?_
      rintro r wH ⟨rfl, hbH⟩
      have BH := Lib.hid (BG.out.trans (hbH.mono BG.out.size))
      clear hbH
      go_wp2
      go_ret
      exact ⟨rfl, BH.out⟩
end Go.Proofs.YtjiciklnhcmfaaaDoor
