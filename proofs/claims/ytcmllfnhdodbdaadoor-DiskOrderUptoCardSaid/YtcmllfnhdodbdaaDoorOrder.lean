/- posternlaw9.DiskOrder. -/
import Derived.Test.YtcmllfnhdodbdaaDoorHdF
import Derived.Test.YtcmllfnhdodbdaaDoorGoes2
import Derived.Test.YtcmllfnhdodbdaaDoorLong
import Derived.Deep.CutBlock
import Derived.Deep.DeepCutAuto
import Derived.Deep.RegionHeld3
import Derived.BigRegion
namespace Go.Proofs.YtcmllfnhdodbdaaDoor
set_option linter.unusedVariables false
set_option linter.unusedSimpArgs false
open Go.RowKit Go.Maps
set_option maxRecDepth 100000 in
set_option maxHeartbeats 8000000 in
theorem DiskOrder_calls (w : World) (C : Con) (pa : Option Addr) (pk : Nat) (turn rm : Int) (hf : Fil w pa C) (hl : C.length ≤ 140737488351232) (hs : ∀ p ∈ C, p.1.length ≤ 140737488351232 ∧ p.2.length ≤ 140737488351232) (ht1 : -9223372036854775808 ≤ turn) (ht2 : turn ≤ 9223372036854775807) :
    Calls Tryd.prog 4 #[.agg #[.slice pa C.length pk, .int .i64 turn, .int .i64 rm]] w fun r w' => r = .returned (.bool true) ∧ Below w.heap.size w w' := by
  obtain ⟨w0, hw0⟩ : ∃ q, w.alloc (.cells #[.slice pa C.length pk, .int .i64 turn, .int .i64 rm] 40) = q := ⟨_, rfl⟩
  have b0 : Below w.heap.size w w0 := by rw [← hw0]; exact (Below.refl _ _).alloc (Nat.le_refl _) _
  have blk : w0.heap[w.heap.size]? = some (.cells #[.slice pa C.length pk, .int .i64 turn, .int .i64 rm] 40 (0, 0)) := by rw [← hw0]; exact heap_alloc_new w _
  have s0 : w.heap.size < w0.heap.size := lt_of_block blk
  have CP := Lib.hid (fun (w' : World) (hb : Below w0.heap.size w0 w') => show w'.cell? ⟨w.heap.size, 0, none⟩ = some (.slice pa C.length pk) ∧ w'.cell? ⟨w.heap.size, 1, none⟩ = some (.int .i64 turn) ∧ w'.cell? ⟨w.heap.size, 2, none⟩ = some (.int .i64 rm) from by
    have h9 := (hb.block _ s0).trans blk
    exact ⟨by rw [cell_of_row' h9]; rfl, by rw [cell_of_row' h9]; rfl, by rw [cell_of_row' h9]; rfl⟩)
  have FC := Lib.hid (hf.below b0); have HS := Lib.hid hs
  have W0 := Lib.hid hw0; have B0 := Lib.hid b0; have S0 := Lib.hid s0
  have WK0 := Lib.hid (works9_calls w0)
  clear hf hs b0 blk hw0 s0
  by_cases g1 : 200 < C.length
  · have t1 : decide ((200 : Int) < (C.length : Int)) = true := decide_eq_true (by omega)
    have t1' : decide (200 < C.length) = true := decide_eq_true g1
    go_enter Tryd.func4, Tryd.ntmps4
    go_wp2_with fail
    rw [W0.out]
    refine WK0.out.mono ?_
    rintro r w2 ⟨rfl, b2⟩
    go_wp2
    go_ret
    exact ⟨rfl, B0.out.trans (b2.mono B0.out.size)⟩
  · have t1 : decide ((200 : Int) < (C.length : Int)) = false := decide_eq_false (by omega)
    have t1' : decide (200 < C.length) = false := decide_eq_false g1
    have SC := Lib.hid (size9_calls 0 0 0 0 [] [] [] none pa 0 pk C w0 FC.out (Nat.zero_le _) (by omega) HS.out)
    go_enter Tryd.func4, Tryd.ntmps4
    go_wp2_with fail
    rw [W0.out]
    refine SC.out.mono ?_
    rintro r w1 ⟨m, rfl, -, hm2, b1⟩
    have B1 := Lib.hid b1
    have WK1 := Lib.hid (works9_calls w1)
    clear b1 SC WK0
    by_cases g2 : 1048576 < m
    · have t2 : decide ((1048576 : Int) < (m : Int)) = true := decide_eq_true (by omega)
      have t2' : decide (1048576 < m) = true := decide_eq_true g2
      go_wp2_with fail
      refine WK1.out.mono ?_
      rintro r w2 ⟨rfl, b2⟩
      go_wp2
      go_ret
      exact ⟨rfl, B0.out.trans ((B1.out.trans (b2.mono B1.out.size)).mono B0.out.size)⟩
    · have t2 : decide ((1048576 : Int) < (m : Int)) = false := decide_eq_false (by omega)
      have t2' : decide (1048576 < m) = false := decide_eq_false g2
      go_wp2_with fail
      refine WK1.out.mono ?_
      rintro r w2 ⟨rfl, b2⟩
      have B2 := Lib.hid (B1.out.trans (b2.mono B1.out.size))
      obtain ⟨q0, q1, q2⟩ := CP.out w2 B2.out
      have CF := Lib.hid (CopyFiles_calls C pa pk w2 (FC.out.below B2.out) (by omega) (fun p hp => by have := (HS.out p hp).2; omega))
      clear b2 WK1 B1
      go_wp2_with fail
      refine CF.out.mono ?_
      rintro r w3 ⟨v, M, rfl, hM, hf, b3⟩
      have hn : M.length = C.length := by rw [← hM]; simp [conF]
      obtain ⟨n, hn'⟩ : ∃ n, M.length = n := ⟨_, rfl⟩
      have hn3 : n ≤ 200 := by omega
      obtain ⟨al, cl, hv, hcl, hfl⟩ := hf.fil
      subst hv
      have B3 := Lib.hid (B2.out.trans (b3.mono B2.out.size))
      have HD := Lib.hid (hf.hdF)
      have FI := Lib.hid hf; have CM := Lib.hid hM; have HN := Lib.hid hn'
      rw [hn'] at hn hcl ⊢
      clear hf hM hfl b3 CF hn q0 q1 q2 g1 t1 t1' g2 t2 t2' FC
      obtain ⟨q0, q1, q2⟩ := CP.out w3 B3.out
      obtain ⟨r, hr1, hr2, hr3⟩ : ∃ r : Nat, (0 < n → turn % (n : Int) = r) ∧ r ≤ n ∧ (0 < n → r < n) := by
        by_cases c : 0 < n
        · have := Int.emod_lt_of_pos turn (show (0 : Int) < n by omega)
          have := Int.emod_nonneg turn (show (n : Int) ≠ 0 by omega)
          exact ⟨(turn % (n : Int)).toNat, fun _ => by omega, by omega, fun _ => by omega⟩
        · exact ⟨0, fun h => absurd h c, by omega, fun h => absurd h c⟩
      have WI := Lib.hid (fun (wx : World) (h0 : 0 < n) => by
        have h9 := Within_calls turn (n : Int) wx (by omega) (by omega) ht1 ht2
        rw [hr1 h0] at h9
        exact h9)
      obtain ⟨R, hR⟩ : ∃ R, M.drop r ++ M.take r = R := ⟨_, rfl⟩
      have RL : R.length = n := by rw [← hR, ← HN.out]; have := HN.out; simp; omega
      have RP := Lib.hid (show R.Perm M by rw [← hR]; exact rot_perm M r)
      have RG := Lib.hid (fun (j : Nat) (hj : j < n) => show ∃ (h : (j + r) % n < M.length), R[j]? = some (M[(j + r) % n]) from by
        subst hR
        obtain ⟨h1, h2⟩ := rot_get (M := M) (r := r) (j := j) (by have := hr3 (by omega); have := HN.out; omega) (by have := HN.out; omega)
        have e9 := HN.out
        subst e9
        exact ⟨h1, h2⟩)
      have RLH := Lib.hid RL
      clear hR hr1 hr3 hn' RL
      go_wp2
      go_loopw [4, 5] (fun v4 vi wr => ∃ j : Nat, vi = .int .i64 j ∧ j ≤ n ∧ Own wr w3.heap.size 33 2 v4 j (fcells (R.take j)) ∧ Below w3.heap.size w3 wr) (fun _ vi _ => n - (intOf vi).toNat)
      case atStart => exact ⟨0, rfl, Nat.zero_le _, Own.nil _ _ _ _, Below.refl _ _⟩
      case round =>
        obtain ⟨j, rfl, hj, ho, hb⟩ := hrel
        have OW := Lib.hid ho; have BW := Lib.hid hb
        have HDW := Lib.hid (HD.out.below hb)
        obtain ⟨x0, x1, x2⟩ := CP.out wr (B3.out.trans (hb.mono B3.out.size))
        clear ho hb q0 q1 q2
        by_cases c1 : j < n
        · have t1 : decide ((j : Int) < (n : Int)) = true := decide_eq_true (by omega)
          have t1' : decide (j < n) = true := decide_eq_true c1
          obtain ⟨hq1, hq2⟩ := RG.out j c1
          obtain ⟨q, hq⟩ : ∃ q, (j + r) % n = q := ⟨_, rfl⟩
          have hqm : ((j : Int) + (r : Int)).tmod (n : Int) = (q : Int) := by
            rw [Int.tmod_eq_emod_of_nonneg (by omega), ← hq]
            simp
          simp only [hq] at hq1 hq2
          have hqn : q < n := by have := HN.out; omega
          obtain ⟨g, cap, hv⟩ := HDW.out.own.shape (by omega)
          simp only [Value.slice.injEq] at hv
          obtain ⟨rfl, -, rfl⟩ := hv
          have OL := HDW.out.own
          rw [HN.out] at OL
          have y0 := (OL.cellAt (q * 2) (by omega)).trans (fcells_get hq1).1
          have y1 := (OL.cellAt (q * 2 + 1) (by omega)).trans (fcells_get hq1).2
          obtain ⟨f, hfq⟩ : ∃ f, M[q] = f := ⟨_, rfl⟩
          rw [hfq] at y0 y1 hq2
          have HQ2 := Lib.hid hq2
          clear hq2 hq1 hfq OL hq
          obtain ⟨fnm, fby, fa, fc⟩ := f
          have N1 : Hid (j + 1 ≤ maxLen) := by show _ ≤ _; unfold maxLen; omega
          have N2 : Hid ((j + 1) * 40 ≤ 140737488355328) := by show _ ≤ _; omega
          have N3 : Hid (w3.heap.size ≤ (wr.alloc (.cells #[.string ⟨fnm.toArray⟩, .slice fa fby.length fc] 33)).heap.size) := by
            show _ ≤ _
            rw [World.size_alloc]
            have := BW.out.size; omega
          go_wp2_with (first
            | (go_at_call 6; refine (WI.out _ (by omega)).mono ?_; rintro r wx ⟨rfl, rfl⟩)
            | (at_builtin; refine wpList_append rfl (.tmp 38) (.tmp 52) 34 34 rfl w3.heap.size 33 (.agg #[.string ⟨#[]⟩, .slice none 0 0]) 2 40 Tryd.underlying34 infoFile rfl (v := u4) (n := j) (xs := fcells (R.take j)) (OW.out.alloc _) rfl (xv := .slice (some ⟨wr.heap.size, 0, none⟩) 1 1) (m := 1) (news := [.string ⟨fnm.toArray⟩, .slice fa fby.length fc]) (Src_new2 Tryd.underlying34 (heap_alloc_new wr _) rfl rfl) rfl N1.out N2.out N3.out ?_))
          rintro v9 w9 ho9 hg9 - hv9
          have NX : Hid (Own w9 w3.heap.size 33 2 v9 (j + 1) (fcells (R.take (j + 1))) ∧ Below w3.heap.size w3 w9) := by
            have U9 : Upd (fun i => u4.ownBlock = some i) wr w9 := ((Upd.refl _ wr).alloc _).grown hg9 (fun k hk _ => hk)
            refine ⟨?_, BW.out.trans (U9.below (fun k hk _ => (OW.out.lt k hk).1) BW.out.size)⟩
            have hjR : j < R.length := by have := RLH.out; omega
            have h9 := HQ2.out
            rw [List.getElem?_eq_some_iff] at h9
            obtain ⟨_, h9⟩ := h9
            rw [List.take_succ_eq_append_getElem hjR, h9, fcells_snoc]
            exact ho9
          clear ho9 hg9 hv9
          go_wp2
          go_roundw
          case rel => exact ⟨j + 1, by go_num, by omega, NX.out⟩
          case measure => simp [intOf]; omega
        · have t1 : decide ((j : Int) < (n : Int)) = false := decide_eq_false (by omega)
          have t1' : decide (j < n) = false := decide_eq_false c1
          have ej : j = n := by omega
          subst ej
          have OR : Hid (Own wr w3.heap.size 33 2 u4 j (fcells R)) := by
            have h9 := OW.out
            rw [List.take_of_length_le (by have := RLH.out; omega)] at h9
            exact h9
          obtain ⟨am, cm, hv, hcm, -, -⟩ := OR.out.shape'
          subst hv
          clear OW RG WI
          go_upto_if 57 with fail
          go_cut [] (fun wx => ∃ M' : List Fl, M'.Perm M ∧ Own wx w3.heap.size 33 2 (.slice am j cm) j (fcells M') ∧ Below w3.heap.size w3 wx)
          case first =>
            obtain ⟨z, hz⟩ : ∃ z, (turn.tmod 2 != 0) = z := ⟨_, rfl⟩
            cases z with
            | false =>
              go_wp2
              go_meet
              case rel => exact ⟨R, RP.out, OR.out, BW.out⟩
            | true =>
              go_wp2
              go_loopw [6] (fun vi wx => ∃ (i : Nat) (M' : List Fl), vi = .int .i64 i ∧ i ≤ j / 2 ∧ M'.Perm M ∧ Own wx w3.heap.size 33 2 (.slice am j cm) j (fcells M') ∧ Below w3.heap.size w3 wx) (fun vi _ => j - (intOf vi).toNat)
              case atStart => exact ⟨0, R, rfl, Nat.zero_le _, RP.out, OR.out, BW.out⟩
              case round =>
                obtain ⟨i, M', rfl, hi, hp, ho, hb⟩ := hrel
                have OW := Lib.hid ho; have BW2 := Lib.hid hb; have HP := Lib.hid hp
                clear ho hb hp
                obtain ⟨k2, hk2, hk3⟩ : ∃ k2 : Nat, (j : Int).tdiv 2 = (k2 : Int) ∧ j / 2 = k2 := ⟨j / 2, by rw [Int.tdiv_eq_ediv_of_nonneg (by omega)]; omega, rfl⟩
                rw [hk3] at hi ⊢
                have hk5 : k2 ≤ 100 := by omega
                have wk : IntKind.i64.wrap (k2 : Int) = (k2 : Int) := IntWalk.i64_in _ (by omega)
                by_cases c1 : i < k2
                · have t1 : decide ((i : Int) < (k2 : Int)) = true := decide_eq_true (by omega)
                  have t1' : decide (i < k2) = true := decide_eq_true c1
                  have ML : M'.length = j := by have := HP.out.length_eq; have := HN.out; omega
                  obtain ⟨q, hq⟩ : ∃ q, j - 1 - i = q := ⟨_, rfl⟩
                  have hq2 : (j : Int) - 1 - (i : Int) = (q : Int) := by omega
                  have hq3 : q < j := by omega
                  have hq4 : i < q := by omega
                  obtain ⟨g, cap, hv⟩ := OW.out.shape (by omega)
                  simp only [Value.slice.injEq] at hv
                  obtain ⟨rfl, -, rfl⟩ := hv
                  have y0 := (OW.out.cellAt (i * 2) (by omega)).trans (fcells_get (show i < M'.length by omega)).1
                  have y1 := (OW.out.cellAt (i * 2 + 1) (by omega)).trans (fcells_get (show i < M'.length by omega)).2
                  have y2 := (OW.out.cellAt (q * 2) (by omega)).trans (fcells_get (show q < M'.length by omega)).1
                  have y3 := (OW.out.cellAt (q * 2 + 1) (by omega)).trans (fcells_get (show q < M'.length by omega)).2
                  have f0 := OW.out.frozenAt (i * 2) (by omega)
                  have f1 := OW.out.frozenAt (i * 2 + 1) (by omega)
                  have f2 := OW.out.frozenAt (q * 2) (by omega)
                  have f3 := OW.out.frozenAt (q * 2 + 1) (by omega)
                  obtain ⟨fi, hfi⟩ : ∃ f, M'[i] = f := ⟨_, rfl⟩
                  obtain ⟨fq, hfq⟩ : ∃ f, M'[q] = f := ⟨_, rfl⟩
                  rw [hfi] at y0 y1
                  rw [hfq] at y2 y3
                  have i2 : (i : Int) < (j : Int) := by omega
                  have i3 : (q : Int) < (j : Int) := by omega
                  have wj : IntKind.i64.wrap ((j : Int) - 1) = (j : Int) - 1 := IntWalk.i64_in _ (by omega)
                  have wq : IntKind.i64.wrap (q : Int) = (q : Int) := IntWalk.i64_in _ (by omega)
                  have FI2 := Lib.hid (show M'[i]? = some fi from by rw [List.getElem?_eq_getElem (by omega), hfi])
                  have FQ2 := Lib.hid (show M'[q]? = some fq from by rw [List.getElem?_eq_getElem (by omega), hfq])
                  have MLH := Lib.hid ML
                  clear hfi hfq ML hk3 hq
                  obtain ⟨inm, iby, ia, ic⟩ := fi
                  obtain ⟨qnm, qby, qa, qc⟩ := fq
                  have SW := swap_own OW.out FI2.out FQ2.out
                  have NX : Hid (∃ M2 : List Fl, M2.Perm M ∧ Own (swapW wr g i q ⟨inm, iby, ia, ic⟩ ⟨qnm, qby, qa, qc⟩) w3.heap.size 33 2 (.slice (some ⟨g, 0, none⟩) j cm) j (fcells M2) ∧ Below w3.heap.size w3 (swapW wr g i q ⟨inm, iby, ia, ic⟩ ⟨qnm, qby, qa, qc⟩)) :=
                    ⟨_, SW.2.1.trans HP.out, SW.1, BW2.out.trans (SW.2.2.below (fun k hk _ => by rw [hk]; exact (OW.out.lt g rfl).1) BW2.out.size)⟩
                  clear SW
                  replace y1 : wr.cell? ⟨g, i * 2 + 1, none⟩ = some (.slice ia iby.length ic) := y1
                  replace y3 : wr.cell? ⟨g, q * 2 + 1, none⟩ = some (.slice qa qby.length qc) := y3
                  go_upto_region 13 with fail
                  go_region
                  all_goals
                    clear wj wq wk y0 y1 y2 y3 f0 f1 f2 f3 hq2 hq3 hq4 i3 t1 t1'
                    obtain ⟨M2, n1, n2, n3⟩ := NX.out
                    go_wp2
                    go_roundw
                    case rel => exact ⟨i + 1, M2, by go_num, by omega, n1, n2, n3⟩
                    case measure => simp [intOf]; omega
                  -- PAWS
                · have t1 : decide ((i : Int) < (k2 : Int)) = false := decide_eq_false (by omega)
                  have t1' : decide (i < k2) = false := decide_eq_false c1
                  go_wp2
                  go_meet
                  case rel => exact ⟨M', HP.out, OW.out, BW2.out⟩
          case rest =>
            obtain ⟨wA, rfl⟩ : ∃ q, q = wc := ⟨_, rfl⟩
            obtain ⟨M', hp, ho, hb⟩ := hcut
            have BA := Lib.hid (B3.out.trans (hb.mono B3.out.size))
            have bA := hb
            have SZA := Lib.hid hb.size
            have ML' : M'.length = j := by have := hp.length_eq; have := HN.out; omega
            have FIA := FI.out.below bA
            obtain ⟨al2, cl2, hv2, -, hfl⟩ := FIA.fil
            simp only [Value.slice.injEq] at hv2
            obtain ⟨rfl, -, rfl⟩ := hv2
            have hfm := fil_own ho (fun f hf => FIA.bytw f (hp.mem_iff.1 hf)) ML'
            have HDA := Lib.hid (HD.out.below bA)
            have HFL := Lib.hid hfl; have HFM := Lib.hid hfm
            have LS : ∀ p ∈ conF M, p.1.length ≤ 140737488351232 ∧ p.2.length ≤ 140737488355328 := fun p hp => by rw [CM.out] at hp; have := HS.out p hp; omega
            have PE : (conF M').Perm (conF M) := hp.map _
            have LL : (conF M).length = j := by rw [conF, List.length_map]; exact HN.out
            have LL' : (conF M').length = j := by rw [conF, List.length_map]; exact ML'
            have LA0 := Load_calls rm (conF M) al cl wA hfl LS (by omega)
            rw [LL] at LA0
            have LA := Lib.hid LA0
            have LB := Lib.hid (fun (wx : World) (h : Fil wx am (conF M')) => by
              have h9 := Load_calls rm (conF M') am cm wx h (fun p hp => LS p (PE.mem_iff.1 hp)) (by omega)
              rw [LL'] at h9
              exact h9)
            have RE := Lib.hid (loadR_perm rm PE)
            have LSH := Lib.hid LS; have LLH := Lib.hid LL
            clear hp ho hb ML' FIA hfl hfm LS PE LL LL' LA0 bA OR BW HDW x0 x1
            have BAA := BA.out
            obtain ⟨x0, x1, x2⟩ := CP.out wA BAA
            clear BAA x0 x1
            obtain ⟨res, hres⟩ : ∃ q, loadR rm (conF M) = q := ⟨_, rfl⟩
            obtain ⟨e, os⟩ := res
            have RA := Lib.hid hres
            have RB := Lib.hid (RE.out.trans hres)
            clear hres RE
            cases os with
            | none =>
              have te := loadR_none RA.out
              go_wp2_with fail
              refine LA.out.mono ?_
              rintro r w4 hr
              unfold LoadP at hr
              rw [RA.out] at hr
              obtain ⟨rfl, b4⟩ := hr
              have B4 := Lib.hid (BA.out.trans (b4.mono BA.out.size))
              have FM4 := Lib.hid (HFM.out.below b4)
              clear b4 x2
              obtain ⟨x0, x1, x2⟩ := CP.out w4 B4.out
              clear x0 x1
              go_wp2_with fail
              refine (LB.out w4 FM4.out).mono ?_
              rintro r w5 hr
              unfold LoadP at hr
              rw [RB.out] at hr
              obtain ⟨rfl, b5⟩ := hr
              have B5 := Lib.hid (B4.out.trans (b5.mono B4.out.size))
              clear b5 x2
              go_wp2_with (go_at_call 8; refine (num9_calls _ _).mono ?_; rintro r wx ⟨rfl, rfl⟩)
              go_ret
              exact ⟨by first | rfl | simp, B0.out.trans (B5.out.mono B0.out.size)⟩
            | some s =>
              obtain ⟨ok, rfl, hrm, har, hkp, hof, hwr, -, hr1, hr2⟩ := loadR_ok RA.out
              obtain ⟨pe, nd, pl⟩ := loadR_took RA.out
              have hrm2 : (s.room : Int) = rm := by rw [hrm]; omega
              have OK := Lib.hid ok; have RM := Lib.hid hrm2; have ARM := Lib.hid har; have OFF := Lib.hid hof; have WRS := Lib.hid hwr; have PE := Lib.hid pe
              have SL : s.C.length = j := by have := LLH.out; omega
              have SLH := Lib.hid SL
              clear ok hrm har hkp hof hwr hr1 hr2 pe nd pl hrm2 SL
              go_wp2_with fail
              refine LA.out.mono ?_
              rintro r w4 hr
              unfold LoadP at hr
              rw [RA.out] at hr
              obtain ⟨da, rfl, d4, b4⟩ := hr
              have D4 : Hid (DkS w4 wA.heap.size da (fun i => (wA.heap.size ≤ i) ∧ wA.heap.size ≤ i ∧ i < w4.heap.size) s) := ⟨d4.cut, fun i hi => hi.2, b4.size⟩
              have B4 := Lib.hid (BA.out.trans (b4.mono BA.out.size))
              have FM4 := Lib.hid (HFM.out.below b4)
              have HD4 := Lib.hid (HDA.out.below b4)
              have SZ4 := Lib.hid b4.size
              clear d4 b4 x2
              obtain ⟨x0, x1, x2⟩ := CP.out w4 B4.out
              clear x0 x1
              go_wp2_with fail
              refine (LB.out w4 FM4.out).mono ?_
              rintro r w5 hr
              unfold LoadP at hr
              rw [RB.out] at hr
              obtain ⟨db, rfl, d5, b5⟩ := hr
              have P5 : Hid (Pair w5 wA.heap.size w4.heap.size da db (fun i => (wA.heap.size ≤ i) ∧ wA.heap.size ≤ i ∧ i < w4.heap.size) (fun i => (w4.heap.size ≤ i) ∧ w4.heap.size ≤ i ∧ i < w5.heap.size) s s) :=
                ⟨D4.out.below b5, ⟨d5.cut, fun i hi => hi.2, b5.size⟩, fun k h1 h2 => by omega⟩
              have B5 := Lib.hid (B4.out.trans (b5.mono B4.out.size))
              have HD5 := Lib.hid (HD4.out.below b5)
              clear d5 b5 x2
              obtain ⟨F1, hF1⟩ : ∃ q, (fun i => (wA.heap.size ≤ i) ∧ wA.heap.size ≤ i ∧ i < w4.heap.size) = q := ⟨_, rfl⟩
              obtain ⟨F2, hF2⟩ : ∃ q, (fun i => (w4.heap.size ≤ i) ∧ w4.heap.size ≤ i ∧ i < w5.heap.size) = q := ⟨_, rfl⟩
              rw [hF1, hF2] at P5
              have FB := Lib.hid (Files_s P5.out.d2)
              clear hF1 hF2 D4
              go_wp2_with (go_at_call 8; refine (num9_calls _ _).mono ?_; rintro r wx ⟨rfl, rfl⟩)
              refine FB.out.mono ?_
              rintro r w6 ⟨a6, c6, rfl, hc6, f6, d6, u6, b6⟩
              have S6 : Hid (OrS w0 w6 da db wA.heap.size w4.heap.size w2.heap.size w3.heap.size w5.heap.size w6.heap.size s s F1 F2 (.slice al j cl) M a6 s.C) := by
                have hla : w3.heap.size ≤ wA.heap.size := SZA.out
                have hlb : w3.heap.size ≤ w4.heap.size := Nat.le_trans hla SZ4.out
                have hd5 := HD5.out
                rw [HN.out] at hd5
                exact ⟨(P5.out.symm.read d6 u6).symm, hd5.upd u6 (fun k hk => .inr (by rw [hk]; exact Nat.le_trans hlb (P5.out.d2.fl _ P5.out.d2.dk.at_).1)), f6.z, B5.out.trans (b6.mono (Nat.le_trans BA.out.size SZ4.out)), hla, hlb, Nat.le_trans hlb P5.out.d2.bw, B2.out.size, BA.out.size, Nat.le_trans BA.out.size SZ4.out, fun k hk => .inl (P5.out.d1.fl k hk).2, fun k hk => .inl (P5.out.d2.fl k hk).2, Nat.le_refl _⟩
              clear f6 d6 u6 b6 FB
              rw [SLH.out]
              obtain ⟨C2, hC2⟩ : ∃ q, s.C = q := ⟨_, rfl⟩
              have CE := Lib.hid hC2
              have BS : ∀ p ∈ C2, p.2.length ≤ 140737488355328 := fun p hp => by
                have h2 := OK.out.byt p.1
                rw [bytC_mem OK.out.so (by rw [hC2]; exact hp)] at h2
                have := OK.out.len
                omega
              have BSH := Lib.hid BS
              have C2L : Hid (C2.length = j) := by rw [← hC2]; exact SLH.out
              have NMH : Hid (∀ nm, hasC C2 nm = true → ∃ p ∈ conF M, p.1 = nm) := fun nm hh => by
                unfold hasC at hh
                obtain ⟨p, hp, he⟩ := List.any_eq_true.1 hh
                rw [← hC2] at hp
                exact ⟨p, PE.out.mem_iff.1 hp, by simpa using he⟩
              have tj : ((j : Int) != (j : Int)) = false := by simp
              have tr : (rm != rm) = false := by simp
              clear hC2 BS PE LA LB RA RB
              rw [CE.out] at S6
              have S6d := Lib.hid (S6.out.below (w' := w6.drew) (bel_drew (Below.refl _ _)))
              have FA := Lib.hid (S6d.out.filesA (C2 := C2) (j := j) CE.out C2L.out)
              obtain ⟨-, -, x2⟩ := CP.out w6.drew S6d.out.bel
              have jl : j ≤ 140737488355328 := by omega
              go_upto_region 21 with fail
              clear SLH HFM FM4 HD HD4 HDA HD5 P5 FI RLH B4 BA SZA SZ4
              go_region_held3 (fun w' => w'.cell? ⟨w.heap.size, 2, none⟩ = some (.int .i64 rm))
                (first
                  | go_keep)
                (first
                  | (go_at_call 16; (with_reducible refine FA.out.mono ?_); rintro r w7 ⟨a7, c7, rfl, f7, s7⟩; obtain ⟨-, -, z7⟩ := CP.out w7 s7.bel; have S7 := Lib.hid s7; have F7 := Lib.hid f7; clear s7 f7)
                  | (go_at_call 17; (with_reducible refine (S7.out.eq F7.out C2L.out jl BSH.out).mono ?_); rintro r w8 ⟨rfl, s8⟩; obtain ⟨-, -, z8⟩ := CP.out w8 s8.bel; have S8 := Lib.hid s8; clear s8)
                  | (go_at_call 18; (with_reducible refine (S8.out.writesA WRS.out).mono ?_); rintro r w9 ⟨rfl, F9, s9⟩; obtain ⟨-, -, z9⟩ := CP.out w9 s9.bel; have S9 := Lib.hid s9; clear s9)
                  | (go_at_call 19; (with_reducible refine (S9.out.offA OFF.out).mono ?_); rintro r w10 ⟨rfl, F10, s10⟩; obtain ⟨-, -, z10⟩ := CP.out w10 s10.bel; have S10 := Lib.hid s10; clear s10)
                  | (go_at_call 20; (with_reducible refine (S10.out.roomA RM.out).mono ?_); rintro r w11 ⟨rfl, rfl⟩))
              clear FA S6d S6 S7 F7 S8 S9 x2 z7 z8 z9 z10
              clear hj c1 t1 t1'
              have LLH2 := LLH.out
              go_wp2
              go_loopw [12] (fun vi wr => ∃ (i : Nat) (sa : DS) (Fa : Nat → Prop), vi = .int .i64 i ∧ i ≤ j ∧ OrS w0 wr da db wA.heap.size w4.heap.size w2.heap.size w3.heap.size w5.heap.size w6.heap.size sa s Fa F2 (.slice al j cl) M a6 C2 ∧ Calm sa ∧ sa.writes ≤ i ∧ ∀ nm, hasC sa.C nm = true → ∃ k, i ≤ k ∧ ∃ h : k < (conF M).length, (conF M)[k].1 = nm) (fun vi _ => j - (intOf vi).toNat)
              case atStart =>
                refine ⟨0, s, F10, rfl, Nat.zero_le _, S10.out, ⟨OFF.out, ARM.out⟩, by rw [WRS.out]; exact Nat.zero_le _, fun nm hh => ?_⟩
                rw [CE.out] at hh
                obtain ⟨p, hp, he⟩ := NMH.out nm hh
                obtain ⟨k, hk, hpk⟩ := List.getElem_of_mem hp
                exact ⟨k, Nat.zero_le _, hk, by rw [hpk]; exact he⟩
              case round =>
                obtain ⟨i, sa, Fa, rfl, hi, hS, hcalm, hwr, hnm⟩ := hrel
                have SS := Lib.hid hS; have CA := Lib.hid hcalm; have NMI := Lib.hid hnm
                clear hS hcalm hnm
                by_cases c1 : i < j
                · have t1 : decide ((i : Int) < (j : Int)) = true := decide_eq_true (by omega)
                  have t1' : decide (i < j) = true := decide_eq_true c1
                  have i2 : (i : Int) < (j : Int) := by omega
                  have OL := SS.out.hd.own
                  rw [HN.out] at OL
                  obtain ⟨g, cap, hv⟩ := OL.shape (by omega)
                  simp only [Value.slice.injEq] at hv
                  obtain ⟨rfl, -, rfl⟩ := hv
                  have hiM : i < M.length := by have := HN.out; omega
                  have y0 := (OL.cellAt (i * 2) (by omega)).trans (fcells_get hiM).1
                  obtain ⟨f, hf⟩ : ∃ f, M[i] = f := ⟨_, rfl⟩
                  have hci : (conF M)[i]'(by omega) = (f.nm, f.by_) := by simp [conF, hf]
                  have hsz := LSH.out _ (List.getElem_mem (show i < (conF M).length by omega))
                  rw [hci] at hsz
                  rw [hf] at y0
                  have RM0 := SS.out.removeA f.nm hsz.1 (by omega) CA.out
                  have RMH := Lib.hid RM0
                  have HF := Lib.hid hf; have HCI := Lib.hid hci
                  have hsz2 := hsz.2
                  clear RM0 OL hf hci hsz
                  go_wp2_with fail
                  refine RMH.out.mono ?_
                  rintro r wB ⟨e, t, F', rfl, sB, hht, hct, hwt⟩
                  have SB := Lib.hid sB; have HHT := Lib.hid hht; have CT := Lib.hid hct
                  have OL := sB.hd.own
                  rw [HN.out] at OL
                  have y1 := (OL.cellAt (i * 2 + 1) (by omega)).trans (fcells_get hiM).2
                  have OV := sB.overA (i := i) hiM (by rw [HF.out]; omega)
                  rw [HF.out] at y1 OV
                  have OVH := Lib.hid OV
                  clear y0 RMH sB hht hct OL OV
                  go_wp2_with fail
                  refine OVH.out.mono ?_
                  rintro r wC ⟨rfl, sC⟩
                  have SC := Lib.hid sC
                  clear sC OVH y1
                  go_wp2
                  go_roundw
                  case rel =>
                    refine ⟨i + 1, t, F', by go_num, by omega, SC.out, CT.out, by omega, fun nm hh => ?_⟩
                    rw [HHT.out, Bool.and_eq_true] at hh
                    obtain ⟨k, hk1, hk2, hk3⟩ := NMI.out nm hh.1
                    refine ⟨k, ?_, hk2, hk3⟩
                    rcases Nat.lt_or_ge i k with h9 | h9
                    · exact h9
                    · exfalso
                      obtain rfl : k = i := by omega
                      rw [HCI.out] at hk3
                      have h8 := hh.2
                      rw [← hk3] at h8
                      simp at h8
                  case measure => simp [intOf]; omega
                · have t1 : decide ((i : Int) < (j : Int)) = false := decide_eq_false (by omega)
                  have t1' : decide (i < j) = false := decide_eq_false c1
                  have e0 : sa.C = [] := hasC_none (fun nm => by
                    cases hh : hasC sa.C nm with
                    | false => rfl
                    | true =>
                      exfalso
                      obtain ⟨k, hk1, hk2, -⟩ := NMI.out nm hh
                      omega)
                  have FA := Lib.hid (SS.out.filesA (C2 := []) (j := 0) e0 rfl)
                  clear e0 NMI
                  go_wp2_with fail
                  refine FA.out.mono ?_
                  rintro r w7 ⟨a7, c7, rfl, -, s7⟩
                  have FB := Lib.hid (s7.filesB CE.out C2L.out)
                  clear s7 FA
                  go_wp2_with fail
                  refine FB.out.mono ?_
                  rintro r w8 ⟨a8, c8, rfl, f8, s8⟩
                  have EQ := Lib.hid (s8.eq (c := c8) (cw := c6) f8 C2L.out jl BSH.out)
                  clear s8 f8 FB
                  go_wp2_with fail
                  refine EQ.out.mono ?_
                  rintro r w9 ⟨rfl, s9⟩
                  have S9 := Lib.hid s9
                  clear s9 EQ
                  go_wp2
                  go_ret
                  exact ⟨by first | rfl | simp, B0.out.trans (S9.out.bel.mono B0.out.size)⟩
end Go.Proofs.YtcmllfnhdodbdaaDoor
