/- SumMixes's walk. -/
import Derived.Test.YtjiciklnhcmfaaaDoorMix
import Derived.Test.YtjiciklnhcmfaaaDoorMixLaw
import Derived.Lib.SlBytesConst
namespace Go.Proofs.YtjiciklnhcmfaaaDoor
set_option linter.unusedVariables false
set_option linter.unusedSimpArgs false
open Go.RowKit
def nine : List UInt8 := [49, 50, 51, 52, 53, 54, 55, 56, 57]
theorem nine_sum : sumN nine = 3421780262 := by decide +kernel
theorem nine_byt (w : World) : Byt (w.alloc (.cells #[.int .u8 49, .int .u8 50, .int .u8 51, .int .u8 52, .int .u8 53, .int .u8 54, .int .u8 55, .int .u8 56, .int .u8 57] 5 (9, 10))) (some ⟨w.heap.size, 0, none⟩) nine := by
  intro i hi
  refine ⟨w.heap.size, 0, rfl, ?_⟩
  rw [Nat.zero_add, cell_of_row' (heap_alloc_new w _)]
  match i, hi with
  | 0, _ | 1, _ | 2, _ | 3, _ | 4, _ | 5, _ | 6, _ | 7, _ | 8, _ => rfl
theorem bel_undrewN {B n : Nat} {a w : World} (h : Below B (a.drewN n) w) : Below B a w := ⟨h.os, h.tape, h.output, h.size, h.block⟩
theorem ibeq (a b : Nat) : ((a : Int) == (b : Int)) = (a == b) := by rw [Bool.eq_iff_iff]; simp; omega
def sumX (a b : List UInt8) : Nat := (Crc.sum a ^^^ Crc.sum b).toNat
theorem sum_xor2 (a b : List UInt8) : bits .xor .u32 (sumN a : Int) (sumN b : Int) = (sumX a b : Int) := u32_xor _ _
theorem sum_mix (xA xB xC x : List UInt8) (hx : mix xA xB xC = x) (lxA : x.length ≤ xA.length) (lxB : x.length ≤ xB.length) (lxC : x.length ≤ xC.length) :
    bits .xor .u32 (sumX (xA.take x.length) (xB.take x.length) : Int) (sumN (xC.take x.length) : Int) = (sumN x : Int) := by
  have e : x = mix (xA.take x.length) (xB.take x.length) (xC.take x.length) := by
    apply List.ext_getElem
    · rw [mix_length, List.length_take, List.length_take, List.length_take]; omega
    · intro i h1 h2
      rw [mix_get _ _ _ i h2 (by rw [List.length_take]; omega) (by rw [List.length_take]; omega) (by rw [List.length_take]; omega), List.getElem_take, List.getElem_take, List.getElem_take]
      subst hx
      exact mix_get xA xB xC i h1 _ _ _
  have h := Crc.sum_xor3 (xA.take x.length) (xB.take x.length) (xC.take x.length) (by rw [List.length_take, List.length_take]; omega) (by rw [List.length_take, List.length_take]; omega)
  show bits .xor .u32 (u32 _) (u32 (Crc.sum (xC.take x.length))) = u32 (Crc.sum x)
  rw [u32_xor, ← h]
  exact congrArg (fun q => u32 (Crc.sum q)) e.symm
/-- What element i of a row of Sums holds. -/
structure RdS (w : World) (a : Option Addr) (n : Nat) (A3 B3 C3 : Nat → List UInt8) (Aa Ba Ca : Nat → Option Addr) (Ac Bc Cc : Nat → Nat) (At : Nat → Int) (By : Nat → Nat → UInt8) : Prop where
  cell : ∀ i, i < n → ∃ b o, a = some ⟨b, o, none⟩ ∧ w.cell? ⟨b, o + i * 8, none⟩ = some (.slice (Aa i) (A3 i).length (Ac i)) ∧ w.cell? ⟨b, o + i * 8 + 1, none⟩ = some (.slice (Ba i) (B3 i).length (Bc i)) ∧ w.cell? ⟨b, o + i * 8 + 2, none⟩ = some (.slice (Ca i) (C3 i).length (Cc i)) ∧ w.cell? ⟨b, o + i * 8 + 3, none⟩ = some (.int .i64 (At i)) ∧
    w.cell? ⟨b, o + i * 8 + 4, none⟩ = some (.int .u8 ((By i 0).toNat : Int)) ∧ w.cell? ⟨b, o + i * 8 + 5, none⟩ = some (.int .u8 ((By i 1).toNat : Int)) ∧ w.cell? ⟨b, o + i * 8 + 6, none⟩ = some (.int .u8 ((By i 2).toNat : Int)) ∧ w.cell? ⟨b, o + i * 8 + 7, none⟩ = some (.int .u8 ((By i 3).toNat : Int))
  byt : ∀ i, i < n → Byt w (Aa i) (A3 i) ∧ Byt w (Ba i) (B3 i) ∧ Byt w (Ca i) (C3 i)
  cap : ∀ i, i < n → (A3 i).length ≤ Ac i ∧ (B3 i).length ≤ Bc i ∧ (C3 i).length ≤ Cc i
  short : ∀ i, i < n → (A3 i).length ≤ 140737488351232 ∧ (B3 i).length ≤ 140737488351232 ∧ (C3 i).length ≤ 140737488351232
  num : ∀ i, i < n → -9223372036854775808 ≤ At i ∧ At i ≤ 9223372036854775807
set_option maxRecDepth 100000 in
set_option maxHeartbeats 4000000 in
theorem SumMixes_calls (w : World) (a : Option Addr) (cap n : Nat) (A3 B3 C3 : Nat → List UInt8) (Aa Ba Ca : Nat → Option Addr) (Ac Bc Cc : Nat → Nat) (At : Nat → Int) (By : Nat → Nat → UInt8) (h : RdS w a n A3 B3 C3 Aa Ba Ca Ac Bc Cc At By) (hn : n ≤ 140737488355328) (ht : Tab w) (hg : 0 < w.heap.size) :
    Calls Tryd.prog 5 #[.slice a n cap] w fun r w' => r = .returned (.bool true) ∧ Below w.heap.size w w' := by
  have H := Lib.hid h; clear h
  have HT := Lib.hid ht; clear ht
  have HG := Lib.hid hg; clear hg
  go_enter Tryd.func5, Tryd.ntmps5
  go_upto_block 0 with (fail)
  go_cut [] (fun wr => Below w.heap.size w wr)
  case rest =>
    have Bw := Lib.hid hcut
    have T1 := Lib.hid (HT.out.below Bw.out)
    have G1 : Hid (0 < wc.heap.size) := Nat.lt_of_lt_of_le HG.out Bw.out.size
    clear hcut
    go_wp2_with fail
    refine (works_calls wc T1.out G1.out).mono ?_
    rintro r w2 ⟨rfl, hb2⟩
    have B2 := Lib.hid (Bw.out.trans (hb2.mono Bw.out.size))
    clear hb2
    have kc := fun (w : World) (C : Array Value) (n c : Nat) => Lib.run_convert_bytes_const (P := Tryd.prog) w 55 5 C n c Tryd.underlying55 Tryd.underlying5
    go_wp2_with fail
    clear kc
    have hb9 : Hid (Byt (w2.alloc (.cells #[.int .u8 49, .int .u8 50, .int .u8 51, .int .u8 52, .int .u8 53, .int .u8 54, .int .u8 55, .int .u8 56, .int .u8 57] 5 (9, 10))) (some ⟨w2.heap.size, 0, none⟩) nine) := nine_byt _
    refine (SumN_calls (some ⟨w2.heap.size, 0, none⟩) 9 _ nine (by decide) hb9.out ((HT.out.below B2.out).upd ((Upd.refl (fun _ => False) w2).alloc _) (fun h => h))).mono ?_
    rintro r w3 ⟨rfl, rfl⟩
    rw [nine_sum]
    go_wp2
    go_ret
    exact ⟨rfl, B2.out.alloc B2.out.size _⟩
  case first =>
    go_wp2
    go_loopw [3, 4] (fun va vi wr => ∃ (i : Nat) (al : Nat), va = .int .i64 al ∧ vi = .int .i64 i ∧ i ≤ n ∧ al ≤ 262144 ∧ Below w.heap.size w wr) (fun _ vi _ => n - (intOf vi).toNat)
    case atStart => exact ⟨0, 0, rfl, rfl, Nat.zero_le _, by decide, Below.refl _ _⟩
    case round =>
      obtain ⟨i, al, rfl, rfl, hi, hal, hbw⟩ := hrel
      have BW := Lib.hid hbw; clear hbw
      by_cases c1 : i < n
      · have t1 : decide ((i : Int) < (n : Int)) = true := decide_eq_true (by omega)
        have t1' : decide (i < n) = true := decide_eq_true c1
        obtain ⟨b, o, rfl, k0, k1, k2, k3, k4, k5, k6, k7⟩ := H.out.cell i c1
        have hbl := World.block_lt_of_cell? _ _ k0
        have q0 := (BW.out.cell (p := ⟨b, o + i * 8, none⟩) hbl).trans k0
        have q1 := (BW.out.cell (p := ⟨b, o + i * 8 + 1, none⟩) hbl).trans k1
        have q2 := (BW.out.cell (p := ⟨b, o + i * 8 + 2, none⟩) hbl).trans k2
        have q3 := (BW.out.cell (p := ⟨b, o + i * 8 + 3, none⟩) hbl).trans k3
        have q4 := (BW.out.cell (p := ⟨b, o + i * 8 + 4, none⟩) hbl).trans k4
        have q5 := (BW.out.cell (p := ⟨b, o + i * 8 + 5, none⟩) hbl).trans k5
        have q6 := (BW.out.cell (p := ⟨b, o + i * 8 + 6, none⟩) hbl).trans k6
        have q7 := (BW.out.cell (p := ⟨b, o + i * 8 + 7, none⟩) hbl).trans k7
        obtain ⟨ya, yb, yc⟩ := H.out.byt i c1
        obtain ⟨ma, mb, mc⟩ := H.out.cap i c1
        obtain ⟨sa, sb, sc⟩ := H.out.short i c1
        obtain ⟨d1, d2⟩ := H.out.num i c1
        clear k0 k1 k2 k3 k4 k5 k6 k7
        generalize A3 i = xA at *
        generalize B3 i = xB at *
        generalize C3 i = xC at *
        generalize Aa i = aA at *
        generalize Ba i = aB at *
        generalize Ca i = aC at *
        generalize Ac i = cA at *
        generalize Bc i = cB at *
        generalize Cc i = cC at *
        generalize At i = na at *
        generalize By i = y at *
        have YA := Lib.hid ya; have YB := Lib.hid yb; have YC := Lib.hid yc
        clear ya yb yc
        have hblr : b < wr.heap.size := Nat.lt_of_lt_of_le hbl BW.out.size
        by_cases c2 : 262144 < al + xA.length + 1
        · have t2 : decide ((262144 : Int) < (al : Int) + (xA.length : Int) + 1) = true := decide_eq_true (by omega)
          have t2' : decide (262144 < al + xA.length + 1) = true := decide_eq_true c2
          go_wp2
          go_meet
          case rel => exact BW.out.alloc BW.out.size _
        · have t2 : decide ((262144 : Int) < (al : Int) + (xA.length : Int) + 1) = false := decide_eq_false (by omega)
          have t2' : decide (262144 < al + xA.length + 1) = false := decide_eq_false c2
          go_wp2_with fail
          obtain ⟨P, hP⟩ : ∃ P, wr.heap.size = P := ⟨_, rfl⟩
          obtain ⟨w1, hw1⟩ : ∃ q, wr.alloc (.cells #[.slice aA xA.length cA, .slice aB xB.length cB, .slice aC xC.length cC, .int .i64 na, .int .u8 (y 0).toNat, .int .u8 (y 1).toNat, .int .u8 (y 2).toNat, .int .u8 (y 3).toNat] 77) = q := ⟨_, rfl⟩
          have w1c := heap_alloc_new wr (.cells #[.slice aA xA.length cA, .slice aB xB.length cB, .slice aC xC.length cC, .int .i64 na, .int .u8 (y 0).toNat, .int .u8 (y 1).toNat, .int .u8 (y 2).toNat, .int .u8 (y 3).toNat] 77)
          have hb1 : Below w.heap.size w w1 := by rw [← hw1]; exact BW.out.alloc BW.out.size _
          have Psz : Hid (P < w1.heap.size) := by show _ < _; rw [← hw1, World.size_alloc, hP]; omega
          rw [hP, hw1] at w1c
          have B1 := Lib.hid hb1
          have W1C := Lib.hid w1c
          rw [hP, hw1]
          clear hw1 hb1 w1c
          obtain ⟨x, hx⟩ : ∃ l, mix xA xB xC = l := ⟨_, rfl⟩
          have hxl : x.length = min (min xA.length xB.length) xC.length := by rw [← hx, mix_length]
          have mc := mixed_calls w1 aA aB aC cA cB cC xA xB xC (YA.out.below B1.out) (YB.out.below B1.out) (YC.out.below B1.out) sa sb sc
          rw [hx] at mc
          refine mc.mono ?_
          clear mc
          rintro r w2 ⟨v2, rfl, ho2, hb2⟩
          obtain ⟨ax, cx, rfl, _, hcx, hyx, _⟩ := own_val ho2
          have lxA : x.length ≤ xA.length := by omega
          have lxB : x.length ≤ xB.length := by omega
          have lxC : x.length ≤ xC.length := by omega
          have HX := Lib.hid hx; clear hx hxl
          have B2 := Lib.hid (B1.out.trans (hb2.mono B1.out.size))
          have P2 := Lib.hid (hb2.mono (Nat.succ_le_of_lt Psz.out))
          have YX := Lib.hid hyx
          have c8 := (P2.out.block P (Nat.lt_succ_self P)).trans W1C.out
          have z0 : w2.cell? ⟨P, 0, none⟩ = some (.slice aA xA.length cA) := by rw [cell_of_row' c8]; rfl
          have z1 : w2.cell? ⟨P, 1, none⟩ = some (.slice aB xB.length cB) := by rw [cell_of_row' c8]; rfl
          have z2 : w2.cell? ⟨P, 2, none⟩ = some (.slice aC xC.length cC) := by rw [cell_of_row' c8]; rfl
          have T2 := Lib.hid (HT.out.below B2.out)
          have SA := Lib.hid (Sum_q (k := x.length) (c := x.length) ((YA.out.below B2.out).take x.length) (by rw [List.length_take]; omega) T2.out (by rw [List.length_take]; omega))
          have SB := Lib.hid (Sum_q (k := x.length) (c := x.length) ((YB.out.below B2.out).take x.length) (by rw [List.length_take]; omega) T2.out (by rw [List.length_take]; omega))
          have SC := Lib.hid (Sum_q (k := x.length) (c := x.length) ((YC.out.below B2.out).take x.length) (by rw [List.length_take]; omega) T2.out (by rw [List.length_take]; omega))
          have SX := Lib.hid (Sum_q (c := cx) YX.out rfl T2.out (by omega))
          clear ho2 hb2 hyx c8
          have xor1 := Lib.hid (sum_xor2 (xA.take x.length) (xB.take x.length))
          have xor2 := Lib.hid (sum_mix xA xB xC x HX.out lxA lxB lxC)
          obtain ⟨ka, hka⟩ : ∃ q, sumN (xA.take x.length) = q := ⟨_, rfl⟩
          obtain ⟨kb, hkb⟩ : ∃ q, sumN (xB.take x.length) = q := ⟨_, rfl⟩
          obtain ⟨kc, hkc⟩ : ∃ q, sumN (xC.take x.length) = q := ⟨_, rfl⟩
          obtain ⟨kab, hkab⟩ : ∃ q, sumX (xA.take x.length) (xB.take x.length) = q := ⟨_, rfl⟩
          rw [hka] at SA xor1
          rw [hkb] at SB xor1
          rw [hkc] at SC xor2
          rw [hkab] at xor1 xor2
          clear hka hkb hkc hkab
          have x1 := xor1.out
          have x2 := xor2.out
          have b1 : (x.length : Int) ≤ (cA : Int) := by omega
          have b2 : (x.length : Int) ≤ (cB : Int) := by omega
          have b3 : (x.length : Int) ≤ (cC : Int) := by omega
          go_wp2_with fail
          go_quiet (first | ((go_at_call_of 26 ax; exact qone (SX.out _))) | ((go_at_call_of 26 aA; exact qone (SA.out _))) | ((go_at_call_of 26 aB; exact qone (SB.out _))) | ((go_at_call_of 26 aC; exact qone (SC.out _))))
          go_wp2_with fail
          clear x1 x2 b1 b2 b3 z0 z1 z2
          refine (Copy_calls ax cx x _ (YX.out.drewN _) (by omega)).mono ?_
          rintro r w3 ⟨v3, rfl, ho3, hb3⟩
          obtain ⟨a3, c3, rfl, _, hc3, _, _⟩ := own_val ho3
          have B23 := Lib.hid (bel_undrewN hb3)
          have O3 := Lib.hid (show Own w3 w2.heap.size 5 1 (.slice a3 x.length c3) x.length (bys x) from ho3)
          have P3 := Lib.hid (P2.out.trans (B23.out.mono (Nat.le_trans (Nat.succ_le_of_lt Psz.out) P2.out.size)))
          have xl : x.length ≤ 140737488351232 := by omega
          have xn : x.length ≤ 262144 := by omega
          clear ho3 hb3 SA SB SC SX xor1 xor2 lxA lxB lxC
          have c9 := (P3.out.block P (Nat.lt_succ_self P)).trans W1C.out
          have z3 : w3.cell? ⟨P, 3, none⟩ = some (.int .i64 na) := by rw [cell_of_row' c9]; rfl
          clear c9
          obtain ⟨j, hj, hjl⟩ : ∃ j : Nat, na % ((x.length : Int) + 1) = j ∧ j ≤ x.length := ⟨(na % ((x.length : Int) + 1)).toNat, by have := Int.emod_nonneg na (show ((x.length : Int) + 1) ≠ 0 by omega); omega, by have := Int.emod_nonneg na (show ((x.length : Int) + 1) ≠ 0 by omega); have := Int.emod_lt_of_pos na (show (0 : Int) < (x.length : Int) + 1 by omega); omega⟩
          have W10 := fun wx => Within_calls na ((x.length : Int) + 1) wx (by omega) (by omega) d1 d2
          rw [hj] at W10
          have W1 := Lib.hid W10; clear W10 hj
          go_wp2_with (go_at_call 24; refine (W1.out _).mono ?_; rintro r wx ⟨rfl, rfl⟩)
          clear z3
          go_loopw [9, 11] (fun vc vk wx => ∃ k : Nat, vk = .int .i64 k ∧ k ≤ 4 ∧ j + k ≤ x.length ∧ vc = .bool (ck y k) ∧ Own wx w2.heap.size 5 1 (.slice a3 x.length c3) x.length (bys (bk x j y k)) ∧ Below w2.heap.size w2 wx) (fun _ vk _ => 4 - (intOf vk).toNat)
          case atStart => exact ⟨0, rfl, by omega, by omega, rfl, by rw [bk_zero]; exact O3.out, B23.out⟩
          case round =>
            obtain ⟨k, rfl, hk4, hjk, rfl, hok, hbk⟩ := hrel
            have OK := Lib.hid hok; clear hok
            have BK := Lib.hid hbk; clear hbk
            have PK := Lib.hid (P3.out.block P (Nat.lt_succ_self P))
            have pk := (P2.out.trans (BK.out.mono (Nat.le_trans (Nat.succ_le_of_lt Psz.out) P2.out.size))).block P (Nat.lt_succ_self P) |>.trans W1C.out
            have PC := Lib.hid pk
            clear pk PK
            by_cases c5 : k < 4 ∧ j + k < x.length
            · obtain ⟨c5, c6⟩ := c5
              have t5 : decide ((k : Int) < 4) = true := decide_eq_true (by omega)
              have t5' : decide (k < 4) = true := decide_eq_true c5
              have t6 : decide ((j : Int) + (k : Int) < (x.length : Int)) = true := decide_eq_true (by omega)
              have t6' : decide (j + k < x.length) = true := decide_eq_true c6
              obtain ⟨g, cb, hv⟩ := OK.out.shape (by omega)
              cases hv
              have q1 : wr.cell? ⟨g, j + k, none⟩ = some (.int .u8 ((x.getD (j + k) 0).toNat : Int)) := by
                rw [OK.out.cellAt (j + k) (by omega)]
                have h := bk_get x j y k c6
                simp only [bys, List.getElem?_map, h, Option.map_some]
              have q2 : wr.frozen? ⟨g, j + k, none⟩ = false := OK.out.frozenAt (j + k) (by omega)
              have q3 : wr.cell? ⟨P, 4 + k, none⟩ = some (.int .u8 ((y k).toNat : Int)) := by
                rw [cell_of_row' PC.out]
                match k, c5 with
                | 0, _ | 1, _ | 2, _ | 3, _ => rfl
              have gP : g ≠ P := by
                intro e
                have h := OK.out.2
                rcases h with ⟨h, _⟩ | ⟨g', _, cur, fr, hv, _, hg, _⟩
                · cases h
                · cases hv
                  rw [e, PC.out] at hg
                  injection hg with hg
                  injection hg with _ hg _
                  exact absurd hg (by decide)
              have BS : Hid (∀ v, Below w2.heap.size w2 (wr.setCell ⟨g, j + k, none⟩ v)) := fun v => BK.out.setCell ((OK.out.lt g rfl).1) v
              have OS : Hid (Own (wr.setCell ⟨g, j + k, none⟩ (.int .u8 ((x.getD (j + k) 0 ^^^ y k).toNat : Int))) w2.heap.size 5 1 (.slice (some ⟨g, 0, none⟩) x.length c3) x.length (bys (bk x j y (k + 1)))) := by
                have h := OK.out.set (j + k) (.int .u8 ((x.getD (j + k) 0 ^^^ y k).toNat : Int))
                rw [bys_set, bk_succ x j y k c6] at h
                exact h
              have XB := Lib.hid (xorb (x.getD (j + k) 0) (y k))
              generalize x.getD (j + k) 0 = xk at *
              go_wp2_with fail
              go_cut [] (fun wx => Own wx w2.heap.size 5 1 (.slice (some ⟨g, 0, none⟩) x.length c3) x.length (bys (bk x j y (k + 1))) ∧ Below w2.heap.size w2 wx)
              case first =>
                go_region
                all_goals go_wp2_with fail
                all_goals go_meet
                all_goals
                  rw [XB.out]
                  exact ⟨OS.out, bel_drew (BS.out _)⟩
              case rest =>
                obtain ⟨wB, rfl⟩ : ∃ q, q = wc := ⟨_, rfl⟩
                obtain ⟨hoB, hbB⟩ := hcut
                have OB := Lib.hid hoB
                have BB := Lib.hid hbB
                clear hoB hbB q1 q2 q3
                have pk := (P2.out.trans (BB.out.mono (Nat.le_trans (Nat.succ_le_of_lt Psz.out) P2.out.size))).block P (Nat.lt_succ_self P) |>.trans W1C.out
                have q4 : wB.cell? ⟨P, 4 + k, none⟩ = some (.int .u8 ((y k).toNat : Int)) := by
                  rw [cell_of_row' pk]
                  match k, c5 with
                  | 0, _ | 1, _ | 2, _ | 3, _ => rfl
                clear pk
                have CK := Lib.hid (ck_succ y k)
                cases hck : ck y k with
                | true =>
                  have HC := Lib.hid hck; clear hck
                  go_wp2
                  go_roundw
                  case rel => exact ⟨k + 1, by go_num, by omega, by omega, by rw [CK.out, HC.out]; rfl, OB.out, BB.out⟩
                  case measure => simp [intOf]; omega
                | false =>
                  have HC := Lib.hid hck; clear hck
                  by_cases hy : y k = 0
                  · have hyb : (((y k).toNat : Int) != 0) = false := by rw [hy]; rfl
                    have HY := Lib.hid hy; clear hy
                    go_wp2
                    go_roundw
                    case rel => exact ⟨k + 1, by go_num, by omega, by omega, by rw [CK.out, HC.out, HY.out]; rfl, OB.out, BB.out⟩
                    case measure => simp [intOf]; omega
                  · have hyb : (((y k).toNat : Int) != 0) = true := by
                      rw [bne_iff_ne]
                      intro h
                      exact hy (UInt8.toNat_inj.1 (by simpa using h))
                    have HY := Lib.hid (show (y k != 0) = true by simpa using hy); clear hy
                    go_wp2
                    go_roundw
                    case rel => exact ⟨k + 1, by go_num, by omega, by omega, by rw [CK.out, HC.out, HY.out]; rfl, OB.out, BB.out⟩
                    case measure => simp [intOf]; omega
            · have TB := Lib.hid (HT.out.below (B2.out.trans (BK.out.mono B2.out.size)))
              have LB := Lib.hid (bk_length x j y k hjk)
              have SB := Lib.hid (bk_ck x j y k hk4 hjk)
              have S1 := Lib.hid (SumN_calls a3 c3 wr (bk x j y k) (by rw [LB.out]; omega) OK.out.byt.1 TB.out)
              have S2 := Lib.hid (SumN_calls ax cx wr x (by omega) (YX.out.below BK.out) TB.out)
              rw [LB.out] at S1
              have BW2 := Lib.hid (B2.out.trans (BK.out.mono B2.out.size))
              generalize sumN (bk x j y k) = sb at *
              generalize sumN x = sx at *
              by_cases c7 : k < 4
              · have c8 : ¬ j + k < x.length := fun h => c5 ⟨c7, h⟩
                have t5 : decide ((k : Int) < 4) = true := decide_eq_true (by omega)
                have t5' : decide (k < 4) = true := decide_eq_true c7
                have t6 : decide ((j : Int) + (k : Int) < (x.length : Int)) = false := decide_eq_false (by omega)
                have t6' : decide (j + k < x.length) = false := decide_eq_false c8
                go_wp2_with fail
                refine S1.out.mono ?_
                rintro r wx ⟨rfl, rfl⟩
                go_wp2_with fail
                refine S2.out.mono ?_
                rintro r wx ⟨rfl, rfl⟩
                clear S1 S2
                cases hck : ck y k with
                | true =>
                  have hne : ((sb : Int) == (sx : Int)) = false := by
                    have h := SB.out
                    rw [hck] at h
                    rw [ibeq]
                    simpa using h
                  clear SB hck
                  go_wp2
                  go_roundw
                  case rel => exact ⟨i + 1, al + xA.length + 1, by go_num, by go_num, by omega, by omega, BW2.out⟩
                  case measure => simp [intOf]; omega
                | false =>
                  obtain rfl : sb = sx := by
                    have h := SB.out
                    rw [hck] at h
                    simpa using h
                  clear SB hck
                  go_wp2
                  go_roundw
                  case rel => exact ⟨i + 1, al + xA.length + 1, by go_num, by go_num, by omega, by omega, BW2.out⟩
                  case measure => simp [intOf]; omega
              · have t5 : decide ((k : Int) < 4) = false := decide_eq_false (by omega)
                have t5' : decide (k < 4) = false := decide_eq_false c7
                go_wp2_with fail
                refine S1.out.mono ?_
                rintro r wx ⟨rfl, rfl⟩
                go_wp2_with fail
                refine S2.out.mono ?_
                rintro r wx ⟨rfl, rfl⟩
                clear S1 S2
                cases hck : ck y k with
                | true =>
                  have hne : ((sb : Int) == (sx : Int)) = false := by
                    have h := SB.out
                    rw [hck] at h
                    rw [ibeq]
                    simpa using h
                  clear SB hck
                  go_wp2
                  go_roundw
                  case rel => exact ⟨i + 1, al + xA.length + 1, by go_num, by go_num, by omega, by omega, BW2.out⟩
                  case measure => simp [intOf]; omega
                | false =>
                  obtain rfl : sb = sx := by
                    have h := SB.out
                    rw [hck] at h
                    simpa using h
                  clear SB hck
                  go_wp2
                  go_roundw
                  case rel => exact ⟨i + 1, al + xA.length + 1, by go_num, by go_num, by omega, by omega, BW2.out⟩
                  case measure => simp [intOf]; omega
      · have t1 : decide ((i : Int) < (n : Int)) = false := decide_eq_false (by omega)
        have t1' : decide (i < n) = false := decide_eq_false c1
        go_wp2
        go_meet
        case rel => exact BW.out
end Go.Proofs.YtjiciklnhcmfaaaDoor
