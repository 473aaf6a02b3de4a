/- posternlaw10: a log's file is changed past it, at both; then it is opened anew. -/
import Derived.Test.YtnbpkignkfabkaaGreatDoorWxS
import Derived.Test.YtnbpkignkfabkaaGreatDoorRemOn
namespace Go.Proofs.YtnbpkignkfabkaaGreatDoor
set_option linter.unusedVariables false
set_option linter.unusedSimpArgs false
open Go.RowKit Go.Maps
section
variable {w0 w w' : World} {sb db rb tb bb : Nat} {lb mb : Nat → Option Nat} {F G : Nat → Prop} {s z t : DS} {K : Nat → Prop} {n : Nat} {st su : Nat → Nat × Bool}
/-- The writes of past, on both disks, told alike. -/
theorem past10_rem (s : DS) (nm : List UInt8) (base db rb : Nat) (hnm : nm.length ≤ 140737488351232) (hw : s.writes ≤ 1000000) :
    ∃ (e : Int) (t : DS), Hid (∀ wx F, DkS wx base db F s → Calls Tryz.prog 62 #[.pointer (some ⟨db, 0, none⟩), .string ⟨nm.toArray⟩] wx fun r w' => r = .returned (.int .i64 e) ∧ DkStep wx w' base db F t) ∧
      Hid (∀ wx G, RfS wx base rb G s → Calls Tryz.prog 63 #[.pointer (some ⟨rb, 0, none⟩), .string ⟨nm.toArray⟩] wx fun r w' => r = .returned (.int .i64 e) ∧ RfStep wx w' base rb G t) ∧ t.writes ≤ s.writes + 1 :=
  ⟨(s.remove nm).1, (s.remove nm).2, Lib.hid (fun wx F hx => (Remove_dk base db F s nm wx hx.dk hnm (by omega)).mono (fun _ _ hr => ⟨hr.1, hx.step hr.2⟩)), Lib.hid (fun wx G hx => Remove9_calls hx nm hnm (by omega)), remove_w _ _⟩
theorem past10_app (s : DS) (nm b : List UInt8) (base db rb : Nat) (hnm : nm.length ≤ 140737488351232) (hb : b.length ≤ 140737488351232) (hw : s.writes ≤ 1000000) :
    ∃ (e : Int) (t : DS), Hid (∀ wx F ia ic, DkS wx base db F s → Byt wx ia b → b.length ≤ ic → Calls Tryz.prog 53 #[.pointer (some ⟨db, 0, none⟩), .string ⟨nm.toArray⟩, .slice ia b.length ic] wx fun r w' => r = .returned (.int .i64 e) ∧ DkStep wx w' base db F t) ∧
      Hid (∀ wx G ia ic, RfS wx base rb G s → Byt wx ia b → b.length ≤ ic → Calls Tryz.prog 61 #[.pointer (some ⟨rb, 0, none⟩), .string ⟨nm.toArray⟩, .slice ia b.length ic] wx fun r w' => r = .returned (.int .i64 e) ∧ RfStep wx w' base rb G t) ∧ t.writes ≤ s.writes + 1 :=
  ⟨(s.append nm b).1, (s.append nm b).2, Lib.hid (fun wx F ia ic hx hy hc => (Append_dk base db F s nm b ia ic wx hx.dk hy hc hnm (by omega)).mono (fun _ _ hr => ⟨hr.1, hx.step hr.2⟩)), Lib.hid (fun wx G ia ic hx hy hc => Append9_calls hx nm b ia ic hnm hy hc hb (by omega)), append_w _ _ _⟩
end
set_option maxRecDepth 100000 in
set_option maxHeartbeats 8000000 in
theorem past10_calls {w0 w : World} {sb db rb tb bb : Nat} {lb mb : Nat → Option Nat} {F G : Nat → Prop} {s : DS} {K : Nat → Prop} {st : Nat → Nat × Bool} (h : Wx w0 w sb db rb tb bb lb mb F G s s K 7 st st) (hr : Rest lb mb) (k : Bool) (N : Nat) (hN : s.writes ≤ N) (hN2 : N ≤ 900000) (hst : ∀ j, (st j).1 ≤ 300000000 * (N + 1)) (ht : Tab w0) (hg : 0 < w0.heap.size)
    (d on n kp : Int) (ba : Option Addr) (b : List UInt8) (bc : Nat) (hy : Byt w0 ba b) (hc : b.length ≤ bc) (hb : b.length ≤ 524288) (hn1 : -9223372036854775808 ≤ n) (hn2 : n ≤ 9223372036854775807) :
    Calls Tryz.prog 31 #[.pointer (some ⟨sb, 0, none⟩), .int .i64 (kz10 k), .agg #[.int .i64 d, .int .i64 on, .slice ba b.length bc, .int .i64 n, .int .i64 kp]] w fun r w' => r = .returned (.bool true) ∧ WxQ w0 w' sb db rb tb bb (N + 3) := by
  have H := Lib.hid h; have RS := Lib.hid hr; have HST := Lib.hid hst; have TB := Lib.hid ht; have HG := Lib.hid hg; have HY := Lib.hid hy
  have NML : (nm10 (kn10 k)).length ≤ 140737488351232 := by cases k <;> decide
  obtain ⟨w1, hw1⟩ : ∃ q, w.alloc (.cells #[.int .i64 d, .int .i64 on, .slice ba b.length bc, .int .i64 n, .int .i64 kp] 76) = q := ⟨_, rfl⟩
  have b1 : Below w.heap.size w w1 := by rw [← hw1]; exact (Below.refl _ _).alloc (Nat.le_refl _) _
  have blk : w1.heap[w.heap.size]? = some (.cells #[.int .i64 d, .int .i64 on, .slice ba b.length bc, .int .i64 n, .int .i64 kp] 76 (0, 0)) := by rw [← hw1]; exact heap_alloc_new w _
  have KB := Lib.hid (fun (wx : World) (hx : Below w1.heap.size w1 wx) => show wx.cell? ⟨w.heap.size, 0, none⟩ = some (.int .i64 d) ∧ wx.cell? ⟨w.heap.size, 2, none⟩ = some (.slice ba b.length bc) ∧ wx.cell? ⟨w.heap.size, 3, none⟩ = some (.int .i64 n) from by
    have h9 := (hx.block _ (lt_of_block blk)).trans blk
    exact ⟨by rw [cell_of_row' h9]; rfl, by rw [cell_of_row' h9]; rfl, by rw [cell_of_row' h9]; rfl⟩)
  have W1 := Lib.hid hw1; have B1 := Lib.hid b1
  have Z1 : w1.heap.size = w.heap.size + 1 := by rw [← hw1]; simp
  have X1 := Lib.hid (h.below b1)
  have X2 := Lib.hid (X1.out.below (w' := w1.drew) (bel_drew (Below.refl _ _)))
  have OKS := h.d.dk.ok
  have RL := readB_le OKS (nm10 (kn10 k))
  have RD := Lib.hid (Read9_calls X2.out.r (nm10 (kn10 k)) (by omega))
  obtain ⟨L, hL⟩ : ∃ q, readB s (nm10 (kn10 k)) = q := ⟨_, rfl⟩
  obtain ⟨e, he⟩ : ∃ q, s.may true [nm10 (kn10 k)] = q := ⟨_, rfl⟩
  rw [hL, he] at RD
  rw [hL] at RL
  have NC := Lib.hid (fun (wx : World) => names10_calls k wx)
  obtain ⟨-, c1, -, -, -, -, -, -⟩ := X2.out.cells
  have Z1H := Lib.hid Z1
  clear h hr hst ht hg hy hw1 b1 blk OKS hL he Z1
  go_enter Tryz.func31, Tryz.ntmps31
  go_upto_region 1 with fail
  rw [W1.out]
  go_region_held3 (fun w' => w'.cell? ⟨sb, 1, none⟩ = some (.pointer (some ⟨rb, 0, none⟩)))
    (first
      | go_keep)
    (first
      | (go_at_call 21; (with_reducible refine (NC.out _).mono ?_); rintro r wx ⟨rfl, rfl⟩)
      | (go_at_call 56; (with_reducible refine RD.out.mono ?_); rintro r w2 ⟨v2, rfl, ho2, hb2⟩; have B2 := Lib.hid hb2; have O2 := Lib.hid ho2; have X3 := Lib.hid (X2.out.below hb2); obtain ⟨-, c1, -, -, -, -, -, -⟩ := X3.out.cells; clear hb2 ho2))
  obtain ⟨va, vc, rfl, -, -, -, -, -⟩ := own_val O2.out
  have BW2 := Lib.hid (B1.out.trans (((bel_drew (Below.refl w1.heap.size w1)).trans B2.out).mono B1.out.size))
  have BX2 := Lib.hid (((bel_drew (Below.refl w1.heap.size w1)).trans B2.out))
  have O2b := Lib.hid (O2.out.mono (show w1.heap.size ≤ w1.drew.heap.size from Nat.le_refl _))
  clear RD c1 B2 O2 X1 X2
  go_upto_if 24 with fail
  go_cut [7] (fun v7 wx => ∃ (X0 : List UInt8) (va : Option Addr) (vc : Nat), v7 = .slice va X0.length vc ∧ Own wx w1.heap.size 5 1 (.slice va X0.length vc) X0.length (bys X0) ∧ X0.length ≤ 268435456 ∧ w2 = wx)
  case first =>
    by_cases he : e = 0
    · subst he
      have t1 : ((0 : Int) != 0) = false := rfl
      go_wp2
      go_meet
      case rel => exact ⟨L, va, vc, rfl, O2b.out, RL, rfl⟩
    · have t1 : (e != 0) = true := by rw [bne_iff_ne]; exact he
      clear he
      go_wp2
      go_meet
      case rel => exact ⟨[], none, 0, rfl, Own.nil _ _ _ _, by simp, rfl⟩
  case rest =>
    obtain ⟨X0, va, vc, rfl, ho, hX, rfl⟩ := hcut
    have O3 := Lib.hid ho
    clear ho O2b
    obtain ⟨k0, k2, k3⟩ := KB.out _ BX2.out
    go_upto_block 0 with fail
    go_cut [7] (fun v7 wx => ∃ (X : List UInt8) (va : Option Addr) (vc : Nat), v7 = .slice va X.length vc ∧ Byt wx va X ∧ X.length ≤ vc ∧ X.length ≤ 300000000 ∧ Below w1.heap.size w1 wx ∧ ∀ ad, va = some ad → w1.heap.size ≤ ad.block ∧ ad.block < wx.heap.size)
    case first =>
      by_cases d5 : d = 5
      · subst d5
        have M1 : Hid (X0.length + b.length ≤ maxLen) := by show _ ≤ _; unfold maxLen; omega
        have M2 : Hid ((X0.length + b.length) * 1 ≤ 140737488355328) := by show _ ≤ _; omega
        have YB := Lib.hid (HY.out.below (H.out.bel.trans (BW2.out.mono H.out.bw)))
        go_wp2_with (at_builtin; refine wpList_append rfl (.tmp 29) (.tmp 31) 74 74 rfl w1.heap.size 5 (.int .u8 0) 1 1 Tryz.underlying74 infoByte rfl (n := X0.length) (xs := bys X0) O3.out rfl (xv := .slice ba b.length bc) (m := b.length) (news := bys b) (Src_byt Tryz.underlying74 YB.out (fun _ => .inr trivial)) rfl M1.out M2.out BX2.out.size ?_)
        intro v4 w4 ho hg _ _
        have B4 := Lib.hid (BX2.out.grown hg BX2.out.size (fun k hk => (O3.out.lt k hk).1))
        rw [← bys_append, ← List.length_append] at ho
        obtain ⟨a4, c4, rfl, -, -, -, -, -⟩ := own_val ho
        have O4 := Lib.hid ho
        clear ho hg
        go_wp2
        go_meet
        case rel => exact ⟨X0 ++ b, a4, c4, rfl, (Own.byt O4.out).1, own_le O4.out, by rw [List.length_append]; omega, B4.out, fun ad e => O4.out.lt _ (by rw [e]; rfl)⟩
      have t5 : (d == 5) = false := beq_eq_false_iff_ne.2 d5
      by_cases d8 : d = 8
      · subst d8
        clear d5
        have FC := Lib.hid (Frame3_calls w2 b ba bc (HY.out.below (H.out.bel.trans (BW2.out.mono H.out.bw))) (by omega))
        have FR : Hid (FrameR b = (frm b, 0)) := if_pos (by omega)
        rw [FR.out] at FC
        have FL := frm_length b
        obtain ⟨fb, hfb⟩ : ∃ q, frm b = q := ⟨_, rfl⟩
        rw [hfb] at FC FL
        have FLH := Lib.hid FL
        have FB1 : fb.length ≤ 524301 := by omega
        clear hfb FL
        go_wp2_with fail
        refine FC.out.mono ?_
        rintro r w3 ⟨fv, rfl, ho3, hb3⟩
        obtain ⟨fa, fc, rfl, -, -, -, -, -⟩ := own_val ho3
        have YB := Lib.hid (Own.byt ho3).1
        have BX3 := Lib.hid (BX2.out.trans (hb3.mono BX2.out.size))
        have O4 := Lib.hid (O3.out.below hb3)
        have M1 : Hid (X0.length + fb.length ≤ maxLen) := by show _ ≤ _; unfold maxLen; omega
        have M2 : Hid ((X0.length + fb.length) * 1 ≤ 140737488355328) := by show _ ≤ _; omega
        clear ho3 hb3 FC
        go_wp2_with (at_builtin; refine wpList_append rfl (.tmp 41) (.tmp 42) 74 74 rfl w1.heap.size 5 (.int .u8 0) 1 1 Tryz.underlying74 infoByte rfl (n := X0.length) (xs := bys X0) O4.out rfl (xv := .slice fa fb.length fc) (m := fb.length) (news := bys fb) (Src_byt Tryz.underlying74 YB.out (fun _ => .inr trivial)) rfl M1.out M2.out BX3.out.size ?_)
        intro v4 w4 ho hg _ _
        have B4 := Lib.hid (BX3.out.grown hg BX3.out.size (fun k hk => (O4.out.lt k hk).1))
        rw [← bys_append, ← List.length_append] at ho
        obtain ⟨a4, c4, rfl, -, -, -, -, -⟩ := own_val ho
        have O5 := Lib.hid ho
        clear ho hg
        go_wp2
        go_meet
        case rel => exact ⟨X0 ++ fb, a4, c4, rfl, (Own.byt O5.out).1, own_le O5.out, by rw [List.length_append]; omega, B4.out, fun ad e => O5.out.lt _ (by rw [e]; rfl)⟩
      have t8 : (d == 8) = false := beq_eq_false_iff_ne.2 d8
      by_cases d6 : d = 6
      · subst d6
        clear d5 d8
        have WC := Lib.hid (Within_calls n ((X0.length : Int) + 1) w2 (by omega) (by omega) hn1 hn2)
        have m1 := Int.emod_nonneg n (show ((X0.length : Int) + 1) ≠ 0 by omega)
        have m2 := Int.emod_lt_of_pos n (show (0 : Int) < (X0.length : Int) + 1 by omega)
        obtain ⟨m, hm⟩ : ∃ m : Nat, n % ((X0.length : Int) + 1) = m := ⟨(n % ((X0.length : Int) + 1)).toNat, by omega⟩
        rw [hm] at WC m2
        have hmx : m ≤ X0.length := by omega
        have hcap := own_le O3.out
        obtain ⟨p, hp⟩ : ∃ p, X0.length - m = p := ⟨_, rfl⟩
        have hpi : (X0.length : Int) - (m : Int) = (p : Int) := by omega
        have hpx : p ≤ X0.length := by omega
        have hpc : (p : Int) ≤ (vc : Int) := by omega
        have HP := Lib.hid hp
        have OB := Lib.hid (Own.byt O3.out).1
        have TL : (X0.take p).length = p := by rw [List.length_take]; omega
        have TLH := Lib.hid TL
        clear hm m1 hp hpi TL
        go_wp2_with (go_at_call 4; refine WC.out.mono ?_; rintro r wx ⟨rfl, rfl⟩)
        go_meet
        case rel => exact ⟨X0.take p, va, vc, by rw [TLH.out, HP.out], (Byt.take OB.out p), (by rw [TLH.out]; omega), by rw [TLH.out]; omega, BX2.out, fun ad e => O3.out.lt _ (by rw [e]; rfl)⟩
      have t6 : (d == 6) = false := beq_eq_false_iff_ne.2 d6
      by_cases d7 : d = 7
      · subst d7
        clear d5 d8 d6
        have WC := Lib.hid (Within_calls n ((X0.length : Int) + 1) w2 (by omega) (by omega) hn1 hn2)
        have m1 := Int.emod_nonneg n (show ((X0.length : Int) + 1) ≠ 0 by omega)
        have m2 := Int.emod_lt_of_pos n (show (0 : Int) < (X0.length : Int) + 1 by omega)
        obtain ⟨m, hm⟩ : ∃ m : Nat, n % ((X0.length : Int) + 1) = m := ⟨(n % ((X0.length : Int) + 1)).toNat, by omega⟩
        rw [hm] at WC m2
        have hmx : m ≤ X0.length := by omega
        obtain ⟨XL, hXL⟩ : ∃ q, X0.length = q := ⟨_, rfl⟩
        have O5 : Hid (Own w2 w1.heap.size 5 1 (.slice va XL vc) XL (bys X0)) := by rw [← hXL]; exact O3.out
        have XLH := Lib.hid hXL
        rw [hXL] at hX hmx WC ⊢
        clear hm m1 m2 O3 hXL
        go_wp2_with (go_at_call 4; refine WC.out.mono ?_; rintro r wx ⟨rfl, rfl⟩)
        go_loopw [12] (fun v wr => ∃ (j : Nat) (X : List UInt8), v = .int .i64 j ∧ j ≤ b.length ∧ X.length = XL ∧ Own wr w1.heap.size 5 1 (.slice va XL vc) XL (bys X) ∧ Below w1.heap.size w1 wr) (fun v _ => b.length - (intOf v).toNat)
        case atStart => exact ⟨0, X0, rfl, Nat.zero_le _, XLH.out, O5.out, BX2.out⟩
        case round =>
          obtain ⟨j, X, rfl, hj, hXl, hO, hbw⟩ := hrel
          have OR := Lib.hid hO; have BR := Lib.hid hbw; have XLR := Lib.hid hXl
          clear hO hbw hXl
          obtain ⟨-, k2, -⟩ := KB.out _ BR.out
          by_cases q1 : j < b.length
          · have t1 : decide ((j : Int) < (b.length : Int)) = true := decide_eq_true (by omega)
            have t1' : decide (j < b.length) = true := decide_eq_true q1
            by_cases q2 : m + j < XL
            · have t2 : decide ((m : Int) + (j : Int) < (XL : Int)) = true := decide_eq_true (by omega)
              have t2' : decide (m + j < XL) = true := decide_eq_true q2
              have i1 : (j : Int) < (b.length : Int) := by omega
              have i3 : (m : Int) + (j : Int) < (XL : Int) := by omega
              have i4 : 0 ≤ (m : Int) + (j : Int) := by omega
              have i5 : ((m : Int) + (j : Int)).toNat = m + j := by omega
              have YR := HY.out.below (H.out.bel.trans ((B1.out.trans (BR.out.mono B1.out.size)).mono H.out.bw))
              obtain ⟨bl, o, rfl, e1⟩ := YR j q1
              have hg2 := OR.out.shape (by omega)
              obtain ⟨g, cap, hv⟩ := hg2
              obtain ⟨rfl, rfl⟩ : va = some ⟨g, 0, none⟩ ∧ vc = cap := by injection hv with e1 e2 e3; exact ⟨e1, e3⟩
              have f1 := OR.out.frozenAt (m + j) (by omega)
              obtain ⟨yi, e2⟩ : ∃ y : Int, wr.cell? ⟨g, m + j, none⟩ = some (.int .u8 y) := ⟨_, (OR.out.cellAt (m + j) (by omega)).trans (bys_get (show m + j < X.length by rw [XLR.out]; exact q2))⟩
              obtain ⟨bv, hbv⟩ : ∃ q, b[j] = q := ⟨_, rfl⟩
              rw [hbv] at e1
              have OS := OR.out.set (m + j) (.int .u8 (bv.toNat : Int))
              rw [bys_set] at OS
              have OSH := Lib.hid OS
              have BS := Lib.hid (BR.out.trans (((Upd.refl (fun i => i = g) wr).setCell (p := ⟨g, m + j, none⟩) (fun _ => rfl) (.int .u8 (bv.toNat : Int))).below (fun i hi _ => by rw [hi]; exact (OR.out.lt g rfl).1) BR.out.size))
              clear OS hbv hv YR
              go_wp2
              go_roundw
              case rel => exact ⟨j + 1, _, by go_num, by omega, by rw [List.length_set]; exact XLR.out, OSH.out, BS.out⟩
              case measure => simp [intOf]; omega
            · have t2 : decide ((m : Int) + (j : Int) < (XL : Int)) = false := decide_eq_false (by omega)
              have t2' : decide (m + j < XL) = false := decide_eq_false q2
              go_wp2
              go_meet
              case rel => exact ⟨X, va, vc, by rw [XLR.out], (by have h9 := OR.out; rw [← XLR.out] at h9; exact (Own.byt h9).1), by rw [XLR.out]; exact own_le OR.out, by rw [XLR.out]; omega, BR.out, fun ad e => OR.out.lt _ (by rw [e]; rfl)⟩
          · have t1 : decide ((j : Int) < (b.length : Int)) = false := decide_eq_false (by omega)
            have t1' : decide (j < b.length) = false := decide_eq_false q1
            go_wp2
            go_meet
            case rel => exact ⟨X, va, vc, by rw [XLR.out], (by have h9 := OR.out; rw [← XLR.out] at h9; exact (Own.byt h9).1), by rw [XLR.out]; exact own_le OR.out, by rw [XLR.out]; omega, BR.out, fun ad e => OR.out.lt _ (by rw [e]; rfl)⟩
      have t7 : (d == 7) = false := beq_eq_false_iff_ne.2 d7
      clear d5 d8 d6 d7
      go_wp2
      go_meet
      case rel => exact ⟨X0, va, vc, rfl, (Own.byt O3.out).1, own_le O3.out, by omega, BX2.out, fun ad e => O3.out.lt _ (by rw [e]; rfl)⟩
    case rest =>
      obtain ⟨wB, rfl⟩ : ∃ q, q = wc := ⟨_, rfl⟩
      obtain ⟨X, va, vc, rfl, hby, hcap, hXl, hbw, hva⟩ := hcut
      have BB := Lib.hid ((B1.out.trans (hbw.mono B1.out.size)).trans ((bel_drew (Below.refl wB.heap.size wB)).mono (by have := hbw.size; have := B1.out.size; omega)))
      have XB := Lib.hid (H.out.below BB.out)
      have Y0 := Lib.hid (hby.below (bel_drew (Below.refl wB.heap.size wB)))
      have VA : Hid (∀ ad, va = some ad → w.heap.size ≤ ad.block ∧ ad.block < wB.drew.heap.size) := fun ad e => ⟨Nat.le_trans B1.out.size (hva ad e).1, (hva ad e).2⟩
      obtain ⟨e1, t1, C1, R1, tw1⟩ := past10_rem s (nm10 (kn10 k)) w0.heap.size db rb NML (by omega)
      obtain ⟨e2, t2, C2, R2, tw2⟩ := past10_app t1 (nm10 (kn10 k)) X w0.heap.size db rb NML (by omega) (by omega)
      have TW : t2.writes ≤ N + 2 := by omega
      have u1 : (e1 != e1) = false := by simp
      have u2 : (e2 != e2) = false := by simp
      have YD := Lib.hid (fun (wx wy : World) (F' : Nat → Prop) (hF : ∀ i, F' i → F i ∨ wB.drew.heap.size ≤ i) (hu : Upd F' wx wy) (h : Byt wx va X) => h.upd hu (fun ad e _ hf => by
        have h1 := VA.out ad e
        rcases hF _ hf with h9 | h9
        · have := (H.out.d.fl _ h9).2; omega
        · omega))
      have YG := Lib.hid (fun (wx wy : World) (hu : Upd (fun i => i = rb) wx wy) (h : Byt wx va X) => h.upd hu (fun ad e _ hf => by
        have h1 := VA.out ad e
        have := (H.out.r.fl _ H.out.r.at_).2
        have h2 : ad.block = rb := hf
        omega))
      have C1X := Lib.hid (C1.out _ _ XB.out.d)
      obtain ⟨q0, q1, -, -, -, -, -, -⟩ := XB.out.cells
      have HCAP := Lib.hid hcap
      clear hby hbw hva X3 O3 hcap tw1 tw2 k0 k2 k3
      go_upto_region 18 with fail
      go_region_held3 (fun w' => w'.cell? ⟨sb, 0, none⟩ = some (.pointer (some ⟨db, 0, none⟩)) ∧ w'.cell? ⟨sb, 1, none⟩ = some (.pointer (some ⟨rb, 0, none⟩)))
        (first
          | go_keep)
        (first
          | (go_at_call 21; (with_reducible refine (NC.out _).mono ?_); rintro r wx ⟨rfl, rfl⟩)
          | (go_at_call 7; (with_reducible refine (num10_calls _ _).mono ?_); rintro r wx ⟨rfl, rfl⟩)
          | (go_at_call 62; (with_reducible refine C1X.out.mono ?_); rintro r w4 ⟨rfl, s4⟩; obtain ⟨F4, x4, f4⟩ := XB.out.stepD s4; obtain ⟨_, _, u4, _, _⟩ := s4; have X4 := Lib.hid x4; have FF4 := Lib.hid f4; have Y4 := Lib.hid (YD.out _ _ F (fun i hi => .inl hi) u4 Y0.out); obtain ⟨q0, q1, -, -, -, -, -, -⟩ := x4.cells; have R1X := Lib.hid (R1.out _ _ x4.r); clear x4 u4 f4)
          | (go_at_call 63; (with_reducible refine R1X.out.mono ?_); rintro r w5 ⟨rfl, s5⟩; obtain ⟨G5, x5, -⟩ := X4.out.stepR s5; obtain ⟨_, _, u5, _, _⟩ := s5; have X5 := Lib.hid x5; have Y5 := Lib.hid (YG.out _ _ u5 Y4.out); obtain ⟨q0, q1, -, -, -, -, -, -⟩ := x5.cells; have C2X := Lib.hid (C2.out _ _ va vc x5.d Y5.out HCAP.out); clear x5 u5)
          | (go_at_call 53; (with_reducible refine C2X.out.mono ?_); rintro r w6 ⟨rfl, s6⟩; obtain ⟨F6, x6, -⟩ := X5.out.stepD s6; obtain ⟨_, _, u6, _, _⟩ := s6; have X6 := Lib.hid x6; have Y6 := Lib.hid (YD.out _ _ F4 FF4.out u6 Y5.out); obtain ⟨q0, q1, -, -, -, -, -, -⟩ := x6.cells; have R2X := Lib.hid (R2.out _ _ va vc x6.r Y6.out HCAP.out); clear x6 u6)
          | (go_at_call 61; (with_reducible refine R2X.out.mono ?_); rintro r w7 ⟨rfl, s7⟩; obtain ⟨G7, x7, -⟩ := X6.out.stepR s7; have X7 := Lib.hid x7; obtain ⟨q0, q1, -, -, -, -, -, -⟩ := x7.cells; clear x7 s7))
      all_goals
        have OPC := Lib.hid (open10_calls X7.out RS.out k (N + 2) TW (by omega) (fun j => Nat.le_trans (HST.out j) (by omega)) TB.out HG.out)
        clear q0 q1
        go_wp2_with fail
        refine OPC.out.mono ?_
        rintro r w8 ⟨rfl, hq8⟩
        have Q8 := Lib.hid hq8
        clear hq8 OPC
        go_wp2
        go_ret
        exact ⟨by first | rfl | simp, Q8.out⟩
end Go.Proofs.YtnbpkignkfabkaaGreatDoor
