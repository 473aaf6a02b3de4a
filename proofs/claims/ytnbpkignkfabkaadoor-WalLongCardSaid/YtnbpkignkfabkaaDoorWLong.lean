/- posternlaw10.WalLong. -/
import Derived.Test.YtnbpkignkfabkaaDoorTorn
import Derived.Test.YtnbpkignkfabkaaDoorFiles
namespace Go.Proofs.YtnbpkignkfabkaaDoor
set_option linter.unusedVariables false
set_option linter.unusedSimpArgs false
open Go.RowKit Go.Maps
set_option maxRecDepth 100000 in
set_option maxHeartbeats 4000000 in
theorem refuses_calls (a : Option Addr) (c : Nat) (l : List UInt8) (w : World) (hy : Byt w a l) (hl : l.length ≤ 140737488355328) (ht : Tab w) (hg : 0 < w.heap.size) :
    Calls Tryd.prog 25 #[.slice a l.length c] w fun r w' => r = .returned (.bool true) ∧ Below w.heap.size w w' := by
  have NC := Lib.hid (NewK_calls 100 w)
  have TB := Lib.hid ht; have HG := Lib.hid hg; have Y0 := Lib.hid hy
  obtain ⟨k, hk⟩ : ∃ k, l.length = k := ⟨_, rfl⟩
  have HK := Lib.hid hk
  have kc := fun (w : World) (C : Array Value) (n c : Nat) => Lib.run_convert_bytes_const (P := Tryd.prog) w 35 5 C n c Tryd.underlying35 Tryd.underlying5
  rw [hk] at hl ⊢
  clear ht hg hy hk
  go_enter Tryd.func25, Tryd.ntmps25
  go_wp2_with fail
  refine NC.out.mono ?_
  rintro r w1 hr
  obtain ⟨db, F1, rfl, d1, b1⟩ := new_s (room := 100) (by decide) (by decide) hr
  have D1 := Lib.hid d1; have B1 := Lib.hid b1
  clear d1 b1 hr NC
  have O1 := Open_s X10 D1.out (TB.out.bel B1.out HG.out) HG.out (by decide) (Nat.zero_le _)
  rw [ds_new, open_new x10_ok] at O1
  have O1H := Lib.hid O1
  clear O1
  go_wp2_with (go_at_call 9; refine (num10_calls _ _).mono ?_; rintro r wx ⟨rfl, rfl⟩)
  refine O1H.out.mono ?_
  rintro r w2 ⟨F2, d2, u2', b2, f2, lb, a2, c2, Af2, Cf2, rfl, l2, g2, n2, -, -⟩
  have D2 := Lib.hid (show DkS w2 w.heap.size db F2 (UD 100 X10 false [] 0 0 false 0) from d2); have B2 := Lib.hid (B1.out.trans b2); have L2 := Lib.hid l2; have N2 := Lib.hid n2
  have LB := Lib.hid (show w.heap.size ≤ lb from Nat.le_trans D1.out.bw g2)
  have A2 := Lib.hid (D2.out.arm 1 0 (by decide))
  clear d2 u2' b2 f2 l2 g2 n2 O1H
  go_wp2_with (go_at_call 9; refine (num10_calls _ _).mono ?_; rintro r wx ⟨rfl, rfl⟩)
  refine A2.out.mono ?_
  rintro r w3 ⟨rfl, F3, d3, u3', b3, f3⟩
  have D3 := Lib.hid (show DkS w3 w.heap.size db F3 (UD 100 X10 false [] 1 0 false 0) from d3); have B3 := Lib.hid (B2.out.trans b3)
  have L3 := Lib.hid (L2.out.upd u3' N2.out)
  have N3 : Hid (¬ F3 lb) := fun hf => (f3 _ hf).elim N2.out (fun h9 => by have := L2.out.lt; omega)
  have BA : Below w3.heap.size w3 (w3.alloc (.cells #[.int .u8 97] 5 (1, 2))) := (Below.refl _ _).alloc (Nat.le_refl _) _
  have A4 := WalAppend_s [97] (some ⟨w3.heap.size, 0, none⟩) 1 (D3.out.below BA) (L3.out.below BA) LB.out N3.out ((TB.out.bel B3.out HG.out).below BA) HG.out (Byt.lit w3 [97] (1, 2)) (by decide) (by decide) (Nat.zero_le _) (Nat.zero_le _)
  rw [UD_walA1 x10_ok (fun _ => rfl) (by decide) (by decide)] at A4
  have A4H := Lib.hid A4
  have L3a := Lib.hid (L3.out.below BA); have BAH := Lib.hid BA
  clear d3 u3' b3 f3 A4 BA A2
  go_wp2_with fail
  refine A4H.out.mono ?_
  rintro r w4 ⟨rfl, F4, d4, l4, n4, u4', b4, f4⟩
  have D4 := Lib.hid d4; have L4 := Lib.hid l4; have N4 := Lib.hid n4
  have B4 := Lib.hid ((B3.out.trans (BAH.out.mono D3.out.bw)).trans b4)
  have A5 := Lib.hid d4.on
  clear d4 l4 n4 u4' b4 f4 A4H
  go_wp2_with fail
  refine A5.out.mono ?_
  rintro r w5 ⟨rfl, F5, d5, u5', b5, f5⟩
  have B5 := Lib.hid (B4.out.trans b5)
  have L5 := Lib.hid (L4.out.upd u5' N4.out)
  have N5 : Hid (¬ F5 lb) := fun hf => (f5 _ hf).elim N4.out (fun h9 => by have := L4.out.lt; omega)
  have Y5 : Byt w5 a l := Y0.out.below B5.out
  have A6 := WalAppend_s l a c d5 L5.out LB.out N5.out (TB.out.bel B5.out HG.out) HG.out Y5 (by have h9 := HK.out; omega) (by decide) (show 1 ≤ 4611686018427387904 by decide) (Nat.zero_le _)
  rw [walA_off', HK.out] at A6
  have A6H := Lib.hid A6
  clear d5 u5' b5 f5 Y5 A6 A5
  go_wp2_with (go_at_call 9; refine (num10_calls _ _).mono ?_; rintro r wx ⟨rfl, rfl⟩)
  refine A6H.out.mono ?_
  rintro r w6 ⟨rfl, F6, d6, -, -, u6', b6, f6⟩
  have B6 := Lib.hid (B5.out.trans b6)
  have FC := Lib.hid (Files_s d6)
  clear d6 u6' b6 f6 A6H
  go_wp2_with (go_at_call 9; refine (num10_calls _ _).mono ?_; rintro r wx ⟨rfl, rfl⟩)
  refine FC.out.mono ?_
  rintro r w7 ⟨a7, c7, rfl, -, -, -, -, b7⟩
  have B7 := Lib.hid (B6.out.trans b7)
  have e0 : (UD 100 X10 (false || decide ((0 : Int) < 0)) ([] ++ keptB (frm [97]) 0) 0 0 true (0 + 1)).on.C.length = 0 := rfl
  rw [e0]
  clear b7 e0 FC
  go_wp2
  go_ret
  exact ⟨by first | rfl | simp, B7.out⟩
set_option maxRecDepth 100000 in
set_option maxHeartbeats 8000000 in
theorem WalLong_ok (i : Int) (n : Nat) (w : World) (hi1 : -9223372036854775808 ≤ i) (hi2 : i ≤ 9223372036854775807) (hn : i % 16777218 = (n : Int)) (hn2 : n ≤ 16777216) (ht : Tab w) (hg : 0 < w.heap.size) :
    Calls Tryd.prog 7 #[.int .i64 i] w fun r w' => r = .returned (.bool true) ∧ Below w.heap.size w w' := by
  have WC0 := Within_calls i 16777218 w (by decide) (by decide) hi1 hi2
  rw [hn] at WC0
  have WC := Lib.hid WC0
  have TB := Lib.hid ht; have HG := Lib.hid hg
  have NC := Lib.hid (NewK_calls 33554432 w)
  have kc := fun (w : World) (C : Array Value) (n c : Nat) => Lib.run_convert_bytes_const (P := Tryd.prog) w 35 5 C n c Tryd.underlying35 Tryd.underlying5
  have t0 : decide ((16777216 : Int) < (n : Int)) = false := decide_eq_false (by omega)
  have t0' : decide (16777216 < n) = false := decide_eq_false (by omega)
  clear hn hi1 hi2 WC0 ht hg
  go_enter Tryd.func7, Tryd.ntmps7
  go_wp2_with fail
  refine WC.out.mono ?_
  rintro r w0 ⟨rfl, rfl⟩
  clear WC
  go_wp2_with fail
  refine NC.out.mono ?_
  rintro r w1 hr
  obtain ⟨db, F1, rfl, d1, b1⟩ := new_s (room := 33554432) (by decide) (by decide) hr
  have D1 := Lib.hid d1; have B1 := Lib.hid b1
  clear d1 b1 hr NC
  have WK := Lib.hid (works10_calls w1 (TB.out.bel B1.out HG.out) (Nat.lt_of_lt_of_le HG.out D1.out.bw))
  go_wp2_with (go_at_call 9; refine (num10_calls _ _).mono ?_; rintro r wx ⟨rfl, rfl⟩)
  refine WK.out.mono ?_
  rintro r w2 ⟨rfl, b2⟩
  have D2 := Lib.hid (D1.out.below b2)
  have B2 := Lib.hid (B1.out.trans (b2.mono D1.out.bw))
  clear b2 WK
  have O2 := Open_s X10 D2.out (TB.out.bel B2.out HG.out) HG.out (by decide) (Nat.zero_le _)
  rw [ds_new, open_new x10_ok] at O2
  have O2H := Lib.hid O2
  clear O2
  go_wp2_with fail
  refine O2H.out.mono ?_
  rintro r w3 ⟨F3, d3, u3', b3, f3, lb, a3, c3, Af3, Cf3, rfl, l3, g3, n3, -, -⟩
  have LB := Lib.hid (Nat.le_trans D2.out.bw g3)
  have D3 := Lib.hid d3; have B3 := Lib.hid (B2.out.trans b3); have L3 := Lib.hid l3; have N3 := Lib.hid n3
  clear d3 u3' b3 f3 l3 g3 n3 O2H
  go_wp2_with (first | (go_at_call 9; refine (num10_calls _ _).mono ?_; rintro r wx ⟨rfl, rfl⟩) | (at_make; refine wpList_makeBytes rfl (.tmp 46) (.tmp 46) 35 rfl 5 Tryd.underlying35 infoByte .i64 .i64 n rfl rfl (by omega) ?_; intro w4 ho4 hb4 hlt4))
  obtain ⟨l, hl⟩ : ∃ l, List.replicate n (0 : UInt8) = l := ⟨_, rfl⟩
  have LL : l.length = n := by rw [← hl, List.length_replicate]
  rw [hl] at ho4
  have Y4 : Byt w4 (some ⟨w3.heap.size, 0, none⟩) l := by
    rw [← LL] at ho4
    exact (Own.byt ho4).1
  have B4 := Lib.hid (B3.out.trans (hb4.mono D3.out.bw))
  have A5 := WalAppend_s l (some ⟨w3.heap.size, 0, none⟩) n (D3.out.below hb4) (L3.out.below hb4) LB.out N3.out (TB.out.bel B4.out HG.out) HG.out Y4 (by omega) (by decide) (Nat.zero_le _) (Nat.zero_le _)
  rw [walA_new x10_ok (by omega) (by omega), LL] at A5
  have A5H := Lib.hid A5; have LLH := Lib.hid LL
  clear ho4 hb4 hlt4 Y4 A5 hl LL
  go_wp2_with fail
  refine A5H.out.mono ?_
  rintro r w5 ⟨rfl, F5, d5, l5, n5, u5', b5, f5⟩
  have D5 := Lib.hid d5; have N5 := Lib.hid n5; have B5 := Lib.hid (B4.out.trans b5)
  have L5 : Hid (Lg w5 lb db X10 (n + 13) false) := by have h9 := l5; rw [Nat.zero_add] at h9; exact h9
  have SZ := Lib.hid (WalSize_calls lb db X10 (n + 13) false w5 L5.out)
  clear d5 l5 n5 u5' b5 f5 A5H
  go_wp2_with (go_at_call 9; refine (num10_calls _ _).mono ?_; rintro r wx ⟨rfl, rfl⟩)
  refine SZ.out.mono ?_
  rintro r wx ⟨rfl, rfl⟩
  clear SZ
  have BA : Below w5.heap.size w5 (w5.alloc (.cells (bys MORE).toArray 5 (4, 5))) := (Below.refl _ _).alloc (Nat.le_refl _) _
  have A6 := WalAppend_s MORE (some ⟨w5.heap.size, 0, none⟩) 4 (D5.out.below BA) (L5.out.below BA) LB.out N5.out ((TB.out.bel B5.out HG.out).below BA) HG.out (Byt.lit w5 MORE (4, 5)) (by decide) (by decide) (show 0 + 1 ≤ 4611686018427387904 by decide) (by omega)
  rw [walA_one x10_ok (by decide) (show (frm l).length + (4 + 13) ≤ 33554432 by rw [frm_length]; have h9 := LLH.out; omega)] at A6
  have A6H := Lib.hid A6; have BAH := Lib.hid BA
  clear A6 BA
  go_wp2_with fail
  refine A6H.out.mono ?_
  rintro r w6 ⟨rfl, F6, d6, l6, n6, u6', b6, f6⟩
  have B6 := Lib.hid ((B5.out.trans (BAH.out.mono D5.out.bw)).trans b6)
  have L6 : Hid (Lg w6 lb db X10 (n + 13 + 17) false) := l6
  have D6 := Lib.hid d6; have N6 := Lib.hid n6
  have rec6 : recOf (frm l ++ frm MORE) = ([l, MORE], l.length + 13 + 17, 0) := by
    rw [recOf_frm l _ (by have h9 := LLH.out; omega)]
    have h8 := recOf_frm MORE [] (by decide)
    rw [List.append_nil, recOf_nil] at h8
    rw [h8]
    rfl
  have O7 := Open_s X10 d6 (TB.out.bel B6.out HG.out) HG.out (by decide) (show 0 + 1 + 1 ≤ 4611686018427387904 by decide)
  rw [open_whole x10_ok 0 0 _ rec6] at O7
  have O7H := Lib.hid O7
  clear O7 rec6 d6 l6 n6 u6' b6 f6 A6H
  go_wp2_with fail
  refine O7H.out.mono ?_
  rintro r w7 ⟨F7, d7, u7', b7, f7, lb7, a7, c7, Af7, Cf7, rfl, -, -, -, rd7, -⟩
  have B7 := Lib.hid (B6.out.trans b7)
  have L7 := Lib.hid (L6.out.upd u7' N6.out)
  have SZ := Lib.hid (WalSize_calls lb db X10 (n + 13 + 17) false w7 L7.out)
  obtain ⟨ab, ao, rfl, x0⟩ := rd7.cell 0 (by show 0 < 2; decide)
  obtain ⟨ab', ao', e, x1⟩ := rd7.cell 1 (by show 1 < 2; decide)
  cases e
  have y1 := rd7.byt 1 (by show 1 < 2; decide)
  have x0' : w7.cell? ⟨ab, ao, none⟩ = some (.slice (Af7 0) n (Cf7 0)) := by
    have h9 : w7.cell? ⟨ab, ao + 0, none⟩ = some (.slice (Af7 0) l.length (Cf7 0)) := x0
    rw [LLH.out] at h9
    exact h9
  have x1' : w7.cell? ⟨ab, ao + 1, none⟩ = some (.slice (Af7 1) 4 (Cf7 1)) := x1
  have cv : (convert 35 9 (.slice (Af7 1) 4 (Cf7 1))).run Tryd.prog w7 = .ok (.string ⟨#[109, 111, 114, 101]⟩) w7 := conv_bytes (t := MORE) Tryd.underlying35 Tryd.underlying5 Tryd.underlying9 y1
  have e2 : [l, MORE].length = 2 := rfl
  rw [e2]
  have tn : ((n : Int) == (n : Int)) = true := beq_self_eq_true _
  clear x0 x1 y1 rd7 d7 u7' b7 f7 O7H e2
  go_wp2_with (first | (go_at_call 9; refine (num10_calls _ _).mono ?_; rintro r wx ⟨rfl, rfl⟩) | (go_at_call 17; refine SZ.out.mono ?_; rintro r wx ⟨rfl, rfl⟩))
  go_ret
  exact ⟨by first | rfl | simp, B7.out⟩
set_option maxRecDepth 100000 in
set_option maxHeartbeats 8000000 in
theorem WalLong_bad (i : Int) (n : Nat) (w : World) (hi1 : -9223372036854775808 ≤ i) (hi2 : i ≤ 9223372036854775807) (hn : i % 16777218 = (n : Int)) (hn2 : n = 16777217) (ht : Tab w) (hg : 0 < w.heap.size) :
    Calls Tryd.prog 7 #[.int .i64 i] w fun r w' => r = .returned (.bool true) ∧ Below w.heap.size w w' := by
  have WC0 := Within_calls i 16777218 w (by decide) (by decide) hi1 hi2
  rw [hn] at WC0
  have WC := Lib.hid WC0
  have TB := Lib.hid ht; have HG := Lib.hid hg
  have NC := Lib.hid (NewK_calls 33554432 w)
  have kc := fun (w : World) (C : Array Value) (n c : Nat) => Lib.run_convert_bytes_const (P := Tryd.prog) w 35 5 C n c Tryd.underlying35 Tryd.underlying5
  have t0 : decide ((16777216 : Int) < (n : Int)) = true := decide_eq_true (by omega)
  have t0' : decide (16777216 < n) = true := decide_eq_true (by omega)
  have n1 : 16777216 < n := by omega
  have n2 : n ≤ 16777217 := by omega
  clear hn hi1 hi2 WC0 ht hg hn2
  go_enter Tryd.func7, Tryd.ntmps7
  go_wp2_with fail
  refine WC.out.mono ?_
  rintro r w0 ⟨rfl, rfl⟩
  clear WC
  go_wp2_with fail
  refine NC.out.mono ?_
  rintro r w1 hr
  obtain ⟨db, F1, rfl, d1, b1⟩ := new_s (room := 33554432) (by decide) (by decide) hr
  have D1 := Lib.hid d1; have B1 := Lib.hid b1
  clear d1 b1 hr NC
  have WK := Lib.hid (works10_calls w1 (TB.out.bel B1.out HG.out) (Nat.lt_of_lt_of_le HG.out D1.out.bw))
  go_wp2_with (go_at_call 9; refine (num10_calls _ _).mono ?_; rintro r wx ⟨rfl, rfl⟩)
  refine WK.out.mono ?_
  rintro r w2 ⟨rfl, b2⟩
  have D2 := Lib.hid (D1.out.below b2)
  have B2 := Lib.hid (B1.out.trans (b2.mono D1.out.bw))
  clear b2 WK
  have O2 := Open_s X10 D2.out (TB.out.bel B2.out HG.out) HG.out (by decide) (Nat.zero_le _)
  rw [ds_new, open_new x10_ok] at O2
  have O2H := Lib.hid O2
  clear O2
  go_wp2_with fail
  refine O2H.out.mono ?_
  rintro r w3 ⟨F3, d3, u3', b3, f3, lb, a3, c3, Af3, Cf3, rfl, l3, g3, n3, -, -⟩
  have LB := Lib.hid (Nat.le_trans D2.out.bw g3)
  have D3 := Lib.hid d3; have B3 := Lib.hid (B2.out.trans b3); have L3 := Lib.hid l3; have N3 := Lib.hid n3
  clear d3 u3' b3 f3 l3 g3 n3 O2H
  go_wp2_with (first | (go_at_call 9; refine (num10_calls _ _).mono ?_; rintro r wx ⟨rfl, rfl⟩) | (at_make; refine wpList_makeBytes rfl (.tmp 46) (.tmp 46) 35 rfl 5 Tryd.underlying35 infoByte .i64 .i64 n rfl rfl (by omega) ?_; intro w4 ho4 hb4 hlt4))
  obtain ⟨l, hl⟩ : ∃ l, List.replicate n (0 : UInt8) = l := ⟨_, rfl⟩
  have LL : l.length = n := by rw [← hl, List.length_replicate]
  rw [hl] at ho4
  have Y4 : Byt w4 (some ⟨w3.heap.size, 0, none⟩) l := by
    rw [← LL] at ho4
    exact (Own.byt ho4).1
  have B4 := Lib.hid (B3.out.trans (hb4.mono D3.out.bw))
  have A5 := WalAppend_s l (some ⟨w3.heap.size, 0, none⟩) n (D3.out.below hb4) (L3.out.below hb4) LB.out N3.out (TB.out.bel B4.out HG.out) HG.out Y4 (by omega) (by decide) (Nat.zero_le _) (Nat.zero_le _)
  have e5 : walA ⟨33554432, [], 0, 0, false, 0⟩ X10 0 false l = (100, 0, false, ⟨33554432, [], 0, 0, false, 0⟩) := by
    unfold walA
    rw [if_neg (by decide), if_pos (by omega)]
  rw [e5, LL] at A5
  have A5H := Lib.hid A5; have LLH := Lib.hid LL
  clear ho4 hb4 hlt4 Y4 A5 hl LL e5
  go_wp2_with fail
  refine A5H.out.mono ?_
  rintro r w5 ⟨rfl, F5, d5, l5, n5, u5', b5, f5⟩
  have D5 := Lib.hid d5; have N5 := Lib.hid n5; have B5 := Lib.hid (B4.out.trans b5); have L5 := Lib.hid l5
  have SZ := Lib.hid (WalSize_calls lb db X10 0 false w5 L5.out)
  have WR := Lib.hid (show Calls Tryd.prog 24 #[.pointer (some ⟨db, 0, none⟩)] w5 fun r w' => r = .returned (.int .i64 ((0 : Nat) : Int)) ∧ DkStep w5 w' w.heap.size db F5 ⟨33554432, [], 0, 0, false, 0⟩ from (Writes_dk D5.out.dk).mono fun _ _ hr => ⟨hr.1, D5.out.step hr.2⟩)
  clear d5 l5 n5 u5' b5 f5 A5H
  go_wp2_with (go_at_call 9; refine (num10_calls _ _).mono ?_; rintro r wx ⟨rfl, rfl⟩)
  refine SZ.out.mono ?_
  rintro r wx ⟨rfl, rfl⟩
  clear SZ
  go_wp2_with fail
  refine WR.out.mono ?_
  rintro r w6 ⟨rfl, F6, d6, u6', b6, f6⟩
  have D6 := Lib.hid d6; have B6 := Lib.hid (B5.out.trans b6); have L6 := Lib.hid (L5.out.upd u6' N5.out)
  have N6 : Hid (¬ F6 lb) := fun hf => (f6 _ hf).elim N5.out (fun h9 => by have := L5.out.lt; omega)
  clear d6 u6' b6 f6 WR
  go_wp2_with (at_make; refine wpList_want (by rfl) ?_; dsimp only; refine wpList_makeBytes rfl (.tmp 67) (.tmp 67) 35 rfl 5 Tryd.underlying35 infoByte .i64 .i64 n rfl rfl (by omega) ?_)
  intro w7 ho7 hb7 hlt7
  obtain ⟨l2, hl2⟩ : ∃ l, List.replicate n (0 : UInt8) = l := ⟨_, rfl⟩
  have LL2 : l2.length = n := by rw [← hl2, List.length_replicate]
  rw [hl2] at ho7
  have Y7 : Byt w7 (some ⟨w6.heap.size, 0, none⟩) l2 := by
    rw [← LL2] at ho7
    exact (Own.byt ho7).1
  have B7 := Lib.hid (B6.out.trans (hb7.mono D6.out.bw))
  have D7 := Lib.hid (D6.out.below hb7); have L7 := Lib.hid (L6.out.below hb7)
  have RF := refuses_calls (some ⟨w6.heap.size, 0, none⟩) n l2 w7 Y7 (by omega) (TB.out.bel B7.out HG.out) (Nat.lt_of_lt_of_le HG.out (Nat.le_trans (Nat.le_refl _) B7.out.size))
  rw [LL2] at RF
  have RFH := Lib.hid RF
  clear ho7 hb7 hlt7 Y7 RF hl2 LL2
  go_wp2_with fail
  refine RFH.out.mono ?_
  rintro r w8 ⟨rfl, b8⟩
  have D8 := Lib.hid (D7.out.below b8); have L8 := Lib.hid (L7.out.below b8); have B8 := Lib.hid (B7.out.trans (b8.mono D7.out.bw))
  clear b8 RFH
  have BA : Below w8.heap.size w8 (w8.alloc (.cells (bys MORE).toArray 5 (4, 5))) := (Below.refl _ _).alloc (Nat.le_refl _) _
  have A9 := WalAppend_s MORE (some ⟨w8.heap.size, 0, none⟩) 4 (D8.out.below BA) (L8.out.below BA) LB.out N6.out ((TB.out.bel B8.out HG.out).below BA) HG.out (Byt.lit w8 MORE (4, 5)) (by decide) (by decide) (Nat.zero_le _) (Nat.zero_le _)
  rw [walA_new x10_ok (by decide) (by decide)] at A9
  have A9H := Lib.hid A9; have BAH := Lib.hid BA
  clear A9 BA
  go_wp2_with fail
  refine A9H.out.mono ?_
  rintro r w9 ⟨rfl, F9, d9, l9, n9, u9', b9, f9⟩
  have B9 := Lib.hid ((B8.out.trans (BAH.out.mono D8.out.bw)).trans b9)
  have L9 : Hid (Lg w9 lb db X10 17 false) := l9
  have N9 := Lib.hid n9
  have rec9 : recOf (frm MORE) = ([MORE], 17, 0) := by
    have h8 := recOf_frm MORE [] (by decide)
    rw [List.append_nil, recOf_nil] at h8
    rw [h8]
    rfl
  have O7 := Open_s X10 d9 (TB.out.bel B9.out HG.out) HG.out (by decide) (show 0 + 1 ≤ 4611686018427387904 by decide)
  rw [open_whole x10_ok 0 0 _ rec9] at O7
  have O7H := Lib.hid O7
  clear O7 rec9 d9 l9 n9 u9' b9 f9 A9H
  go_wp2_with fail
  refine O7H.out.mono ?_
  rintro r wA ⟨FA, dA, uA', bA, fA, lbA, aA, cA, AfA, CfA, rfl, -, -, -, rdA, -⟩
  have BB := Lib.hid (B9.out.trans bA)
  have LA := Lib.hid (L9.out.upd uA' N9.out)
  have SZ := Lib.hid (WalSize_calls lb db X10 17 false wA LA.out)
  obtain ⟨ab, ao, rfl, x0⟩ := rdA.cell 0 (by show 0 < 1; decide)
  have y0 := rdA.byt 0 (by show 0 < 1; decide)
  have x0' : wA.cell? ⟨ab, ao, none⟩ = some (.slice (AfA 0) 4 (CfA 0)) := x0
  have cv : (convert 35 9 (.slice (AfA 0) 4 (CfA 0))).run Tryd.prog wA = .ok (.string ⟨#[109, 111, 114, 101]⟩) wA := conv_bytes (t := MORE) Tryd.underlying35 Tryd.underlying5 Tryd.underlying9 y0
  have e2 : [MORE].length = 1 := rfl
  rw [e2]
  clear x0 y0 rdA dA uA' bA fA O7H e2
  go_wp2_with (first | (go_at_call 9; refine (num10_calls _ _).mono ?_; rintro r wx ⟨rfl, rfl⟩) | (go_at_call 17; refine SZ.out.mono ?_; rintro r wx ⟨rfl, rfl⟩))
  go_ret
  exact ⟨by first | rfl | simp, BB.out⟩
theorem WalLong_calls (i : Int) (w : World) (hi1 : -9223372036854775808 ≤ i) (hi2 : i ≤ 9223372036854775807) (ht : Tab w) (hg : 0 < w.heap.size) :
    Calls Tryd.prog 7 #[.int .i64 i] w fun r w' => r = .returned (.bool true) ∧ Below w.heap.size w w' := by
  by_cases h : (i % 16777218).toNat ≤ 16777216
  · exact WalLong_ok i (i % 16777218).toNat w hi1 hi2 (by omega) h ht hg
  · exact WalLong_bad i (i % 16777218).toNat w hi1 hi2 (by omega) (by omega) ht hg
end Go.Proofs.YtnbpkignkfabkaaDoor
