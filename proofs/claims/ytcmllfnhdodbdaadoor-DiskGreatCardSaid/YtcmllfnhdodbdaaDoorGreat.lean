/- posternlaw9.DiskGreat. -/
import Derived.Test.YtcmllfnhdodbdaaDoorWorks9
import Derived.Test.YtcmllfnhdodbdaaDoorLong
import Derived.Deep.CutBlock
import Derived.Deep.DeepCutAuto
namespace Go.Proofs.YtcmllfnhdodbdaaDoor
set_option linter.unusedVariables false
set_option linter.unusedSimpArgs false
open Go.RowKit Go.Maps
def W9n (room : Nat) (n : Nat) : DS := ⟨room, [([97], List.replicate n 0)], 0, 0, false, 1⟩
theorem append_new (room : Nat) (b : List UInt8) (h : b.length ≤ room) : (DS.new room).append [97] b = (0, ⟨room, [([97], b)], 0, 0, false, 1⟩) := by
  unfold DS.append
  rw [if_neg (by rw [show (DS.new room).may false [[97]] = 0 from rfl]; decide), if_neg]
  · rw [if_neg (by show ¬ (0 : Int) = 1; decide)]
    rfl
  · rintro (h1 | h1)
    · exact absurd h1.2 (by show ¬ 64 ≤ 0; decide)
    · have : room < 0 + b.length := h1
      omega
theorem append_full (room : Nat) (l b : List UInt8) (h : room < l.length + b.length) : (⟨room, [([97], l)], 0, 0, false, 1⟩ : DS).append [97] b = (93, ⟨room, [([97], l)], 0, 0, false, 1⟩) := by
  unfold DS.append
  have e : DS.may ⟨room, [([97], l)], 0, 0, false, 1⟩ false [[97]] = 0 := rfl
  rw [if_neg (by rw [e]; decide), if_pos]
  refine .inr ?_
  show room < (l.length + 0) + b.length
  omega
theorem load_big (room : Nat) (l : List UInt8) (h1 : 1 ≤ room) (h2 : room ≤ 268435456) (h : room < l.length) : loadR (room : Int) [([98], l)] = (96, none) := by
  unfold loadR
  rw [if_neg (by omega), if_neg (by simp), Int.toNat_natCast]
  have e : ldC room [([98], l)] [] = none := by
    unfold ldC
    rw [if_pos]
    refine .inr (.inr ?_)
    show room < 0 + l.length
    omega
  rw [e]
theorem cut_one (room n : Nat) (l : List UInt8) (hl : l.length = n) (hn : 1 ≤ n) : (⟨room, [([97], l)], 0, 0, false, 1⟩ : DS).cut [97] ((n : Int) - 1) = (0, ⟨room, [([97], l.take (n - 1))], 0, 0, false, 2⟩) := by
  have e : DS.may ⟨room, [([97], l)], 0, 0, false, 1⟩ true [[97]] = 0 := rfl
  have eb : bytC [([97], l)] [97] = l := rfl
  unfold DS.cut
  rw [if_neg (by rw [e]; decide)]
  show (if (n : Int) - 1 < 0 ∨ ((bytC [([97], l)] [97]).length : Int) < (n : Int) - 1 then _ else _) = _
  rw [eb, if_neg (by omega)]
  unfold DS.whole
  rw [if_neg (by show ¬ (0 : Int) = 1; decide)]
  have e2 : ((n : Int) - 1).toNat = n - 1 := by omega
  rw [e2]
  rfl
theorem append_b (room : Nat) (l : List UInt8) (h : l.length + 1 ≤ room) : (⟨room, [([97], l)], 0, 0, false, 2⟩ : DS).append [98] [120] = (0, ⟨room, [([97], l), ([98], [120])], 0, 0, false, 3⟩) := by
  unfold DS.append
  have e : DS.may ⟨room, [([97], l)], 0, 0, false, 2⟩ false [[98]] = 0 := rfl
  rw [if_neg (by rw [e]; decide), if_neg]
  · rw [if_neg (by show ¬ (0 : Int) = 1; decide)]
    rfl
  · rintro (h1 | h1)
    · exact absurd h1.2 (by show ¬ 64 ≤ 1; decide)
    · have : room < (l.length + 0) + 1 := h1
      omega
theorem size_a (room : Nat) (l : List UInt8) : (⟨room, [([97], l), ([98], [120])], 0, 0, false, 3⟩ : DS).may true [[97]] = 0 ∧ readB ⟨room, [([97], l), ([98], [120])], 0, 0, false, 3⟩ [97] = l := ⟨rfl, rfl⟩
theorem Fil.one (w : World) (nm l : List UInt8) (ba : Option Addr) (bc : Nat) (h : Byt w ba l) (hc : l.length ≤ bc) : Fil (w.alloc (.cells #[.string ⟨nm.toArray⟩, .slice ba l.length bc] 33)) (some ⟨w.heap.size, 0, none⟩) [(nm, l)] := by
  intro i hi
  obtain rfl : i = 0 := by simp at hi; exact hi
  refine ⟨_, 0, ba, bc, rfl, ?_, ?_, hc, h.alloc _⟩
  · rw [cell_of_row' (heap_alloc_new w _)]; rfl
  · rw [cell_of_row' (heap_alloc_new w _)]; rfl
theorem below_chain {w w1 w2 w3 w4 w5 w6 : World} (h1 : Below w.heap.size w w1) (h2 : Below w1.heap.size w1 w2) (h3 : Below w2.heap.size w2 w3) (h4 : Below w1.heap.size w3 w4) (h5 : w1.heap.size ≤ w3.heap.size) (h6 : Below w4.heap.size w4 w5) (h7 : Below w1.heap.size w5 w6) : Below w.heap.size w w6 := by
  have a : Below w1.heap.size w1 w3 := h2.trans (h3.mono h2.size)
  have b := a.trans h4
  have c := b.trans (h6.mono b.size)
  have d := c.trans h7
  exact h1.trans (d.mono h1.size)
-- WALKS
set_option maxRecDepth 100000 in
set_option maxHeartbeats 4000000 in
theorem DiskGreat_zero (i : Int) (w : World) (hi1 : -9223372036854775808 ≤ i) (hi2 : i ≤ 9223372036854775807) (hn : i % 33554433 = 0) :
    Calls Tryd.prog 3 #[.int .i64 i] w fun r w' => r = .returned (.bool true) ∧ Below w.heap.size w w' := by
  have WC0 := Within_calls i 33554433 w (by decide) (by decide) hi1 hi2
  rw [hn] at WC0
  have WC := Lib.hid WC0
  clear hn hi1 hi2 WC0
  have kc := fun (w : World) (C : Array Value) (n c : Nat) => Lib.run_convert_bytes_const (P := Tryd.prog) w 23 5 C n c Tryd.underlying23 Tryd.underlying5
  go_enter Tryd.func3, Tryd.ntmps3
  go_wp2_with fail
  refine WC.out.mono ?_
  rintro r w0 ⟨rfl, rfl⟩
  clear WC
  go_wp2_with (at_make; refine wpList_makeBytes rfl (.tmp 21) (.tmp 21) 23 rfl 5 Tryd.underlying23 infoByte .i64 .i64 0 rfl rfl (by omega) ?_)
  intro w1 ho1 hb1 hlt1
  have O1 := Lib.hid ho1; have B1 := Lib.hid hb1; have L1 := Lib.hid hlt1
  clear ho1 hb1 hlt1
  have NC := Lib.hid (NewK_calls 1 w1)
  go_wp2_with fail
  refine NC.out.mono ?_
  rintro r w2 hr2
  obtain ⟨db, rfl, d2, b2⟩ := new_dk (room := 1) (by omega) (by omega) hr2
  have D2 := Lib.hid d2; have B2 := Lib.hid b2
  clear d2 b2 hr2 NC
  have WK := Lib.hid (works9_calls w2)
  go_wp2_with ((go_at_call 8; refine (num9_calls _ _).mono ?_; rintro r wx ⟨rfl, rfl⟩))
  refine WK.out.mono ?_
  rintro r w3 ⟨rfl, b3⟩
  have D3 := Lib.hid (D2.out.below b3); have B3 := Lib.hid b3
  clear b3 WK
  obtain ⟨l, hl⟩ : ∃ l, List.replicate 0 (0 : UInt8) = l := ⟨_, rfl⟩
  have LL : l.length = 0 := by rw [← hl, List.length_replicate]
  have Y3 : Byt w3 (some ⟨w.heap.size, 0, none⟩) l := by
    have h9 := (Own.byt O1.out).1
    rw [← hl]
    exact (h9.below B2.out).below B3.out
  have A3 := Append_dk w1.heap.size db _ (DS.new 1) [97] l (some ⟨w.heap.size, 0, none⟩) 0 w3 D3.out.1 Y3 (by omega) (by decide) (Nat.zero_le _)
  rw [append_new _ l (by omega), LL] at A3
  have A3H := Lib.hid A3; have LH := Lib.hid LL
  clear A3 LL hl Y3
  go_wp2_with fail
  refine A3H.out.mono ?_
  rintro r w4 ⟨rfl, h4⟩
  obtain ⟨d4, b4⟩ := h4.new D3.out.2
  have D4 := Lib.hid d4; have B4 := Lib.hid b4
  clear d4 b4 h4 A3H
  go_wp2_with (at_make; refine wpList_makeBytes rfl (.tmp 46) (.tmp 46) 23 rfl 5 Tryd.underlying23 infoByte .i64 .i64 2 rfl rfl (by omega) ?_)
  intro w5 ho5 hb5 hlt5
  have O5 := Lib.hid ho5; have B5 := Lib.hid hb5; have D5 := Lib.hid (D4.out.below hb5)
  clear ho5 hb5 hlt5
  obtain ⟨l2, hl2⟩ : ∃ l, List.replicate 2 (0 : UInt8) = l := ⟨_, rfl⟩
  have LL2 : l2.length = 2 := by rw [← hl2, List.length_replicate]
  have Y5 : Byt w5 (some ⟨w4.heap.size, 0, none⟩) l2 := by
    have h9 := (Own.byt O5.out).1
    rw [← hl2]
    exact h9
  have A5 := Append_dk w1.heap.size db _ _ [97] l2 (some ⟨w4.heap.size, 0, none⟩) 2 w5 D5.out.1 Y5 (by omega) (by decide) (show 1 ≤ 4611686018427387904 by decide)
  rw [append_full _ l l2 (by rw [LH.out, LL2]; omega), LL2] at A5
  have A5H := Lib.hid A5
  clear A5 LL2 hl2 Y5
  go_wp2_with fail
  refine A5H.out.mono ?_
  rintro r w6 ⟨rfl, h6⟩
  obtain ⟨d6, b6⟩ := h6.new D5.out.2
  have D6 := Lib.hid d6; have B6 := Lib.hid b6
  clear d6 b6 h6 A5H
  go_wp2_with (first | (go_at_call 8; refine (num9_calls _ _).mono ?_; rintro r wx ⟨rfl, rfl⟩) | (at_make; refine wpList_makeBytes rfl (.tmp 59) (.tmp 59) 23 rfl 5 Tryd.underlying23 infoByte .i64 .i64 2 rfl rfl (by omega) ?_; intro w7 ho7 hb7 hlt7))
  have O7 := Lib.hid ho7; have B7 := Lib.hid hb7; have D7 := Lib.hid (D6.out.below hb7)
  clear ho7 hb7 hlt7
  obtain ⟨l3, hl3⟩ : ∃ l, List.replicate 2 (0 : UInt8) = l := ⟨_, rfl⟩
  have LL3 : l3.length = 2 := by rw [← hl3, List.length_replicate]
  have Y7 : Byt w7 (some ⟨w6.heap.size, 0, none⟩) l3 := by
    have h9 := (Own.byt O7.out).1
    rw [← hl3]
    exact h9
  have F8 := Fil.one w7 [98] l3 (some ⟨w6.heap.size, 0, none⟩) 2 Y7 (by omega)
  rw [LL3] at F8
  have A8 := Load_calls 1 [([98], l3)] (some ⟨w7.heap.size, 0, none⟩) 1 _ F8 (by intro p hp; rw [List.mem_singleton] at hp; subst hp; exact ⟨show 1 ≤ 140737488351232 by decide, show l3.length ≤ 140737488355328 by omega⟩) (show 1 ≤ 140737488355328 by decide)
  have LB := load_big 1 l3 (by omega) (by omega) (by omega)
  have A8H := Lib.hid A8; have LBH := Lib.hid LB
  clear A8 LB LL3 hl3 Y7 F8
  refine A8H.out.mono ?_
  rintro r w9 hr9
  unfold LoadP at hr9
  rw [show loadR 1 [([98], l3)] = (96, none) from LBH.out] at hr9
  obtain ⟨rfl, hb9⟩ := hr9
  have B8 : Below w7.heap.size w7 (w7.alloc (.cells #[.string ⟨#[98]⟩, .slice (some ⟨w6.heap.size, 0, none⟩) 2 2] 33)) := (Below.refl _ _).alloc (Nat.le_refl _) _
  have D9 := Lib.hid ((D7.out.below B8).below hb9)
  have U1 := Lib.hid (below_chain B1.out B2.out B3.out B4.out D3.out.2 B5.out B6.out)
  have U2 := Lib.hid ((U1.out.trans (B7.out.mono U1.out.size)).trans ((B8.trans (hb9.mono B8.size)).mono (Nat.le_trans U1.out.size B7.out.size)))
  clear hb9 B8 A8H
  go_wp2_with ((go_at_call 8; refine (num9_calls _ _).mono ?_; rintro r wx ⟨rfl, rfl⟩))
  go_ret
  exact ⟨rfl, U2.out⟩
set_option maxRecDepth 100000 in
set_option maxHeartbeats 4000000 in
theorem DiskGreat_pos (i : Int) (n : Nat) (w : World) (hi1 : -9223372036854775808 ≤ i) (hi2 : i ≤ 9223372036854775807) (hn : i % 33554433 = (n : Int)) (hn1 : 1 ≤ n) (hn2 : n ≤ 33554432) :
    Calls Tryd.prog 3 #[.int .i64 i] w fun r w' => r = .returned (.bool true) ∧ Below w.heap.size w w' := by
  have WC0 := Within_calls i 33554433 w (by decide) (by decide) hi1 hi2
  rw [hn] at WC0
  have WC := Lib.hid WC0
  clear hn hi1 hi2 WC0
  have t0 : ((n : Int) == 0) = false := beq_eq_false_iff_ne.2 (by omega)
  have HN1 := Lib.hid hn1
  have kc := fun (w : World) (C : Array Value) (n c : Nat) => Lib.run_convert_bytes_const (P := Tryd.prog) w 23 5 C n c Tryd.underlying23 Tryd.underlying5
  go_enter Tryd.func3, Tryd.ntmps3
  go_wp2_with fail
  refine WC.out.mono ?_
  rintro r w0 ⟨rfl, rfl⟩
  clear WC
  go_wp2_with (at_make; refine wpList_makeBytes rfl (.tmp 21) (.tmp 21) 23 rfl 5 Tryd.underlying23 infoByte .i64 .i64 n rfl rfl (by omega) ?_)
  intro w1 ho1 hb1 hlt1
  have O1 := Lib.hid ho1; have B1 := Lib.hid hb1; have L1 := Lib.hid hlt1
  clear ho1 hb1 hlt1
  have NC := Lib.hid (NewK_calls (n : Int) w1)
  go_wp2_with fail
  refine NC.out.mono ?_
  rintro r w2 hr2
  obtain ⟨db, rfl, d2, b2⟩ := new_dk (room := n) (by omega) (by omega) hr2
  have D2 := Lib.hid d2; have B2 := Lib.hid b2
  clear d2 b2 hr2 NC
  have WK := Lib.hid (works9_calls w2)
  go_wp2_with ((go_at_call 8; refine (num9_calls _ _).mono ?_; rintro r wx ⟨rfl, rfl⟩))
  refine WK.out.mono ?_
  rintro r w3 ⟨rfl, b3⟩
  have D3 := Lib.hid (D2.out.below b3); have B3 := Lib.hid b3
  clear b3 WK
  obtain ⟨l, hl⟩ : ∃ l, List.replicate n (0 : UInt8) = l := ⟨_, rfl⟩
  have LL : l.length = n := by rw [← hl, List.length_replicate]
  have Y3 : Byt w3 (some ⟨w.heap.size, 0, none⟩) l := by
    have h9 := (Own.byt O1.out).1
    rw [← hl]
    exact (h9.below B2.out).below B3.out
  have A3 := Append_dk w1.heap.size db _ (DS.new n) [97] l (some ⟨w.heap.size, 0, none⟩) n w3 D3.out.1 Y3 (by omega) (by decide) (Nat.zero_le _)
  rw [append_new _ l (by omega), LL] at A3
  have A3H := Lib.hid A3; have LH := Lib.hid LL
  clear A3 LL hl Y3
  go_wp2_with fail
  refine A3H.out.mono ?_
  rintro r w4 ⟨rfl, h4⟩
  obtain ⟨d4, b4⟩ := h4.new D3.out.2
  have D4 := Lib.hid d4; have B4 := Lib.hid b4
  clear d4 b4 h4 A3H
  go_wp2_with (at_make; refine wpList_makeBytes rfl (.tmp 46) (.tmp 46) 23 rfl 5 Tryd.underlying23 infoByte .i64 .i64 1 rfl rfl (by omega) ?_)
  intro w5 ho5 hb5 hlt5
  have O5 := Lib.hid ho5; have B5 := Lib.hid hb5; have D5 := Lib.hid (D4.out.below hb5)
  clear ho5 hb5 hlt5
  obtain ⟨l2, hl2⟩ : ∃ l, List.replicate 1 (0 : UInt8) = l := ⟨_, rfl⟩
  have LL2 : l2.length = 1 := by rw [← hl2, List.length_replicate]
  have Y5 : Byt w5 (some ⟨w4.heap.size, 0, none⟩) l2 := by
    have h9 := (Own.byt O5.out).1
    rw [← hl2]
    exact h9
  have A5 := Append_dk w1.heap.size db _ _ [97] l2 (some ⟨w4.heap.size, 0, none⟩) 1 w5 D5.out.1 Y5 (by omega) (by decide) (show 1 ≤ 4611686018427387904 by decide)
  rw [append_full _ l l2 (by rw [LH.out, LL2]; omega), LL2] at A5
  have A5H := Lib.hid A5
  clear A5 LL2 hl2 Y5
  go_wp2_with fail
  refine A5H.out.mono ?_
  rintro r w6 ⟨rfl, h6⟩
  obtain ⟨d6, b6⟩ := h6.new D5.out.2
  have D6 := Lib.hid d6; have B6 := Lib.hid b6
  clear d6 b6 h6 A5H
  go_wp2_with (first | (go_at_call 8; refine (num9_calls _ _).mono ?_; rintro r wx ⟨rfl, rfl⟩) | (at_make; refine wpList_makeBytes rfl (.tmp 59) (.tmp 59) 23 rfl 5 Tryd.underlying23 infoByte .i64 .i64 (n + 1) rfl rfl (by omega) ?_; intro w7 ho7 hb7 hlt7))
  have O7 := Lib.hid ho7; have B7 := Lib.hid hb7; have D7 := Lib.hid (D6.out.below hb7)
  clear ho7 hb7 hlt7
  obtain ⟨l3, hl3⟩ : ∃ l, List.replicate (n + 1) (0 : UInt8) = l := ⟨_, rfl⟩
  have LL3 : l3.length = (n + 1) := by rw [← hl3, List.length_replicate]
  have Y7 : Byt w7 (some ⟨w6.heap.size, 0, none⟩) l3 := by
    have h9 := (Own.byt O7.out).1
    rw [← hl3]
    exact h9
  have F8 := Fil.one w7 [98] l3 (some ⟨w6.heap.size, 0, none⟩) (n + 1) Y7 (by omega)
  rw [LL3] at F8
  have A8 := Load_calls (n : Int) [([98], l3)] (some ⟨w7.heap.size, 0, none⟩) 1 _ F8 (by intro p hp; rw [List.mem_singleton] at hp; subst hp; exact ⟨show 1 ≤ 140737488351232 by decide, show l3.length ≤ 140737488355328 by omega⟩) (show 1 ≤ 140737488355328 by decide)
  have LB := load_big n l3 (by omega) (by omega) (by omega)
  have A8H := Lib.hid A8; have LBH := Lib.hid LB
  clear A8 LB LL3 hl3 Y7 F8
  refine A8H.out.mono ?_
  rintro r w9 hr9
  unfold LoadP at hr9
  rw [show loadR (n : Int) [([98], l3)] = (96, none) from LBH.out] at hr9
  obtain ⟨rfl, hb9⟩ := hr9
  have B8 : Below w7.heap.size w7 (w7.alloc (.cells #[.string ⟨#[98]⟩, .slice (some ⟨w6.heap.size, 0, none⟩) (n + 1) (n + 1)] 33)) := (Below.refl _ _).alloc (Nat.le_refl _) _
  have D9 := Lib.hid ((D7.out.below B8).below hb9)
  have U1 := Lib.hid (below_chain B1.out B2.out B3.out B4.out D3.out.2 B5.out B6.out)
  have U2 := Lib.hid ((U1.out.trans (B7.out.mono U1.out.size)).trans ((B8.trans (hb9.mono B8.size)).mono (Nat.le_trans U1.out.size B7.out.size)))
  clear hb9 B8 A8H
  have A9 := Cut_dk w1.heap.size db _ _ [97] ((n : Int) - 1) w9 D9.out.1 (by decide) (show 1 ≤ 4611686018427387904 by decide)
  rw [cut_one n n l LH.out HN1.out] at A9
  have A9H := Lib.hid A9
  clear A9
  go_wp2_with ((go_at_call 8; refine (num9_calls _ _).mono ?_; rintro r wx ⟨rfl, rfl⟩))
  refine A9H.out.mono ?_
  rintro r w10 ⟨rfl, h10⟩
  obtain ⟨d10, b10⟩ := h10.new D9.out.2
  have D10 := Lib.hid d10; have B10 := Lib.hid b10
  clear d10 b10 h10 A9H
  have TL : (l.take (n - 1)).length = n - 1 := by rw [List.length_take, LH.out]; omega
  obtain ⟨l4, hl4⟩ : ∃ q, l.take (n - 1) = q := ⟨_, rfl⟩
  rw [hl4] at TL D10
  have A10 := Lib.hid (show Calls Tryd.prog 10 #[.pointer (some ⟨db, 0, none⟩), .string ⟨#[98]⟩, .slice (some ⟨w10.heap.size, 0, none⟩) 1 1] (w10.alloc (.cells #[.int .u8 120] 5 (1, 2))) (fun r w' => DkR (w10.alloc (.cells #[.int .u8 120] 5 (1, 2))) w' w1.heap.size db (fun i => w1.heap.size ≤ i) ((⟨n, [([97], l4)], 0, 0, false, 2⟩ : DS).append [98] [120]) r) from
    Append_dk w1.heap.size db _ _ [98] [120] (some ⟨w10.heap.size, 0, none⟩) 1 _ (D10.out.below ((Below.refl _ _).alloc (Nat.le_refl _) _)).1 (Byt.lit w10 [120] (1, 2)) (by decide) (by decide) (show 2 ≤ 4611686018427387904 by decide))
  rw [append_b n l4 (by have := HN1.out; omega)] at A10
  have TLH := Lib.hid TL
  clear TL hl4
  go_wp2_with fail
  refine A10.out.mono ?_
  rintro r w11 ⟨rfl, h11⟩
  obtain ⟨d11, b11⟩ := h11.new (Nat.le_trans D10.out.2 ((Below.refl _ _).alloc (Nat.le_refl _) _).size)
  have B11 := Lib.hid (((Below.refl _ w10).alloc D10.out.2 (.cells #[.int .u8 120] 5 (1, 2))).trans b11)
  have D11 := Lib.hid d11
  clear d11 b11 h11 A10
  have A11 := Size_dk [97] D11.out.1 (by decide)
  rw [(size_a n l4).1, (size_a n l4).2, TLH.out] at A11
  have A11H := Lib.hid A11
  clear A11
  go_wp2_with fail
  refine A11H.out.mono ?_
  rintro r w12 ⟨rfl, d12, u12⟩
  have B12 := (D11.out.upd d12 u12).2
  have FIN := Lib.hid (U2.out.trans ((B10.out.trans (B11.out.trans B12)).mono (Nat.le_trans (Nat.le_refl _) (by have := B1.out.size; exact this))))
  have ec : (((n - 1 : Nat) : Int) == (n : Int) - 1) = true := beq_iff_eq.2 (by have := HN1.out; omega)
  clear u12 d12 B12 A11H
  go_wp2_with ((go_at_call 8; refine (num9_calls _ _).mono ?_; rintro r wx ⟨rfl, rfl⟩))
  go_ret
  exact ⟨rfl, FIN.out⟩
end Go.Proofs.YtcmllfnhdodbdaaDoor
