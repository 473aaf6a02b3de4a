/- RecordLong: rows and bodies at their limits. -/
import Derived.Test.YtjiciklnhcmfaaaDoorWorks
namespace Go.Proofs.YtjiciklnhcmfaaaDoor
set_option linter.unusedVariables false
set_option linter.unusedSimpArgs false
open Go.RowKit
set_option maxRecDepth 100000 in
theorem Within_calls (i n : Int) (w : World) (hn : 0 < n) (hn2 : n ≤ 4611686018427387904) (hi1 : -9223372036854775808 ≤ i) (hi2 : i ≤ 9223372036854775807) :
    Calls Tryd.prog 24 #[.int .i64 i, .int .i64 n] w fun r w' => r = .returned (.int .i64 (i % n)) ∧ w = w' := by
  have t0 : (n == 0) = false := beq_eq_false_iff_ne.2 (by omega)
  have hlt := Int.emod_lt_of_pos i hn
  have hge := Int.emod_nonneg i (show n ≠ 0 by omega)
  by_cases h : i.tmod n < 0
  · have e : i.tmod n + n = i % n := by
      have := Int.tmod_eq_emod (a := i) (b := n)
      split at this <;> omega
    have E := Lib.hid e; clear e
    have b1 : -n ≤ i.tmod n := by have := E.out; omega
    go_enter Tryd.func24, Tryd.ntmps24
    go_wp2
    go_ret
    exact ⟨by rw [← E.out]; rfl, rfl⟩
  · have e : i.tmod n = i % n := by
      have := Int.tmod_eq_emod (a := i) (b := n)
      split at this <;> omega
    have E := Lib.hid e; clear e
    go_enter Tryd.func24, Tryd.ntmps24
    go_wp2
    go_ret
    exact ⟨by rw [← E.out]; rfl, rfl⟩

theorem rBytes_text (t u : List UInt8) (h : t.length ≤ 1048576) : rBytes (be t.length 4 ++ t ++ u) 0 = (t, u, 0) := by
  have h4 : (be t.length 4).length = 4 := be_length _ _
  have hl : (be t.length 4 ++ t ++ u).length = 4 + t.length + u.length := by simp only [List.length_append, h4]
  have e1 : ofBe ((be t.length 4 ++ t ++ u).take 4) = t.length := by
    rw [List.append_assoc, List.take_left' h4, ofBe_be]
    exact Nat.mod_eq_of_lt (by omega)
  have e2 : (be t.length 4 ++ t ++ u).drop 4 = t ++ u := by rw [List.append_assoc]; exact List.drop_left' h4
  unfold rBytes
  rw [if_pos rfl, if_pos (by omega), e1, if_pos h, if_pos (by omega), e2, List.take_left, List.drop_left]

set_option maxRecDepth 100000 in
set_option maxHeartbeats 4000000 in
theorem long_ok (i : Int) (N : Nat) (w : World) (ht : Tab w) (hg : 0 < w.heap.size) (hi1 : -9223372036854775808 ≤ i) (hi2 : i ≤ 9223372036854775807) (hN : i % 1048578 = (N : Int)) (hle : N ≤ 1048576) :
    Calls Tryd.prog 7 #[.int .i64 i] w fun r w' => r = .returned (.bool true) ∧ Below w.heap.size w w' := by
  have HT := Lib.hid ht; clear ht
  have HG := Lib.hid hg; clear hg
  have HN := Lib.hid hN; clear hN
  have t1 : decide ((1048576 : Int) < (N : Int)) = false := decide_eq_false (by omega)
  obtain ⟨z, hz⟩ : ∃ z : List UInt8, List.replicate N 0 = z := ⟨_, rfl⟩
  have zl : Hid (z.length = N) := by show _ = _; rw [← hz]; simp
  obtain ⟨L, hL⟩ : ∃ L, be N 4 ++ z = L := ⟨_, rfl⟩
  have lL : L.length = N + 4 := by rw [← hL, List.length_append, be_length, zl.out]; omega
  have hwt : Hid (wText [] 0 z = (L, 0)) := by show _ = _; unfold wText; rw [if_pos rfl, if_pos (by rw [zl.out]; exact hle), zl.out, ← hL]; simp
  have HL := Lib.hid hL; clear hL
  go_enter Tryd.func7, Tryd.ntmps7
  go_wp2_with fail
  refine (Within_calls i 1048578 _ (by decide) (by decide) hi1 hi2).mono ?_
  rintro r w0 ⟨rfl, rfl⟩
  rw [HN.out]
  go_wp2_with (at_make; refine wpList_makeBytes rfl (.tmp 22) (.tmp 22) 55 rfl 5 Tryd.underlying55 infoByte .i64 .i64 N rfl rfl (by omega) ?_)
  intro w1 ho1 hb1 hlt1
  -- the two writers
  have Bel1 : Hid (Below w.heap.size w w1) := (((Below.refl _ w).alloc (Nat.le_refl _) _).alloc (by simp) _).trans (hb1.mono (by omega))
  have WA1 := Lib.hid (((Wri.new (w := w) (Nat.le_refl _)).upd ((Upd.refl (fun _ => False) _).alloc (.cells #[.slice none 0 0, .int .i64 0] 85)) (fun h => h) (fun _ _ h => h)).upd (Upd.ofBelow (hb1.mono (by simp))) (fun h => h) (fun _ _ h => h))
  have WB1 := Lib.hid ((Wri.new (w := w.alloc (.cells #[.slice none 0 0, .int .i64 0] 85)) (base := w.heap.size) (by simp)).upd (Upd.ofBelow (hb1.mono (by simp))) (fun h => h) (fun _ _ h => h))
  rw [World.size_alloc] at WB1
  have hy1 := ho1.byt.1
  have Y1 := Lib.hid hy1
  clear ho1 hb1 hy1
  go_wp2_with fail
  have hc := Bytes_calls w.heap.size 0 w.heap.size (some ⟨w.heap.size + 1 + 1, 0, none⟩) N z w1 _ [] 0 WA1.out (Nat.le_refl _) (by simp) (by rw [zl.out]; omega) Y1.out
  rw [zl.out, hwt.out] at hc
  refine hc.mono ?_
  clear hc
  rintro r w2 ⟨rfl, vA, hw, hu⟩
  have WA2 := Lib.hid hw
  have WB2 := Lib.hid (WB1.out.upd hu.upd (by rintro (e | e); omega; cases e) (fun k hk => by cases hk))
  have Bel2 := Lib.hid (below_wupd Bel1.out hu (Nat.le_refl _) (fun k hk => by cases hk))
  have OA : Hid (vA.ownBlock ≠ some (w.heap.size + 1)) := by
    show _ ≠ _
    intro e
    rcases hu.own with e2 | e2
    · rw [e2] at e; cases e
    · have := e2 _ e; omega
  have hlt2 : w.heap.size + 1 + 1 < w2.heap.size := Nat.lt_of_lt_of_le hlt1 hu.upd.size
  clear hw hu WA1 WB1 Bel1 Y1 hlt1
  go_wp2_with (at_make; refine wpList_makeBytes rfl (.tmp 26) (.tmp 26) 55 rfl 5 Tryd.underlying55 infoByte .i64 .i64 N rfl rfl (by omega) ?_)
  intro w3 ho3 hb3 hlt3
  have hy3 := ho3.byt.1
  have hcv : (convert 55 9 (.slice (some ⟨w2.heap.size, 0, none⟩) N N)).run Tryd.prog w3 = .ok (.string ⟨z.toArray⟩) w3 := by
    have := conv_bytes (P := Tryd.prog) (src := 55) (dst := 9) (e := 5) (a := some ⟨w2.heap.size, 0, none⟩) (cap := N) Tryd.underlying55 Tryd.underlying5 Tryd.underlying9 hy3
    rw [zl.out] at this
    exact this
  have WA3 := Lib.hid (WA2.out.upd (Upd.ofBelow hb3) (fun h => h) (fun _ _ h => h))
  have WB3 := Lib.hid (WB2.out.upd (Upd.ofBelow hb3) (fun h => h) (fun _ _ h => h))
  have Bel3 := Lib.hid (Bel2.out.trans (hb3.mono Bel2.out.size))
  clear ho3 hb3 hy3 WA2 WB2 Bel2 hlt3
  go_wp2_with fail
  have hc := Text_calls (w.heap.size + 1) 0 w.heap.size ⟨z.toArray⟩ w3 _ [] 0 WB3.out (by omega) (by simp) (by show z.toArray.size ≤ _; rw [List.size_toArray, zl.out]; omega)
  rw [show (ByteArray.mk z.toArray).data.toList = z from rfl, hwt.out] at hc
  refine hc.mono ?_
  clear hc hcv
  rintro r w4 ⟨rfl, vB, hw, hu⟩
  have WB4 := Lib.hid hw
  have WA4 := Lib.hid (WA3.out.upd hu.upd (by rintro (e | e); omega; cases e) (fun k hk h => by rcases h with e | e; (subst e; exact OA.out hk); cases e))
  have Bel4 := Lib.hid (below_wupd Bel3.out hu (by omega) (fun k hk => by cases hk))
  clear hw hu WA3 WB3 Bel3
  go_wp2_with fail
  have hc := Done_calls w.heap.size 0 w.heap.size w4 vA L 0 WA4.out (by rw [lL]; omega)
  rw [show wDone L 0 = (L, 0) from if_pos rfl] at hc
  refine hc.mono ?_
  clear hc
  rintro r w5 ⟨v5, rfl, ho, hb⟩
  have WB5 := Lib.hid (WB4.out.upd (Upd.ofBelow hb) (fun h => h) (fun _ _ h => h))
  have Bel5 := Lib.hid (Bel4.out.trans (hb.mono Bel4.out.size))
  obtain ⟨a5, c5, rfl, _, hc5, hy5, _⟩ := own_val ho
  have Y5 := Lib.hid hy5
  clear ho hb hy5 WA4 WB4 Bel4
  go_wp2_with fail
  have hc := Done_calls (w.heap.size + 1) 0 w.heap.size w5 vB L 0 WB5.out (by rw [lL]; omega)
  rw [show wDone L 0 = (L, 0) from if_pos rfl] at hc
  refine hc.mono ?_
  clear hc
  rintro r w6 ⟨v6, rfl, ho, hb⟩
  have Bel6 := Lib.hid (Bel5.out.trans (hb.mono Bel5.out.size))
  have Y6 := Lib.hid (Y5.out.below hb)
  obtain ⟨a6, c6, rfl, _, hc6, _, _⟩ := own_val ho
  clear ho hb Y5 WB5 Bel5
  go_wp2_with (at_make; refine wpList_makeBytes rfl (.tmp 82) (.tmp 82) 55 rfl 5 Tryd.underlying55 infoByte .i64 .i64 (16 * N) rfl rfl (by omega) ?_)
  intro w7 ho7 hb7 hlt7
  obtain ⟨y, hy⟩ : ∃ y : List UInt8, List.replicate (16 * N) 0 = y := ⟨_, rfl⟩
  have yl : y.length = 16 * N := by rw [← hy]; simp
  rw [hy] at ho7
  have hy7 := ho7.byt.1
  have Bel7 := Lib.hid (Bel6.out.trans (hb7.mono Bel6.out.size))
  have Y7 := Lib.hid (Y6.out.below hb7)
  have Y7' := Lib.hid hy7
  clear ho7 hy7 hb7 hlt7 Y6 Bel6 hy
  go_wp2_with fail
  have hc := Frame_calls w7 y (some ⟨w6.heap.size, 0, none⟩) (16 * N) Y7'.out (HT.out.below Bel7.out) (by have := HG.out; have := Bel7.out.size; omega) (by rw [yl]; omega)
  rw [show FrameR y = (frm y, 0) from if_pos (by rw [yl]; omega), yl] at hc
  refine hc.mono ?_
  clear hc
  rintro r w8 ⟨v8, rfl, ho, hb⟩
  have Bel8 := Lib.hid (Bel7.out.trans (hb.mono Bel7.out.size))
  have Y8 := Lib.hid (Y7.out.below hb)
  obtain ⟨a8, c8, rfl, _, hc8, _, _⟩ := own_val ho
  have lf : (frm y).length = 16 * N + 13 := by rw [frm_length, yl]
  clear ho hb Y7 Y7' Bel7
  go_wp2_with fail
  have hc := From_calls w8 L a5 c5 Y8.out (by rw [lL]; omega)
  rw [lL] at hc
  refine hc.mono ?_
  clear hc
  rintro r w9 ⟨rb, RB, a9, c9, rfl, hr, hrb, hRB, hb⟩
  have hrb' : w.heap.size ≤ rb := Nat.le_trans Bel8.out.size hrb
  have Bel9 := Lib.hid (Bel8.out.trans (hb.mono Bel8.out.size))
  have R9 := Lib.hid hr
  have hrB : Hid (rBytes L 0 = (z, [], 0)) := by show _ = _; rw [← HL.out, ← zl.out, ← List.append_nil (be z.length 4 ++ z)]; exact rBytes_text z [] (by rw [zl.out]; exact hle)
  have z1 := zl.out
  clear hr hb hRB Y8 Bel8
  go_wp2_with (go_at_call 21; refine (num_calls _ _).mono ?_; rintro r wx ⟨rfl, rfl⟩)
  have hc := RBytes_calls rb 0 RB w9 L 0 a9 c9 R9.out (by rw [lL]; omega)
  rw [hrB.out] at hc
  refine hc.mono ?_
  clear hc
  rintro r w10 ⟨v10, rfl, ho, a10, c10, hr, hu⟩
  obtain ⟨a11, c11, rfl, _, _, _, _⟩ := own_val ho
  have Bel10 := Lib.hid (below_rupd Bel9.out hu hrb')
  have R10 := Lib.hid hr
  have T10 := Lib.hid (HT.out.below Bel10.out)
  have G10 : Hid (0 < w10.heap.size) := by show _ < _; have := HG.out; have := Bel10.out.size; omega
  clear ho hr hu Bel9 R9
  go_wp2_with (first | (go_at_call 21; refine (num_calls _ _).mono ?_; rintro r wx ⟨rfl, rfl⟩) | (go_at_call 32; refine (REnd_calls rb 0 RB _ [] 0 a10 c10 R10.out).mono ?_; rintro r w9 ⟨rfl, rfl⟩))
  refine (works_calls w10 T10.out G10.out).mono ?_
  rintro r w12 ⟨rfl, hb⟩
  have Bel12 := Lib.hid (Bel10.out.trans (hb.mono Bel10.out.size))
  clear hb
  go_wp2
  go_ret
  exact ⟨rfl, Bel12.out⟩

set_option maxRecDepth 100000 in
set_option maxHeartbeats 4000000 in
theorem long_bad (i : Int) (w : World) (ht : Tab w) (hg : 0 < w.heap.size) (hi1 : -9223372036854775808 ≤ i) (hi2 : i ≤ 9223372036854775807) (hN : i % 1048578 = 1048577) :
    Calls Tryd.prog 7 #[.int .i64 i] w fun r w' => r = .returned (.bool true) ∧ Below w.heap.size w w' := by
  have HT := Lib.hid ht; clear ht
  have HG := Lib.hid hg; clear hg
  obtain ⟨N, hNN⟩ : ∃ N : Nat, N = 1048577 := ⟨_, rfl⟩
  have HN : Hid (i % 1048578 = (N : Int)) := by show _ = _; rw [hN, hNN]; rfl
  clear hN
  have bN : 1048576 < N := by omega
  have bN2 : N ≤ 1048577 := by omega
  have t1 : decide ((1048576 : Int) < (N : Int)) = true := decide_eq_true (by omega)
  clear hNN
  obtain ⟨z, hz⟩ : ∃ z : List UInt8, List.replicate N 0 = z := ⟨_, rfl⟩
  have zl : Hid (z.length = N) := by show _ = _; rw [← hz]; simp
  have hwt : Hid (wText [] 0 z = ([], 31)) := by show _ = _; unfold wText; rw [if_pos rfl, if_neg (by rw [zl.out]; omega)]
  go_enter Tryd.func7, Tryd.ntmps7
  go_wp2_with fail
  refine (Within_calls i 1048578 _ (by decide) (by decide) hi1 hi2).mono ?_
  rintro r w0 ⟨rfl, rfl⟩
  rw [HN.out]
  go_wp2_with (at_make; refine wpList_makeBytes rfl (.tmp 22) (.tmp 22) 55 rfl 5 Tryd.underlying55 infoByte .i64 .i64 N rfl rfl (by omega) ?_)
  intro w1 ho1 hb1 hlt1
  -- the two writers
  have Bel1 : Hid (Below w.heap.size w w1) := (((Below.refl _ w).alloc (Nat.le_refl _) _).alloc (by simp) _).trans (hb1.mono (by omega))
  have WA1 := Lib.hid (((Wri.new (w := w) (Nat.le_refl _)).upd ((Upd.refl (fun _ => False) _).alloc (.cells #[.slice none 0 0, .int .i64 0] 85)) (fun h => h) (fun _ _ h => h)).upd (Upd.ofBelow (hb1.mono (by simp))) (fun h => h) (fun _ _ h => h))
  have WB1 := Lib.hid ((Wri.new (w := w.alloc (.cells #[.slice none 0 0, .int .i64 0] 85)) (base := w.heap.size) (by simp)).upd (Upd.ofBelow (hb1.mono (by simp))) (fun h => h) (fun _ _ h => h))
  rw [World.size_alloc] at WB1
  have hy1 := ho1.byt.1
  have Y1 := Lib.hid hy1
  clear ho1 hb1 hy1
  go_wp2_with fail
  have hc := Bytes_calls w.heap.size 0 w.heap.size (some ⟨w.heap.size + 1 + 1, 0, none⟩) N z w1 _ [] 0 WA1.out (Nat.le_refl _) (by simp) (by rw [zl.out]; omega) Y1.out
  rw [zl.out, hwt.out] at hc
  refine hc.mono ?_
  clear hc
  rintro r w2 ⟨rfl, vA, hw, hu⟩
  have WA2 := Lib.hid hw
  have WB2 := Lib.hid (WB1.out.upd hu.upd (by rintro (e | e); omega; cases e) (fun k hk => by cases hk))
  have Bel2 := Lib.hid (below_wupd Bel1.out hu (Nat.le_refl _) (fun k hk => by cases hk))
  have OA : Hid (vA.ownBlock ≠ some (w.heap.size + 1)) := by
    show _ ≠ _
    intro e
    rcases hu.own with e2 | e2
    · rw [e2] at e; cases e
    · have := e2 _ e; omega
  have hlt2 : w.heap.size + 1 + 1 < w2.heap.size := Nat.lt_of_lt_of_le hlt1 hu.upd.size
  clear hw hu WA1 WB1 Bel1 Y1 hlt1
  go_wp2_with (at_make; refine wpList_makeBytes rfl (.tmp 26) (.tmp 26) 55 rfl 5 Tryd.underlying55 infoByte .i64 .i64 N rfl rfl (by omega) ?_)
  intro w3 ho3 hb3 hlt3
  have hy3 := ho3.byt.1
  have hcv : (convert 55 9 (.slice (some ⟨w2.heap.size, 0, none⟩) N N)).run Tryd.prog w3 = .ok (.string ⟨z.toArray⟩) w3 := by
    have := conv_bytes (P := Tryd.prog) (src := 55) (dst := 9) (e := 5) (a := some ⟨w2.heap.size, 0, none⟩) (cap := N) Tryd.underlying55 Tryd.underlying5 Tryd.underlying9 hy3
    rw [zl.out] at this
    exact this
  have WA3 := Lib.hid (WA2.out.upd (Upd.ofBelow hb3) (fun h => h) (fun _ _ h => h))
  have WB3 := Lib.hid (WB2.out.upd (Upd.ofBelow hb3) (fun h => h) (fun _ _ h => h))
  have Bel3 := Lib.hid (Bel2.out.trans (hb3.mono Bel2.out.size))
  clear ho3 hb3 hy3 WA2 WB2 Bel2 hlt3
  go_wp2_with fail
  have hc := Text_calls (w.heap.size + 1) 0 w.heap.size ⟨z.toArray⟩ w3 _ [] 0 WB3.out (by omega) (by simp) (by show z.toArray.size ≤ _; rw [List.size_toArray, zl.out]; omega)
  rw [show (ByteArray.mk z.toArray).data.toList = z from rfl, hwt.out] at hc
  refine hc.mono ?_
  clear hc hcv
  rintro r w4 ⟨rfl, vB, hw, hu⟩
  have WB4 := Lib.hid hw
  have WA4 := Lib.hid (WA3.out.upd hu.upd (by rintro (e | e); omega; cases e) (fun k hk h => by rcases h with e | e; (subst e; exact OA.out hk); cases e))
  have Bel4 := Lib.hid (below_wupd Bel3.out hu (by omega) (fun k hk => by cases hk))
  clear hw hu WA3 WB3 Bel3
  go_wp2_with fail
  have hc := Done_calls w.heap.size 0 w.heap.size w4 vA [] 31 WA4.out (by decide)
  rw [show wDone [] 31 = ([], 31) from if_neg (by decide)] at hc
  refine hc.mono ?_
  clear hc
  rintro r w5 ⟨v5, rfl, ho, hb⟩
  have WB5 := Lib.hid (WB4.out.upd (Upd.ofBelow hb) (fun h => h) (fun _ _ h => h))
  have Bel5 := Lib.hid (Bel4.out.trans (hb.mono Bel4.out.size))
  obtain ⟨a5, c5, rfl, _, hc5, hy5, _⟩ := own_val ho
  clear ho hb hy5 WA4 WB4 Bel4
  go_wp2_with fail
  have hc := Done_calls (w.heap.size + 1) 0 w.heap.size w5 vB [] 31 WB5.out (by decide)
  rw [show wDone [] 31 = ([], 31) from if_neg (by decide)] at hc
  refine hc.mono ?_
  clear hc
  rintro r w6 ⟨v6, rfl, ho, hb⟩
  have Bel6 := Lib.hid (Bel5.out.trans (hb.mono Bel5.out.size))
  obtain ⟨a6, c6, rfl, _, hc6, _, _⟩ := own_val ho
  clear ho hb WB5 Bel5
  obtain ⟨M, hM⟩ : ∃ M : Nat, 16777217 = M := ⟨_, rfl⟩
  have EM : Hid (Value.int .i64 16777217 = .int .i64 (M : Int)) := by show _ = _; rw [← hM]; rfl
  have BM : Hid (M ≤ 140737488355328) := by show _ ≤ _; omega
  have HM := Lib.hid hM; clear hM
  go_wp2_with (at_make; refine wpList_makeBytes rfl (.const (.int .i64 16777217)) (.const (.int .i64 16777217)) 55 rfl 5 Tryd.underlying55 infoByte .i64 .i64 M EM.out EM.out BM.out ?_)
  intro w7 ho7 hb7 hlt7
  obtain ⟨y, hy⟩ : ∃ y : List UInt8, List.replicate M 0 = y := ⟨_, rfl⟩
  have yl : Hid (y.length = M) := by show _ = _; rw [← hy]; exact List.length_replicate
  rw [hy] at ho7
  have hy7 := ho7.byt.1
  have Bel7 := Lib.hid (Bel6.out.trans (hb7.mono Bel6.out.size))
  have Y7' := Lib.hid hy7
  clear ho7 hy7 hb7 hlt7 Bel6 hy
  go_wp2_with fail
  have hc := Frame_calls w7 y (some ⟨w6.heap.size, 0, none⟩) M Y7'.out (HT.out.below Bel7.out) (by have := HG.out; have := Bel7.out.size; omega) (by rw [yl.out, ← HM.out]; decide)
  rw [show FrameR y = ([], 31) from if_neg (by rw [yl.out, ← HM.out]; decide), yl.out] at hc
  refine hc.mono ?_
  clear hc
  rintro r w8 ⟨v8, rfl, ho, hb⟩
  have Bel8 := Lib.hid (Bel7.out.trans (hb.mono Bel7.out.size))
  obtain ⟨a8, c8, rfl, _, hc8, _, _⟩ := own_val ho
  clear ho hb Y7' Bel7
  have T10 := Lib.hid (HT.out.below Bel8.out)
  have G10 : Hid (0 < w8.heap.size) := by show _ < _; have := HG.out; have := Bel8.out.size; omega
  go_wp2_with (first | (go_at_call 21; refine (num_calls _ _).mono ?_; rintro r wx ⟨rfl, rfl⟩))
  refine (works_calls w8 T10.out G10.out).mono ?_
  rintro r w12 ⟨rfl, hb⟩
  have Bel12 := Lib.hid (Bel8.out.trans (hb.mono Bel8.out.size))
  clear hb
  go_wp2
  go_ret
  exact ⟨rfl, Bel12.out⟩
theorem RecordLong_calls (i : Int) (w : World) (ht : Tab w) (hg : 0 < w.heap.size) (hi1 : -9223372036854775808 ≤ i) (hi2 : i ≤ 9223372036854775807) :
    Calls Tryd.prog 7 #[.int .i64 i] w fun r w' => r = .returned (.bool true) ∧ Below w.heap.size w w' := by
  have h0 := Int.emod_nonneg i (show (1048578 : Int) ≠ 0 by decide)
  have h1 := Int.emod_lt_of_pos i (show (0 : Int) < 1048578 by decide)
  obtain ⟨N, hN⟩ := Int.eq_ofNat_of_zero_le h0
  by_cases hle : N ≤ 1048576
  · exact long_ok i N w ht hg hi1 hi2 hN hle
  · exact long_bad i w ht hg hi1 hi2 (by omega)
end Go.Proofs.YtjiciklnhcmfaaaDoor
