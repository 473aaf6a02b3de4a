/- record.Reader: Num, Int, Flag, Bytes, Text, Left, End, From. -/
import Derived.Test.YtjiciklnhcmfaaaGreatDoorRdr
namespace Go.Proofs.YtjiciklnhcmfaaaGreatDoor
set_option linter.unusedVariables false
set_option linter.unusedSimpArgs false
open Go.RowKit
def rNum (l : List UInt8) (e : Int) (k : Int) : Nat × List UInt8 × Int :=
  if e = 0 then (if 1 ≤ k ∧ k ≤ 8 then (if k.toNat ≤ l.length then (ofBe (l.take k.toNat), l.drop k.toNat, 0) else (0, l, 30)) else (0, l, 34)) else (0, l, e)
/-- What a reader's call leaves: the answer, what is left, the error. -/
def RPost (w w' : World) (rb ro B : Nat) (r : Ending) (v : Value) (l : List UInt8) (e : Int) : Prop :=
  r = .returned v ∧ ∃ a cap, Rdr w' rb ro B l e a cap ∧ RUpd w w' rb ro

set_option maxRecDepth 100000 in
set_option maxHeartbeats 1000000 in
theorem RNum_calls (rb ro B : Nat) (k : Int) (w : World) (l : List UInt8) (e : Int) (a : Option Addr) (cap : Nat) (h : Rdr w rb ro B l e a cap) (hl : l.length ≤ 140737488355328) :
    Calls Tryz.prog 33 #[.pointer (some ⟨rb, ro, none⟩), .int .i64 k] w fun r w' => RPost w w' rb ro B r (.int .u64 (rNum l e k).1) (rNum l e k).2.1 (rNum l e k).2.2 := by
  unfold rNum
  have nn := fun w : World => number_calls none 0 [] w (Byt.nil _ _) (by decide)
  by_cases he : e = 0
  · subst he
    rw [if_pos rfl]
    have e0 : ((0 : Int) == 0) = true := rfl
    by_cases hk : 1 ≤ k ∧ k ≤ 8
    · rw [if_pos hk]
      obtain ⟨j, rfl⟩ := Int.eq_ofNat_of_zero_le (show 0 ≤ k by omega)
      have t1 : decide ((j : Int) < 1) = false := by simp; omega
      have t2 : decide (8 < (j : Int)) = false := by simp; omega
      have HJ : Hid (j ≤ 8) := by show _ ≤ _; omega
      clear hk
      rw [Int.toNat_natCast]
      by_cases hj : j ≤ l.length
      · rw [if_pos hj]
        have HJ2 := Lib.hid hj; clear hj
        have H := Lib.hid h
        obtain ⟨h0, h1, f0, f1, hb, hc, hblk, _⟩ := h
        clear hb hblk hc
        go_enter Tryz.func33, Tryz.ntmps33
        go_wp2_with fail
        refine (take_ok rb ro B j _ l a cap H.out HJ2.out hl).mono ?_
        rintro r w1 ⟨a1, a2, cap2, rfl, hb1, _, hr, hu⟩
        have HB := Lib.hid hb1; have HR := Lib.hid hr; have HU := Lib.hid hu
        clear hb1 hr hu h0 h1 f0 f1
        go_wp2_with fail
        have hlen : (l.take j).length = j := by rw [List.length_take]; have := HJ2.out; omega
        have hnum := number_calls a1 j (l.take j) w1 HB.out (by rw [hlen]; exact HJ.out)
        rw [hlen] at hnum
        clear hlen
        refine hnum.mono ?_
        rintro r w2 ⟨rfl, rfl⟩
        clear hnum
        go_wp2
        go_ret
        exact ⟨rfl, _, _, HR.out, HU.out⟩
      · rw [if_neg hj]
        have H := Lib.hid h
        obtain ⟨h0, h1, f0, f1, hb, hc, hblk, _⟩ := h
        clear hb hblk hc
        go_enter Tryz.func33, Tryz.ntmps33
        go_wp2_with fail
        refine (take_short rb ro B j _ l a cap H.out (by omega)).mono ?_
        rintro r w1 ⟨rfl, rfl⟩
        go_wp2_with fail
        refine (nn _).mono ?_
        rintro r w2 ⟨rfl, rfl⟩
        go_wp2
        go_ret
        exact ⟨rfl, _, _, H.out.bad⟩
    · rw [if_neg hk]
      have H := Lib.hid h
      obtain ⟨h0, h1, f0, f1, hb, hc, hblk, _⟩ := h
      clear hb hblk hc
      by_cases t1 : k < 1
      case' pos => have t2 : decide (k < 1) = true := by simpa using t1
      case' neg =>
        have t2 : decide (k < 1) = false := by simpa using t1
        have t3 : decide (8 < k) = true := by simp; omega
      all_goals
        clear hk
        go_enter Tryz.func33, Tryz.ntmps33
        go_wp2_with fail
        refine (take_off rb ro B k _ l 34 a cap H.out.bad.1 (by decide)).mono ?_
        rintro r w1 ⟨rfl, rfl⟩
        go_wp2_with fail
        refine (nn _).mono ?_
        rintro r w2 ⟨rfl, rfl⟩
        go_wp2
        go_ret
        exact ⟨rfl, _, _, H.out.bad⟩
  · rw [if_neg he]
    have e0 : (e == 0) = false := by simpa using he
    have HE := Lib.hid he; clear he
    have H := Lib.hid h
    obtain ⟨h0, h1, f0, f1, hb, hc, hblk, _⟩ := h
    clear hb hblk hc
    go_enter Tryz.func33, Tryz.ntmps33
    go_wp2_with fail
    refine (take_off rb ro B k _ l e a cap H.out HE.out).mono ?_
    rintro r w1 ⟨rfl, rfl⟩
    go_wp2_with fail
    refine (nn _).mono ?_
    rintro r w2 ⟨rfl, rfl⟩
    go_wp2
    go_ret
    exact ⟨rfl, _, _, H.out, RUpd.refl _ _ _⟩

/-- Sixty-four bits as a signed number. -/
def sgn (n : Nat) : Int := wrap64 n
def rFlag (l : List UInt8) (e : Int) : Bool × List UInt8 × Int :=
  if e = 0 ∧ 0 < l.length ∧ 1 < (l.getD 0 0).toNat then (false, l, 34) else ((rNum l e 1).1 == 1, (rNum l e 1).2.1, (rNum l e 1).2.2)
/-- A reader's call that tells bytes of its own. -/
def BPost (w w' : World) (rb ro B : Nat) (r : Ending) (t l : List UInt8) (e : Int) : Prop :=
  ∃ v, r = .returned v ∧ Own w' w.heap.size 5 1 v t.length (bys t) ∧ ∃ a cap, Rdr w' rb ro B l e a cap ∧ RUpd w w' rb ro
def rBytes (l : List UInt8) (e : Int) : List UInt8 × List UInt8 × Int :=
  if e = 0 then (if 4 ≤ l.length then (if ofBe (l.take 4) ≤ 1048576 then (if ofBe (l.take 4) ≤ l.length - 4 then ((l.drop 4).take (ofBe (l.take 4)), (l.drop 4).drop (ofBe (l.take 4)), 0) else ([], l, 30)) else ([], l, 31)) else ([], l, 30)) else ([], l, e)

set_option maxRecDepth 100000 in
set_option maxHeartbeats 2000000 in
theorem RBytes_calls (rb ro B : Nat) (w : World) (l : List UInt8) (e : Int) (a : Option Addr) (cap : Nat) (h : Rdr w rb ro B l e a cap) (hl : l.length ≤ 140737488355328) :
    Calls Tryz.prog 79 #[.pointer (some ⟨rb, ro, none⟩)] w fun r w' => BPost w w' rb ro B r (rBytes l e).1 (rBytes l e).2.1 (rBytes l e).2.2 := by
  have H := Lib.hid h
  obtain ⟨h0, h1, f0, f1, hb, hc, hblk, _⟩ := h
  have HB := Lib.hid hb; have HK := Lib.hid hblk; have HCap := Lib.hid hc
  clear hb hblk hc
  -- the way out: the bytes are as they were, there are none to tell
  have out : ∀ wx l1 e1 a1 c1, e1 ≠ 0 → Rdr wx rb ro B l1 e1 a1 c1 → RUpd w wx rb ro → Rdr (wx.setCell ⟨rb, ro, none⟩ (.slice a l.length cap)) rb ro B l e1 a cap ∧ RUpd w (wx.setCell ⟨rb, ro, none⟩ (.slice a l.length cap)) rb ro := by
    intro wx l1 e1 a1 c1 _ hr hu
    obtain ⟨R1, R2⟩ := hr.turn (l' := l) (a' := a) (cap' := cap) (HB.out.upd hu.upd (fun ad ha _ => by rw [HK.out ad ha]; exact H.out.ne)) HCap.out HK.out
    exact ⟨R1, hu.trans R2⟩
  have OUT := Lib.hid out; clear out
  have cn := fun w : World => Clone_calls none 0 [] w (Byt.nil _ _) (by decide)
  unfold rBytes
  by_cases he : e = 0
  · subst he
    rw [if_pos rfl]
    have e0 : ((0 : Int) == 0) = true := rfl
    by_cases h4 : 4 ≤ l.length
    · rw [if_pos h4]
      obtain ⟨n, hn⟩ : ∃ n, ofBe (l.take 4) = n := ⟨_, rfl⟩
      have hnum : rNum l 0 4 = (n, l.drop 4, 0) := by unfold rNum; rw [if_pos rfl, if_pos (by decide), if_pos (by simpa using h4), ← hn]; rfl
      have hnlt : n < 4294967296 := by rw [← hn]; have := ofBe_lt (l.take 4); rw [List.length_take, Nat.min_eq_left h4] at this; simpa using this
      rw [hn]
      clear hn
      have HN := Lib.hid hnum; clear hnum
      by_cases hlong : n ≤ 1048576
      · rw [if_pos hlong]
        have t1 : decide ((1048576 : Int) < (n : Int)) = false := decide_eq_false (by omega)
        by_cases hs : n ≤ l.length - 4
        · rw [if_pos hs]
          have HS : Hid (n ≤ (l.drop 4).length) := by show _ ≤ _; rw [List.length_drop]; exact hs
          have HL4 : Hid ((l.drop 4).length ≤ 140737488355328) := by show _ ≤ _; rw [List.length_drop]; omega
          clear hs
          go_enter Tryz.func79, Tryz.ntmps79
          go_wp2_with fail
          have hcc := RNum_calls rb ro B 4 w l 0 a cap H.out hl
          rw [HN.out] at hcc
          refine hcc.mono ?_
          clear hcc
          rintro r w1 ⟨rfl, a1, c1, hr, hu⟩
          have HR := Lib.hid hr; have HU := Lib.hid hu; clear hu h0 h1 f0 f1
          obtain ⟨g0, g1, q0, q1, _, _, _, _⟩ := hr
          go_wp2_with fail
          refine (take_ok rb ro B n _ (l.drop 4) a1 c1 HR.out HS.out HL4.out).mono ?_
          rintro r w2 ⟨x1, x2, xc, rfl, hx, _, hr2, hu2⟩
          have HX := Lib.hid hx; have HR2 := Lib.hid hr2; have HU2 := Lib.hid (HU.out.trans hu2)
          clear hx hr2 hu2 HN g0 g1 q0 q1
          go_wp2_with fail
          have hlen : ((l.drop 4).take n).length = n := by rw [List.length_take]; have := HS.out; omega
          have hcl := Clone_calls x1 n ((l.drop 4).take n) w2 HX.out (by rw [hlen]; omega)
          rw [hlen] at hcl
          refine hcl.mono ?_
          rintro r w3 ⟨v3, rfl, ho, hbel⟩
          have R3 := Lib.hid (HR2.out.upd (Upd.ofBelow hbel) (fun h => h) (fun h => h)); have R4 := Lib.hid (HU2.out.trans (RUpd.ofBelow hbel HR2.out.lt))
          have R5 := Lib.hid HU2.out.upd.size
          have HO := Lib.hid ho; have HLE := Lib.hid hlen
          clear ho hbel hlen hcl
          go_wp2
          go_ret
          exact ⟨_, rfl, by rw [HLE.out]; exact HO.out.mono R5.out, _, _, R3.out, R4.out⟩
        · rw [if_neg hs]
          have HS : Hid (((l.drop 4).length : Int) < (n : Int)) := by show _ < _; rw [List.length_drop]; omega
          clear hs
          go_enter Tryz.func79, Tryz.ntmps79
          go_wp2_with fail
          have hcc := RNum_calls rb ro B 4 w l 0 a cap H.out hl
          rw [HN.out] at hcc
          refine hcc.mono ?_
          clear hcc
          rintro r w1 ⟨rfl, a1, c1, hr, hu⟩
          have HR := Lib.hid hr; have HU := Lib.hid hu; clear hu h0 h1 f0 f1
          obtain ⟨g0, g1, q0, q1, _, _, _, _⟩ := hr
          go_wp2_with fail
          refine (take_short rb ro B n _ (l.drop 4) a1 c1 HR.out HS.out).mono ?_
          have XR := Lib.hid (HR.out.bad (e' := 30)).1
          have XU := Lib.hid (HU.out.trans (HR.out.bad (e' := 30)).2)
          have EE : Hid ((30 : Int) ≠ 0) := by show _ ≠ _; decide
          rintro r w2 ⟨rfl, rfl⟩
          clear HN
          go_wp2_with fail
          refine (cn _).mono ?_
          rintro r w3 ⟨v3, rfl, ho, hbel⟩
          obtain ⟨R1, R2⟩ := OUT.out _ _ _ _ _ EE.out XR.out XU.out
          have R3 := Lib.hid (R1.upd (Upd.ofBelow hbel) (fun h => h) (fun h => h)); have R4 := Lib.hid (R2.trans (RUpd.ofBelow hbel R1.lt))
          have R5 : Hid (w.heap.size ≤ (World.setCell _ _ _).heap.size) := R2.upd.size
          have HO := Lib.hid ho
          clear ho hbel R1 R2 g0 g1 q0 q1
          go_wp2
          go_ret
          exact ⟨_, rfl, HO.out.mono R5.out, _, _, R3.out, R4.out⟩
      · rw [if_neg hlong]
        have t1 : decide ((1048576 : Int) < (n : Int)) = true := decide_eq_true (by omega)
        go_enter Tryz.func79, Tryz.ntmps79
        go_wp2_with fail
        have hcc := RNum_calls rb ro B 4 w l 0 a cap H.out hl
        rw [HN.out] at hcc
        refine hcc.mono ?_
        clear hcc
        rintro r w1 ⟨rfl, a1, c1, hr, hu⟩
        have HR := Lib.hid hr; have HU := Lib.hid hu; clear hu h0 h1 f0 f1
        obtain ⟨g0, g1, q0, q1, _, _, _, _⟩ := hr
        go_wp2_with fail
        have XR := Lib.hid (HR.out.bad (e' := 31)).1
        have XU := Lib.hid (HU.out.trans (HR.out.bad (e' := 31)).2)
        have EE : Hid ((31 : Int) ≠ 0) := by show _ ≠ _; decide
        refine (take_off rb ro B n _ (l.drop 4) 31 a1 c1 XR.out EE.out).mono ?_
        rintro r w2 ⟨rfl, rfl⟩
        clear HN
        go_wp2_with fail
        refine (cn _).mono ?_
        rintro r w3 ⟨v3, rfl, ho, hbel⟩
        obtain ⟨R1, R2⟩ := OUT.out _ _ _ _ _ EE.out XR.out XU.out
        have R3 := Lib.hid (R1.upd (Upd.ofBelow hbel) (fun h => h) (fun h => h)); have R4 := Lib.hid (R2.trans (RUpd.ofBelow hbel R1.lt))
        have R5 : Hid (w.heap.size ≤ (World.setCell _ _ _).heap.size) := R2.upd.size
        have HO := Lib.hid ho
        clear ho hbel R1 R2 g0 g1 q0 q1
        go_wp2
        go_ret
        exact ⟨_, rfl, HO.out.mono R5.out, _, _, R3.out, R4.out⟩
    · rw [if_neg h4]
      have hnum : rNum l 0 4 = (0, l, 30) := by unfold rNum; rw [if_pos rfl, if_pos (by decide), if_neg (by simpa using h4)]
      have HN := Lib.hid hnum; clear hnum h4
      go_enter Tryz.func79, Tryz.ntmps79
      go_wp2_with fail
      have hcc := RNum_calls rb ro B 4 w l 0 a cap H.out hl
      rw [HN.out] at hcc
      refine hcc.mono ?_
      clear hcc
      rintro r w1 ⟨rfl, a1, c1, hr, hu⟩
      have HR := Lib.hid hr; have HU := Lib.hid hu; clear hu h0 h1 f0 f1
      obtain ⟨g0, g1, q0, q1, _, _, _, _⟩ := hr
      go_wp2_with fail
      have XR := Lib.hid HR.out
      have XU := Lib.hid HU.out
      have EE : Hid ((30 : Int) ≠ 0) := by show _ ≠ _; decide
      refine (take_off rb ro B 0 _ l 30 a1 c1 XR.out EE.out).mono ?_
      rintro r w2 ⟨rfl, rfl⟩
      clear HN
      go_wp2_with fail
      refine (cn _).mono ?_
      rintro r w3 ⟨v3, rfl, ho, hbel⟩
      obtain ⟨R1, R2⟩ := OUT.out _ _ _ _ _ EE.out XR.out XU.out
      have R3 := Lib.hid (R1.upd (Upd.ofBelow hbel) (fun h => h) (fun h => h)); have R4 := Lib.hid (R2.trans (RUpd.ofBelow hbel R1.lt))
      have R5 : Hid (w.heap.size ≤ (World.setCell _ _ _).heap.size) := R2.upd.size
      have HO := Lib.hid ho
      clear ho hbel R1 R2 g0 g1 q0 q1
      go_wp2
      go_ret
      exact ⟨_, rfl, HO.out.mono R5.out, _, _, R3.out, R4.out⟩
  · rw [if_neg he]
    have hnum : rNum l e 4 = (0, l, e) := by unfold rNum; rw [if_neg he]
    have HN := Lib.hid hnum; clear hnum
    have EE := Lib.hid he
    have t1 : (e == 0) = false := by simpa using he
    clear he
    go_enter Tryz.func79, Tryz.ntmps79
    go_wp2_with fail
    have hcc := RNum_calls rb ro B 4 w l e a cap H.out hl
    rw [HN.out] at hcc
    refine hcc.mono ?_
    clear hcc
    rintro r w1 ⟨rfl, a1, c1, hr, hu⟩
    have HR := Lib.hid hr; have HU := Lib.hid hu; clear hu h0 h1 f0 f1
    obtain ⟨g0, g1, q0, q1, _, _, _, _⟩ := hr
    go_wp2_with fail
    have XR := Lib.hid HR.out
    have XU := Lib.hid HU.out
    refine (take_off rb ro B 0 _ l e a1 c1 XR.out EE.out).mono ?_
    rintro r w2 ⟨rfl, rfl⟩
    clear HN
    go_wp2_with fail
    refine (cn _).mono ?_
    rintro r w3 ⟨v3, rfl, ho, hbel⟩
    obtain ⟨R1, R2⟩ := OUT.out _ _ _ _ _ EE.out XR.out XU.out
    have R3 := Lib.hid (R1.upd (Upd.ofBelow hbel) (fun h => h) (fun h => h)); have R4 := Lib.hid (R2.trans (RUpd.ofBelow hbel R1.lt))
    have R5 : Hid (w.heap.size ≤ (World.setCell _ _ _).heap.size) := R2.upd.size
    have HO := Lib.hid ho
    clear ho hbel R1 R2 g0 g1 q0 q1
    go_wp2
    go_ret
    exact ⟨_, rfl, HO.out.mono R5.out, _, _, R3.out, R4.out⟩
end Go.Proofs.YtjiciklnhcmfaaaGreatDoor
