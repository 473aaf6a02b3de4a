/- posternlaw1: bytes that were lent are written over. -/
import Derived.Test.YtnbpkignkfabkaaGreatDoorRef3
import Derived.OwnWalk
import Derived.IntWalk
/- posternlaw1: what is lent, and whether it is intact; other bytes; bytes laid over. -/
namespace Go.Proofs.YtnbpkignkfabkaaGreatDoor
set_option linter.unusedVariables false
set_option linter.unusedSimpArgs false
open Go.RowKit
def mk (i : Nat) : UInt8 := UInt8.ofNat (165 - i)
def mkl : List UInt8 := (List.range 70).map mk
theorem mkl_length : mkl.length = 70 := by simp [mkl]
theorem mkl_get (i : Nat) (h : i < 70) : mkl[i]'(by rw [mkl_length]; exact h) = mk i := by simp [mkl]
theorem mk_val (i : Nat) (h : i < 70) : IntKind.u8.wrap ((165 : Int) - (i : Int)) = ((mk i).toNat : Int) := by
  unfold mk
  rw [wrap_u8, UInt8.toNat_ofNat']
  omega
/-- Bytes in a list of their own, with the marks behind them. -/
def Lnt (w : World) (base g cap : Nat) (l : List UInt8) : Prop := Own w base 5 1 (.slice (some ⟨g, 0, none⟩) (l.length + 70) cap) (l.length + 70) (bys (l ++ mkl))
theorem Own.cap {w : World} {base : Nat} {e : TypeId} {size : Nat} {a : Option Addr} {m n c : Nat} {xs : List Value} (h : Own w base e size (.slice a m c) n xs) : n ≤ c := by
  obtain ⟨a', c', hv, hc, _, _⟩ := h.shape'
  cases hv
  exact hc
theorem Lnt.byt {w : World} {base g cap : Nat} {l : List UInt8} (h : Lnt w base g cap l) : Byt w (some ⟨g, 0, none⟩) l := by
  have h1 := (Own.byt h).1.take l.length
  rw [List.take_left'] at h1
  · exact h1
  · rfl
theorem Lnt.cap {w : World} {base g cap : Nat} {l : List UInt8} (h : Lnt w base g cap l) : l.length + 70 ≤ cap := Own.cap h
theorem Lnt.upd {S : Nat → Prop} {w w' : World} {base g cap : Nat} {l : List UInt8} (h : Lnt w base g cap l) (hu : Upd S w w') (hs : ¬ S g) : Lnt w' base g cap l := Own.upd hu h (fun k e => by cases e; exact hs)
theorem Lnt.lt {w : World} {base g cap : Nat} {l : List UInt8} (h : Lnt w base g cap l) : base ≤ g ∧ g < w.heap.size := Own.lt h g rfl
set_option maxRecDepth 100000 in
theorem markAt_calls (i : Nat) (w : World) (h : i < 70) : Calls Tryz.prog 59 #[.int .i64 i] w fun r w' => r = .returned (.int .u8 ((mk i).toNat : Int)) ∧ w = w' := by
  have hv := mk_val i h
  go_enter Tryz.func59, Tryz.ntmps59
  go_wp2
  go_ret
  exact ⟨rfl, rfl⟩
theorem mkl_take (i : Nat) (h : i < 70) : mkl.take (i + 1) = mkl.take i ++ [mk i] := by
  rw [List.take_succ_eq_append_getElem (by rw [mkl_length]; exact h), mkl_get i h]
set_option maxRecDepth 100000 in
set_option maxHeartbeats 1000000 in
theorem Lend_calls (a : Option Addr) (c : Nat) (l : List UInt8) (w : World) (h : Byt w a l) (hs : l.length ≤ 100000000000000) :
    Calls Tryz.prog 25 #[.slice a l.length c] w fun r w' => ∃ g cap, r = .returned (.slice (some ⟨g, 0, none⟩) l.length cap) ∧ Lnt w' w.heap.size g cap l ∧ Below w.heap.size w w' := by
  have HC := Lib.hid h; clear h
  obtain ⟨i, hi, hz, hsz, hby⟩ := info_parts infoByte
  have M0 : Hid (i.bytes * (l.length + 70) ≤ 281474976710656) := by show _ ≤ _; rw [hby]; omega
  have M1 : Hid (l.length + 70 ≤ maxLen) := by show _ ≤ _; unfold maxLen; omega
  have HI := Lib.hid hi; have HZ := Lib.hid hz; have HS := Lib.hid hsz
  clear hi hz hsz hby
  go_enter Tryz.func25, Tryz.ntmps25
  go_wp2_with (at_make; refine wpList_make_own w rfl (.const (.int .i64 0)) (.tmp 7) 74 rfl w.heap.size 5 i (.int .u8 0) 1 Tryz.underlying74 HI.out HZ.out HS.out .i64 .i64 ((l.length : Int) + 70) (l.length + 70) rfl rfl (by omega) M0.out M1.out (Nat.le_refl _) ?_)
  intro w1 ho hg
  have B1 := Lib.hid ((Below.refl w.heap.size w).grown hg (Nat.le_refl _) (fun k hk => by cases hk))
  have O1 := Lib.hid (Own.ofRow ho); clear ho hg
  have Y1 := Lib.hid (HC.out.below B1.out)
  have M2 : Hid (0 + l.length ≤ maxLen) := by show _ ≤ _; unfold maxLen; omega
  have M3 : Hid ((0 + l.length) * 1 ≤ 140737488355328) := by show _ ≤ _; omega
  go_wp2_with (at_builtin; refine wpList_append rfl (.tmp 9) (.tmp 10) 74 74 rfl w.heap.size 5 (.int .u8 0) 1 1 Tryz.underlying74 infoByte rfl (n := 0) (xs := []) O1.out rfl (xv := .slice a l.length c) (m := l.length) (news := bys l) (Src_byt Tryz.underlying74 Y1.out (fun _ => .inr trivial)) rfl M2.out M3.out B1.out.size ?_)
  intro v2 w2 ho hg _ _
  have B2 := Lib.hid (B1.out.grown hg B1.out.size (fun k hk => (O1.out.lt k hk).1))
  have O2 := Lib.hid ho
  clear ho hg
  go_wp2
  go_loopw [3, 4] (fun v vi wr => ∃ i : Nat, vi = .int .i64 i ∧ i ≤ 70 ∧ Own wr w.heap.size 5 1 v (l.length + i) (bys (l ++ mkl.take i)) ∧ Below w.heap.size w wr) (fun _ vi _ => 70 - (intOf vi).toNat)
  case atStart => exact ⟨0, rfl, by omega, by simpa using O2.out, B2.out⟩
  case round =>
    obtain ⟨i, rfl, hi, ho, hb⟩ := hrel
    have OW := Lib.hid ho; have BW := Lib.hid hb; clear ho hb
    by_cases hlt : i < 70
    · have t1 : decide ((i : Int) < 70) = true := decide_eq_true (by omega)
      have t1' : decide (i < 70) = true := decide_eq_true hlt
      go_wp2_with fail
      refine (markAt_calls i wr hlt).mono ?_
      rintro r w3 ⟨rfl, rfl⟩
      have HT := Lib.hid (mkl_take i hlt)
      obtain ⟨m, hm⟩ : ∃ m, mk i = m := ⟨_, rfl⟩
      rw [hm] at HT ⊢
      clear hm
      have M4 : Hid (l.length + i + 1 ≤ maxLen) := by show _ ≤ _; unfold maxLen; omega
      have M5 : Hid ((l.length + i + 1) * 1 ≤ 140737488355328) := by show _ ≤ _; omega
      have S3 : Hid (w.heap.size ≤ (wr.alloc (.cells #[.int .u8 (m.toNat : Int)] 5)).heap.size) := by show _ ≤ _; have := BW.out.size; simp; omega
      go_wp2_with (at_builtin; refine wpList_append rfl (.tmp 16) (.tmp 19) 74 74 rfl w.heap.size 5 (.int .u8 0) 1 1 Tryz.underlying74 infoByte rfl (n := l.length + i) (xs := bys (l ++ mkl.take i)) (OW.out.alloc _) rfl (xv := .slice (some ⟨wr.heap.size, 0, none⟩) 1 1) (m := 1) (news := [.int .u8 (m.toNat : Int)]) (Src_new Tryz.underlying74 (e := 5) (heap_alloc_new wr _) rfl) rfl M4.out M5.out S3.out ?_)
      intro v4 w4 ho hg _ _
      have B4 := Lib.hid ((BW.out.alloc BW.out.size _).grown hg S3.out (fun k hk => (OW.out.lt k hk).1))
      rw [bys_one_snoc, List.append_assoc, ← HT.out] at ho
      have O4 := Lib.hid ho
      clear ho hg
      go_wp2
      go_roundw
      case rel => exact ⟨i + 1, by go_num, by omega, O4.out, B4.out⟩
      case measure => simp [intOf]; omega
    · have t1 : decide ((i : Int) < 70) = false := decide_eq_false (by omega)
      have t1' : decide (i < 70) = false := decide_eq_false hlt
      obtain rfl : i = 70 := by omega
      have ho := OW.out
      rw [List.take_of_length_le (by rw [mkl_length]; exact Nat.le_refl _)] at ho
      obtain ⟨g, cap, rfl⟩ := ho.shape (by omega)
      have O5 := Lib.hid ho; clear ho
      have hcap := Own.cap O5.out
      have hc1 : l.length ≤ cap := by omega
      have hc2 : (l.length : Int) ≤ (cap : Int) := by omega
      go_wp2
      go_ret
      exact ⟨g, cap, rfl, O5.out, BW.out⟩
set_option maxRecDepth 100000 in
set_option maxHeartbeats 1000000 in
/-- What was lent is as it was. -/
theorem Intact_calls (base g cap : Nat) (l : List UInt8) (a : Option Addr) (c : Nat) (w : World) (h : Lnt w base g cap l) (hb : Byt w a l) (hs : l.length ≤ 100000000000000) :
    Calls Tryz.prog 26 #[.slice (some ⟨g, 0, none⟩) l.length cap, .slice a l.length c] w fun r w' => ∃ n, r = .returned (.bool true) ∧ w' = w.drewN n := by
  have x1 : (convert 74 9 (.slice (some ⟨g, 0, none⟩) l.length cap)).run Tryz.prog w = .ok (.string ⟨l.toArray⟩) w := conv_bytes Tryz.underlying74 Tryz.underlying5 Tryz.underlying9 h.byt
  have x2 : (convert 74 9 (.slice a l.length c)).run Tryz.prog w = .ok (.string ⟨l.toArray⟩) w := conv_bytes Tryz.underlying74 Tryz.underlying5 Tryz.underlying9 hb
  have hcap := h.cap
  have hc2 : (l.length : Int) + 70 ≤ (cap : Int) := by omega
  have H := Lib.hid h; clear h hb
  go_enter Tryz.func26, Tryz.ntmps26
  go_wp2
  clear x1 x2
  go_loopw [6] (fun vi wr => ∃ i : Nat, vi = .int .i64 i ∧ i ≤ 70 ∧ ∃ n, wr = w.drewN n) (fun vi _ => 70 - (intOf vi).toNat)
  case atStart => exact ⟨0, rfl, by omega, 0, rfl⟩
  case round =>
    obtain ⟨i, rfl, hi, n, rfl⟩ := hrel
    by_cases hlt : i < 70
    · have t1 : decide ((i : Int) < 70) = true := decide_eq_true (by omega)
      have t1' : decide (i < 70) = true := decide_eq_true hlt
      have q1 : w.cell? ⟨g, l.length + i, none⟩ = some (.int .u8 ((mk i).toNat : Int)) := by
        rw [H.out.cellAt (l.length + i) (by omega)]
        have e : (l ++ mkl)[l.length + i]? = some (mk i) := by
          rw [List.getElem?_append_right (by omega), Nat.add_sub_cancel_left, List.getElem?_eq_getElem (by rw [mkl_length]; exact hlt), mkl_get i hlt]
        simp only [bys, List.getElem?_map, e, Option.map_some]
      have i1 : (l.length : Int) + (i : Int) < (l.length : Int) + 70 := by omega
      have i2 : (0 : Int) ≤ (l.length : Int) + (i : Int) := by omega
      have i3 : IntKind.i64.wrap ((l.length : Int) + (i : Int)) = (l.length : Int) + (i : Int) := IntWalk.i64_in _ (by omega)
      have i4 : ((l.length : Int) + (i : Int)).toNat = l.length + i := by omega
      have MA := Lib.hid (fun w => markAt_calls i w hlt)
      generalize (mk i).toNat = m at *
      go_wp2_with fail
      go_quiet ((go_at_call 59; exact qtwo (MA.out _)))
      clear i1 i2 i3 i4
      go_wp2
      go_roundw
      case rel => exact ⟨i + 1, by go_num, by omega, _, rfl⟩
      case measure => simp [intOf]; omega
    · have t1 : decide ((i : Int) < 70) = false := decide_eq_false (by omega)
      have t1' : decide (i < 70) = false := decide_eq_false hlt
      go_wp2
      go_ret
      exact ⟨_, rfl, rfl⟩
/-- The list holds other bytes now, as many. -/
theorem Lnt.head {w : World} {base g cap : Nat} {l : List UInt8} (x : List UInt8) (hx : x.length = l.length) (hw : Own w base 5 1 (.slice (some ⟨g, 0, none⟩) (l.length + 70) cap) (l.length + 70) (bys (x ++ mkl))) : Lnt w base g cap x := by
  unfold Lnt
  rw [hx]
  exact hw
theorem take_set (x l : List UInt8) (i : Nat) (hl : x.length = l.length) (h : i < x.length) : (x.take i ++ l.drop i).set i (x.getD i 0) = x.take (i + 1) ++ l.drop (i + 1) := by
  have e : l.drop i = l[i] :: l.drop (i + 1) := List.drop_eq_getElem_cons (by omega)
  have l1 : (x.take i).length = i := by simp; omega
  rw [List.set_append_right _ _ (by omega), l1, Nat.sub_self, e, List.set_cons_zero, List.take_succ_eq_append_getElem h, List.append_assoc, List.singleton_append, show x.getD i 0 = x[i] by simp [List.getD, h]]
theorem xor_one (a : UInt8) : bits BinOp.xor IntKind.u8 (a.toNat : Int) 1 = ((a ^^^ 1).toNat : Int) := by
  have h := xor8 a 0 (by decide)
  exact h
theorem lst_ne {a b : List UInt8} (h : a ≠ b) : (a == b) = false := by simpa using h
theorem lst_eq {a b : List UInt8} (h : a = b) : (a == b) = true := by simpa using h
/-- A row that the call itself made: other bytes, as many. -/
def Other1 (w w' : World) (r : Ending) (n : Nat) : Prop := ∃ v l', r = .returned v ∧ l'.length = n ∧ Own w' w.heap.size 5 1 v n (bys l') ∧ Below w.heap.size w w'
end Go.Proofs.YtnbpkignkfabkaaGreatDoor
namespace Go.Proofs.YtnbpkignkfabkaaGreatDoor
set_option linter.unusedVariables false
set_option linter.unusedSimpArgs false
open Go.RowKit Go.Maps
set_option maxRecDepth 100000 in
set_option maxHeartbeats 1000000 in
theorem OverL_calls (base g cap : Nat) (l : List UInt8) (w : World) (h : Lnt w base g cap l) (hs : l.length ≤ 100000000000000) :
    Calls Tryz.prog 27 #[.slice (some ⟨g, 0, none⟩) l.length cap] w fun r w' => r = .returned (.tuple #[]) ∧ Upd (fun k => k = g) w w' := by
  have H := Lib.hid h; clear h
  go_enter Tryz.func27, Tryz.ntmps27
  go_wp2
  go_loopw [2] (fun vi wr => ∃ (i : Nat) (x : List UInt8), vi = .int .i64 i ∧ i ≤ l.length ∧ x.length = l.length + 70 ∧ Own wr base 5 1 (.slice (some ⟨g, 0, none⟩) (l.length + 70) cap) (l.length + 70) (bys x) ∧ Upd (fun k => k = g) w wr) (fun vi _ => l.length - (intOf vi).toNat)
  case atStart => exact ⟨0, l ++ mkl, rfl, by omega, by rw [List.length_append, mkl_length], H.out, Upd.refl _ _⟩
  case round =>
    obtain ⟨i, x, rfl, hi, hx, ho, hu⟩ := hrel
    have OW := Lib.hid ho; have UW := Lib.hid hu; have HX := Lib.hid hx; clear ho hu hx
    by_cases hlt : i < l.length
    · have t1 : decide ((i : Int) < (l.length : Int)) = true := decide_eq_true (by omega)
      have t1' : decide (i < l.length) = true := decide_eq_true hlt
      have q2 := OW.out.frozenAt i (by omega)
      obtain ⟨yi, q3⟩ : ∃ y : Int, wr.cell? ⟨g, i, none⟩ = some (.int .u8 y) := ⟨_, (OW.out.cellAt i (by omega)).trans (bys_get (show i < x.length by rw [HX.out]; omega))⟩
      have OS := OW.out.set i (.int .u8 238)
      rw [show (Value.int .u8 238) = .int .u8 ((238 : UInt8).toNat : Int) from rfl, bys_set] at OS
      have OS := Lib.hid OS
      have US := Lib.hid (UW.out.setCell (p := ⟨g, i, none⟩) (fun _ => rfl) (.int .u8 238))
      go_wp2
      go_roundw
      case rel => exact ⟨i + 1, _, by go_num, by omega, by rw [List.length_set]; exact HX.out, OS.out, US.out⟩
      case measure => simp [intOf]; omega
    · have t1 : decide ((i : Int) < (l.length : Int)) = false := decide_eq_false (by omega)
      have t1' : decide (i < l.length) = false := decide_eq_false hlt
      go_wp2
      go_end0
      exact ⟨rfl, UW.out⟩
end Go.Proofs.YtnbpkignkfabkaaGreatDoor
