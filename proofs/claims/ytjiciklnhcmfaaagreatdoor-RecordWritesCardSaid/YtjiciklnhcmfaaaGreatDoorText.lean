/- (*record.Writer).Text, Bytes, ID, Done; slices.Clone of bytes. -/
import Derived.Test.YtjiciklnhcmfaaaGreatDoorNum2
import Derived.Deep.QuietTactic
import Derived.BigQuiet
namespace Go.Proofs.YtjiciklnhcmfaaaGreatDoor
set_option linter.unusedVariables false
set_option linter.unusedSimpArgs false
open Go.RowKit
def wText (l : List UInt8) (e : Int) (t : List UInt8) : List UInt8 × Int :=
  if e = 0 then (if t.length ≤ 1048576 then (l ++ be t.length 4 ++ t, 0) else (l, 31)) else (l, e)

theorem wNum_off {l : List UInt8} {e : Int} {n : Nat} {k : Int} (h : e ≠ 0) : wNum l e n k = (l, e) := if_neg h
theorem wNum_len {l : List UInt8} {n : Nat} (h : n ≤ 4294967295) : wNum l 0 n 4 = (l ++ be n 4, 0) := by
  have c : 1 ≤ (4 : Int) ∧ (4 : Int) ≤ 8 ∧ ((4 : Int) = 8 ∨ n / 2 ^ (8 * (4 : Int).toNat) = 0) := ⟨by decide, by decide, .inr (by show n / 2 ^ 32 = 0; omega)⟩
  unfold wNum
  rw [if_pos rfl, if_pos c]
  rfl

set_option maxRecDepth 100000 in
set_option maxHeartbeats 1000000 in
theorem Text_calls (pb po base : Nat) (s : ByteArray) (w : World) (v : Value) (l : List UInt8) (e : Int) (h : Wri w pb po base l e v) (hb : base ≤ pb) (hl : l.length ≤ 100000000000000) (hs : s.size ≤ 140737488355328) :
    Calls Tryz.prog 20 #[.pointer (some ⟨pb, po, none⟩), .string s] w fun r w' => r = .returned (.tuple #[]) ∧ ∃ v', Wri w' pb po base (wText l e s.data.toList).1 (wText l e s.data.toList).2 v' ∧ WUpd w w' pb po v v' := by
  have HL := Lib.hid hl; clear hl
  have hsz : s.data.toList.length = s.size := by rw [Array.length_toList]; rfl
  unfold wText
  rw [hsz]
  have SZ := Lib.hid hsz; clear hsz
  by_cases he : e = 0
  · subst he
    rw [if_pos rfl]
    by_cases ht : s.size ≤ 1048576
    · rw [if_pos ht]
      have t1 : decide ((1048576 : Int) < (s.size : Int)) = false := by simp; omega
      have H := Lib.hid h
      obtain ⟨h0, h1, f0, f1, _, _⟩ := h
      go_enter Tryz.func20, Tryz.ntmps20
      go_wp2_with fail
      refine (Num_calls pb po base s.size 4 _ v l 0 H.out hb (by have := HL.out; omega)).mono ?_
      rintro r w1 ⟨rfl, v1, hw, hu⟩
      rw [wNum_len (by omega)] at hw
      obtain ⟨L, hL⟩ : ∃ L, l ++ be s.size 4 = L := ⟨_, rfl⟩
      have hLl : L.length = l.length + 4 := by rw [← hL, List.length_append, be_length]
      rw [hL] at hw
      have HW := Lib.hid hw
      have HU := Lib.hid hu; clear hu h0 h1 f0 f1
      obtain ⟨g0, g1, q0, q1, _, _⟩ := hw
      have e0 : ((0 : Int) == 0) = true := rfl
      have M1 : Hid (L.length + s.size ≤ maxLen) := by show _ ≤ _; have := HL.out; unfold maxLen; omega
      have M2 : Hid ((L.length + s.size) * 1 ≤ 140737488355328) := by show _ ≤ _; have := HL.out; omega
      have M3 : Hid (base ≤ w1.heap.size) := by show _ ≤ _; have := HW.out.lt; omega
      have hpos : Hid (0 < L.length + s.size) := by show _ < _; omega
      have HLL := Lib.hid hL; clear hL hLl
      go_wp2_with (at_builtin; refine wpList_append rfl (.tmp 31) (.tmp 32) 23 9 rfl base 5 (.int .u8 0) 1 1 Tryz.underlying23 infoByte rfl (v := v1) (n := L.length) (xs := bys L) HW.out.own rfl (xv := .string s) (m := s.size) (news := byteCells s) (Src.ofString w1 Tryz.underlying9 s) rfl M1.out M2.out M3.out ?_)
      intro v2 w2 ho2 hg2 hn2 hv2
      have U2 : Hid (Upd (fun k => v1.ownBlock = some k) w1 w2) := (Upd.refl _ w1).grown hg2 (fun _ h _ => h)
      obtain ⟨g, cap, rfl⟩ := ho2.shape hpos.out
      have s0 := U2.out.cell' HW.out.c0 HW.out.ne
      have s1 := (U2.out.frozen (p := ⟨pb, po, none⟩) HW.out.lt HW.out.ne).trans HW.out.f0
      clear hn2 hg2
      have O2 := Lib.hid ho2; clear ho2
      have V2 := Lib.hid hv2; clear hv2
      clear g0 g1 q0 q1
      go_wp2
      go_end0
      obtain ⟨R1, R2⟩ := HW.out.put (l' := l ++ be s.size 4 ++ s.data.toList) (v' := .slice (some ⟨g, 0, none⟩) (L.length + s.size) cap) hb (by
        have := O2.out
        rw [HLL.out, show (L ++ s.data.toList).length = L.length + s.size by rw [List.length_append, SZ.out], bys_append]
        exact this) U2.out (by
        rcases V2.out with e | e
        · exact .inl e
        · exact .inr (fun i hi => by rw [e] at hi; injection hi with hi; omega))
      exact ⟨rfl, _, R1, HU.out.trans R2⟩
    · rw [if_neg ht]
      have t1 : decide ((1048576 : Int) < (s.size : Int)) = true := by simp; omega
      have H := Lib.hid h
      obtain ⟨h0, h1, f0, f1, _, _⟩ := h
      have e0 : ((0 : Int) == 0) = true := rfl
      go_enter Tryz.func20, Tryz.ntmps20
      go_wp2_with fail
      have R := H.out.bad (e' := 31)
      refine (Num_calls pb po base s.size 4 _ v l 31 R.1 hb (by have := HL.out; omega)).mono ?_
      rintro r w1 ⟨rfl, v1, hw, hu⟩
      rw [wNum_off (by decide)] at hw
      have HW := Lib.hid hw
      have HU := Lib.hid (R.2.trans hu); clear hu h0 h1 f0 f1 R
      obtain ⟨g0, g1, q0, q1, _, _⟩ := hw
      go_wp2
      go_end0
      exact ⟨rfl, _, HW.out, HU.out⟩
  · rw [if_neg he]
    have t2 : (e == 0) = false := by simpa using he
    have HE := Lib.hid he; clear he
    have H := Lib.hid h
    obtain ⟨h0, h1, f0, f1, _, _⟩ := h
    by_cases ht : s.size ≤ 1048576
    case' pos => have t1 : decide ((1048576 : Int) < (s.size : Int)) = false := by simp; omega
    case' neg => have t1 : decide ((1048576 : Int) < (s.size : Int)) = true := by simp; omega
    all_goals
      go_enter Tryz.func20, Tryz.ntmps20
      go_wp2_with fail
      refine (Num_calls pb po base s.size 4 _ v l e H.out hb (by have := HL.out; omega)).mono ?_
      rintro r w1 ⟨rfl, v1, hw, hu⟩
      rw [wNum_off HE.out] at hw
      have HW := Lib.hid hw
      have HU := Lib.hid hu; clear hu h0 h1 f0 f1
      obtain ⟨g0, g1, q0, q1, _, _⟩ := hw
      go_wp2
      go_end0
      exact ⟨rfl, _, HW.out, HU.out⟩

set_option maxRecDepth 100000 in
set_option maxHeartbeats 1000000 in
theorem Bytes_calls (pb po base : Nat) (a : Option Addr) (cap : Nat) (t : List UInt8) (w : World) (v : Value) (l : List UInt8) (e : Int) (h : Wri w pb po base l e v) (hb : base ≤ pb) (hl : l.length ≤ 100000000000000) (hs : t.length ≤ 140737488355328) (ht : Byt w a t) :
    Calls Tryz.prog 16 #[.pointer (some ⟨pb, po, none⟩), .slice a t.length cap] w fun r w' => r = .returned (.tuple #[]) ∧ ∃ v', Wri w' pb po base (wText l e t).1 (wText l e t).2 v' ∧ WUpd w w' pb po v v' := by
  have H := Lib.hid h; clear h
  have HL := Lib.hid hl; clear hl
  have HT := Lib.hid ht; clear ht
  go_enter Tryz.func16, Tryz.ntmps16
  have hcv : (convert 23 9 (.slice a t.length cap)).run Tryz.prog w = .ok (.string ⟨t.toArray⟩) w := conv_bytes Tryz.underlying23 Tryz.underlying5 Tryz.underlying9 HT.out
  go_wp2_with fail
  refine (Text_calls pb po base ⟨t.toArray⟩ _ v l e H.out hb HL.out (by simpa [ByteArray.size] using hs)).mono ?_
  rintro r w1 ⟨rfl, hq⟩
  have HQ := Lib.hid hq; clear hq hcv
  go_wp2
  go_end0
  exact ⟨rfl, by simpa using HQ.out⟩
set_option maxRecDepth 100000 in
set_option maxHeartbeats 1000000 in
theorem Clone_calls (a : Option Addr) (cap : Nat) (t : List UInt8) (w : World) (ht : Byt w a t) (hs : t.length ≤ 140737488355328) :
    Calls Tryz.prog 42 #[.slice a t.length cap] w fun r w' => ∃ v', r = .returned v' ∧ Own w' w.heap.size 5 1 v' t.length (bys t) ∧ Below w.heap.size w w' := by
  have HT := Lib.hid ht; clear ht
  have hnil := Lib.run_eql_slice_nil (P := Tryz.prog) w 23 5 a t.length cap 0 0 Tryz.underlying23
  cases a with
  | none =>
    obtain rfl := HT.out.none_nil
    simp only [Option.isNone_none, List.length_nil] at hnil
    go_enter Tryz.func42, Tryz.ntmps42
    go_wp2
    go_ret
    exact ⟨_, rfl, Own.nil _ _ _ _, Below.refl _ _⟩
  | some ad =>
    simp only [Option.isNone_some] at hnil
    have M1 : Hid (0 + t.length ≤ maxLen) := by show _ ≤ _; unfold maxLen; omega
    have M2 : Hid ((0 + t.length) * 1 ≤ 140737488355328) := by show _ ≤ _; omega
    have O1 : Hid (Own (w.alloc (.cells #[] 5)) w.heap.size 5 1 (.slice (some ⟨w.heap.size, 0, none⟩) 0 0) 0 []) :=
      ⟨rfl, .inr ⟨w.heap.size, 0, #[], (0, 0), rfl, Nat.le_refl _, heap_alloc_new w _, NoFr.zero _, Nat.le_refl _, Nat.zero_le _, rfl, rfl⟩⟩
    go_enter Tryz.func42, Tryz.ntmps42
    go_wp2_with (at_builtin; refine wpList_append rfl (.tmp 5) (.tmp 6) 23 23 rfl w.heap.size 5 (.int .u8 0) 1 1 Tryz.underlying23 infoByte rfl (v := .slice (some ⟨w.heap.size, 0, none⟩) 0 0) (n := 0) (xs := []) O1.out rfl (xv := .slice (some ad) t.length cap) (m := t.length) (news := bys t) (Src_byt Tryz.underlying23 (HT.out.alloc _) (fun _ => .inr trivial)) rfl M1.out M2.out (by simp) ?_)
    intro v2 w2 ho2 hg2 hn2 hv2
    have B2 : Hid (Below w.heap.size w w2) := ((Below.refl _ w).alloc (Nat.le_refl _) _).grown hg2 (by simp) (by intro k hk; simp [Value.ownBlock] at hk; omega)
    have O2 := Lib.hid ho2; clear ho2 hg2 hn2 hv2
    go_wp2
    go_ret
    exact ⟨_, rfl, O2.out, B2.out⟩

/-- What a writer has laid, and the first error. -/
def wDone (l : List UInt8) (e : Int) : List UInt8 × Int := if e = 0 then (l, 0) else ([], e)
set_option maxRecDepth 100000 in
set_option maxHeartbeats 1000000 in
theorem Done_calls (pb po base : Nat) (w : World) (v : Value) (l : List UInt8) (e : Int) (h : Wri w pb po base l e v) (hl : l.length ≤ 100000000000000) :
    Calls Tryz.prog 24 #[.pointer (some ⟨pb, po, none⟩)] w fun r w' => ∃ v', r = .returned (.tuple #[v', .int .i64 (wDone l e).2]) ∧ Own w' w.heap.size 5 1 v' (wDone l e).1.length (bys (wDone l e).1) ∧ Below w.heap.size w w' := by
  have H := Lib.hid h
  obtain ⟨h0, h1, f0, f1, _, _⟩ := h
  unfold wDone
  by_cases he : e = 0
  · subst he
    have e0 : ((0 : Int) != 0) = false := rfl
    rw [if_pos rfl]
    obtain ⟨a, cap, rfl, _, _, hb, _⟩ := own_val H.out.own
    have HB := Lib.hid hb; clear hb
    go_enter Tryz.func24, Tryz.ntmps24
    go_wp2_with fail
    refine (Clone_calls a cap l _ HB.out (by omega)).mono ?_
    rintro r w1 ⟨v1, rfl, ho, hbl⟩
    have HO := Lib.hid ho; clear ho
    have HL := Lib.hid hbl; clear hbl
    go_wp2
    go_ret2
    exact ⟨_, rfl, HO.out, HL.out⟩
  · have e0 : (e != 0) = true := by simpa using he
    rw [if_neg he]
    clear he
    go_enter Tryz.func24, Tryz.ntmps24
    go_wp2
    go_quiet (fail)
    go_wp2
    go_ret2
    exact ⟨_, rfl, Own.nil _ _ _ _, bel_drewN (Below.refl _ _) _⟩
end Go.Proofs.YtjiciklnhcmfaaaGreatDoor
