/- posternref3.Writer: the document's writer: Num, Int, Flag, Bytes, Text, ID, Done. -/
import Derived.Test.YtjiciklnhcmfaaaGreatDoorWid
import Derived.Test.YtjiciklnhcmfaaaGreatDoorLate2
namespace Go.Proofs.YtjiciklnhcmfaaaGreatDoor
set_option linter.unusedVariables false
set_option linter.unusedSimpArgs false
open Go.RowKit
def rLay (l t : List UInt8) (e : Int) : List UInt8 := if e = 0 then l ++ t else l
/-- What a call on a writer comes to. -/
def WPost (w w' : World) (pb po base : Nat) (v : Value) (r : Ending) (q : List UInt8 × Int) : Prop := r = .returned (.tuple #[]) ∧ ∃ v', Wri w' pb po base q.1 q.2 v' ∧ WUpd w w' pb po v v'
set_option maxRecDepth 100000 in
set_option maxHeartbeats 1000000 in
theorem RLay_calls (pb po base : Nat) (a : Option Addr) (cap : Nat) (t : List UInt8) (w : World) (v : Value) (l : List UInt8) (e : Int) (h : Wri w pb po base l e v) (hb : base ≤ pb) (hl : l.length + t.length ≤ 140737488355328) (ht : Byt w a t) :
    Calls Tryz.prog 40 #[.pointer (some ⟨pb, po, none⟩), .slice a t.length cap] w fun r w' => WPost w w' pb po base v r (rLay l t e, e) := by
  unfold rLay
  by_cases he : e = 0
  · subst he
    rw [if_pos rfl]
    have t1 : ((0 : Int) == 0) = true := rfl
    have M1 : Hid (l.length + t.length ≤ maxLen) := by show _ ≤ _; unfold maxLen; omega
    have M2 : Hid ((l.length + t.length) * 1 ≤ 140737488355328) := by show _ ≤ _; omega
    have H := Lib.hid h
    have M3 : Hid (base ≤ w.heap.size) := by show _ ≤ _; have := h.lt; omega
    have S1 := Lib.hid (Src_byt (P := Tryz.prog) (tx := 23) Tryz.underlying23 ht (c := cap) (fun _ => .inr trivial))
    obtain ⟨c0, c1, f0, f1, _, _⟩ := h
    clear ht
    go_enter Tryz.func40, Tryz.ntmps40
    go_wp2_with (at_builtin; refine wpList_append rfl (.tmp 13) (.tmp 14) 23 23 rfl base 5 (.int .u8 0) 1 1 Tryz.underlying23 infoByte rfl (n := l.length) (xs := bys l) H.out.own rfl (xv := .slice a t.length cap) (m := t.length) (news := bys t) S1.out rfl M1.out M2.out M3.out ?_)
    intro v2 w2 ho2 hg2 hn2 hv2
    obtain ⟨a2, c2, rfl, -, -, -⟩ := ho2.shape'
    have U2 : Hid (Upd (fun k => v.ownBlock = some k) w w2) := (Upd.refl _ w).grown hg2 (fun _ h _ => h)
    have s0 := U2.out.cell' H.out.c0 H.out.ne
    have s1 := (U2.out.frozen (p := ⟨pb, po, none⟩) H.out.lt H.out.ne).trans H.out.f0
    have O2 := Lib.hid ho2
    have V2 := Lib.hid hv2
    clear ho2 hg2 hn2 hv2 c0 c1 f0 f1
    go_wp2
    go_end0
    have hlen : (l ++ t).length = l.length + t.length := List.length_append
    obtain ⟨R1, R2⟩ := H.out.put (l' := l ++ t) (v' := .slice a2 (l.length + t.length) c2) hb (by
      have := O2.out
      rw [← bys_append] at this
      rw [hlen]
      exact this) U2.out (by
      rcases V2.out with e | e
      · exact .inl e
      · exact .inr (fun i hi => by rw [e] at hi; injection hi with hi; exact Nat.le_of_eq hi))
    exact ⟨rfl, _, R1, R2⟩
  · rw [if_neg he]
    have t1 : (e == 0) = false := beq_eq_false_iff_ne.2 he
    have H := Lib.hid h
    obtain ⟨c0, c1, f0, f1, _, _⟩ := h
    clear he
    go_enter Tryz.func40, Tryz.ntmps40
    go_wp2
    go_end0
    exact ⟨rfl, v, H.out, WUpd.refl _ _ _ _⟩
set_option maxRecDepth 100000 in
set_option maxHeartbeats 1000000 in
theorem RRefuse_calls (pb po base : Nat) (x : Int) (w : World) (v : Value) (l : List UInt8) (e : Int) (h : Wri w pb po base l e v) :
    Calls Tryz.prog 38 #[.pointer (some ⟨pb, po, none⟩), .int .i64 x] w fun r w' => WPost w w' pb po base v r (l, if e = 0 then x else e) := by
  have H := Lib.hid h
  obtain ⟨c0, c1, f0, f1, _, _⟩ := h
  by_cases he : e = 0
  · subst he
    rw [if_pos rfl]
    have t1 : ((0 : Int) == 0) = true := rfl
    go_enter Tryz.func38, Tryz.ntmps38
    go_wp2
    go_end0
    have R := H.out.bad (e' := x)
    exact ⟨rfl, v, R.1, R.2⟩
  · rw [if_neg he]
    have t1 : (e == 0) = false := beq_eq_false_iff_ne.2 he
    clear he
    go_enter Tryz.func38, Tryz.ntmps38
    go_wp2
    go_end0
    exact ⟨rfl, v, H.out, WUpd.refl _ _ _ _⟩
theorem WUpd.ofBelow {w w' : World} {pb po : Nat} {v : Value} (h : Below w.heap.size w w') (hp : pb < w.heap.size) : WUpd w w' pb po v v :=
  have U := Upd.ofBelow h
  ⟨U.mono (fun _ s _ => s.elim), fun _ _ _ => ⟨U.cell hp (fun s => s), U.frozen hp (fun s => s)⟩, .inl rfl⟩
theorem Wri.below {w w' : World} {pb po base : Nat} {l : List UInt8} {e : Int} {v : Value} (h : Wri w pb po base l e v) (hb : Below w.heap.size w w') : Wri w' pb po base l e v := h.upd (Upd.ofBelow hb) (fun s => s) (fun _ _ s => s)
set_option maxRecDepth 100000 in
set_option maxHeartbeats 1000000 in
theorem RWNum_calls (pb po base n : Nat) (k : Int) (w : World) (v : Value) (l : List UInt8) (e : Int) (h : Wri w pb po base l e v) (hb : base ≤ pb) (hl : l.length ≤ 140737488000000) (hn : n ≤ 18446744073709551615) :
    Calls Tryz.prog 10 #[.pointer (some ⟨pb, po, none⟩), .int .u64 n, .int .i64 k] w fun r w' => WPost w w' pb po base v r (wNum l e n k) := by
  have H := Lib.hid h; clear h
  have HB := Lib.hid hb; clear hb
  have HL := Lib.hid hl; clear hl
  have HN := Lib.hid hn; clear hn
  have bad : ¬ (1 ≤ k ∧ k ≤ 8 ∧ (k = 8 ∨ n / 2 ^ (8 * k.toNat) = 0)) → (l, if e = 0 then (34 : Int) else e) = wNum l e n k := by
    intro hh
    unfold wNum
    by_cases he : e = 0
    · rw [if_pos he, if_pos he, if_neg hh]
    · rw [if_neg he, if_neg he]
  have RC := Lib.hid (RRefuse_calls pb po base 34 w v l e H.out)
  have BAD := Lib.hid bad; clear bad
  by_cases c1 : k < 1
  · have t1 : decide (k < 1) = true := decide_eq_true c1
    go_enter Tryz.func10, Tryz.ntmps10
    go_wp2_with fail
    refine RC.out.mono ?_
    rintro r w1 ⟨rfl, hp⟩
    rw [BAD.out (by omega)] at hp
    have HP := Lib.hid hp; clear hp
    go_wp2
    ((try simp only [Exit.inBlock, Exit.then]); refine bodyPost_ret (results_none rfl _ _ _) rfl ?_)
    exact ⟨rfl, HP.out⟩
  have t1 : decide (k < 1) = false := decide_eq_false c1
  by_cases c2 : 8 < k
  · have t2 : decide (8 < k) = true := decide_eq_true c2
    go_enter Tryz.func10, Tryz.ntmps10
    go_wp2_with fail
    refine RC.out.mono ?_
    rintro r w1 ⟨rfl, hp⟩
    rw [BAD.out (by omega)] at hp
    have HP := Lib.hid hp; clear hp
    go_wp2
    ((try simp only [Exit.inBlock, Exit.then]); refine bodyPost_ret (results_none rfl _ _ _) rfl ?_)
    exact ⟨rfl, HP.out⟩
  have t2 : decide (8 < k) = false := decide_eq_false c2
  obtain ⟨j, rfl⟩ := Int.eq_ofNat_of_zero_le (show 0 ≤ k by omega)
  have hj1 : 1 ≤ j := by omega
  have hj8 : j ≤ 8 := by omega
  have NC := Lib.hid (Number_calls n j w hj8 HN.out)
  have e1 : decide (n / 256 ^ j = 0) = decide (((j : Int) = 8 ∨ n / 2 ^ (8 * (j : Int).toNat) = 0)) := by
    rw [show ((j : Int)).toNat = j by omega, Nat.pow_mul]
    have : (2 : Nat) ^ 8 = 256 := rfl
    rw [this]
    by_cases h8 : j = 8
    · subst h8
      have h0 : n / 256 ^ 8 = 0 := Nat.div_eq_of_lt (by have := HN.out; show n < 256 ^ 8; omega)
      rw [h0]; simp
    · congr 1
      have : ¬ ((j : Int) = 8) := by omega
      simp [this]
  go_enter Tryz.func10, Tryz.ntmps10
  clear c1 c2
  have E1 := Lib.hid e1; clear e1
  go_wp2_with fail
  refine NC.out.mono ?_
  rintro r w1 ⟨v1, rfl, ho, hb1⟩
  have B1 := Lib.hid hb1
  have W1 := Lib.hid (H.out.below hb1)
  have hbl := be_length n j
  obtain ⟨a1, cp1, rfl, -, -, hy1, -⟩ := own_vn ho
  have Y1 := Lib.hid hy1
  have BL := Lib.hid hbl
  clear ho hb1 hy1 hbl
  by_cases c3 : n / 256 ^ j = 0
  · have t3 : decide (n / 256 ^ j = 0) = true := decide_eq_true c3
    have HC : Hid (1 ≤ (j : Int) ∧ (j : Int) ≤ 8 ∧ ((j : Int) = 8 ∨ n / 2 ^ (8 * (j : Int).toNat) = 0)) := ⟨by omega, by omega, of_decide_eq_true (by rw [← E1.out]; exact t3)⟩
    rw [t3]
    have LC := Lib.hid (RLay_calls pb po base a1 cp1 (be n j) w1 v l e W1.out HB.out (by rw [BL.out]; have := HL.out; omega) Y1.out)
    clear c3 t3
    go_wp2_with fail
    refine LC.out.mono ?_
    rintro r w2 ⟨rfl, v2, hw2, hu2⟩
    have W2 := Lib.hid hw2
    have U2 := Lib.hid ((WUpd.ofBelow (po := po) (v := v) B1.out H.out.lt).trans hu2)
    clear hw2 hu2
    go_wp2
    go_end0
    refine ⟨rfl, v2, ?_, U2.out⟩
    have h2 := W2.out
    unfold wNum
    unfold rLay at h2
    by_cases he : e = 0
    · rw [if_pos he] at h2 ⊢; rw [if_pos HC.out]; subst he; exact h2
    · rw [if_neg he] at h2 ⊢; exact h2
  · have t3 : decide (n / 256 ^ j = 0) = false := decide_eq_false c3
    have HC : Hid (¬ (1 ≤ (j : Int) ∧ (j : Int) ≤ 8 ∧ ((j : Int) = 8 ∨ n / 2 ^ (8 * (j : Int).toNat) = 0))) := fun hh => by
      have h1 := decide_eq_true hh.2.2
      rw [← E1.out, t3] at h1
      cases h1
    rw [t3]
    have RC1 := Lib.hid (RRefuse_calls pb po base 34 w1 v l e W1.out)
    clear c3 t3
    go_wp2_with fail
    refine RC1.out.mono ?_
    rintro r w2 ⟨rfl, v2, hw2, hu2⟩
    rw [BAD.out HC.out] at hw2
    have W2 := Lib.hid hw2
    have U2 := Lib.hid ((WUpd.ofBelow (po := po) (v := v) B1.out H.out.lt).trans hu2)
    clear hw2 hu2
    go_wp2
    ((try simp only [Exit.inBlock, Exit.then]); refine bodyPost_ret (results_none rfl _ _ _) rfl ?_)
    exact ⟨rfl, v2, W2.out, U2.out⟩
set_option maxRecDepth 100000 in
set_option maxHeartbeats 1000000 in
theorem RWInt_calls (pb po base : Nat) (x : Int) (w : World) (v : Value) (l : List UInt8) (e : Int) (h : Wri w pb po base l e v) (hb : base ≤ pb) (hl : l.length ≤ 140737488000000) :
    Calls Tryz.prog 12 #[.pointer (some ⟨pb, po, none⟩), .int .i64 x] w fun r w' => WPost w w' pb po base v r (wNum l e (i64n x) 8) := by
  have NC := Lib.hid (RWNum_calls pb po base (i64n x) 8 w v l e h hb hl (by unfold i64n; omega))
  clear h hb hl
  have e64 : IntKind.u64.wrap x = ((i64n x : Nat) : Int) := by
    have : IntKind.u64.wrap x = x % 18446744073709551616 := by simp [IntKind.wrap, IntKind.bits, IntKind.signed]
    rw [this]; unfold i64n; omega
  generalize i64n x = nx at *
  go_enter Tryz.func12, Tryz.ntmps12
  go_wp2_with fail
  refine NC.out.mono ?_
  rintro r w1 ⟨rfl, hp⟩
  have HP := Lib.hid hp; clear hp
  go_wp2
  go_end0
  exact ⟨rfl, HP.out⟩
set_option maxRecDepth 100000 in
set_option maxHeartbeats 1000000 in
theorem RWFlag_calls (pb po base : Nat) (b : Bool) (w : World) (v : Value) (l : List UInt8) (e : Int) (h : Wri w pb po base l e v) (hb : base ≤ pb) (hl : l.length ≤ 140737488000000) :
    Calls Tryz.prog 14 #[.pointer (some ⟨pb, po, none⟩), .bool b] w fun r w' => WPost w w' pb po base v r (wNum l e b.toNat 1) := by
  have NC := Lib.hid (RWNum_calls pb po base b.toNat 1 w v l e h hb hl (by cases b <;> decide))
  clear h hb hl
  cases b with
  | true =>
    go_enter Tryz.func14, Tryz.ntmps14
    go_wp2_with fail
    refine NC.out.mono ?_
    rintro r w1 ⟨rfl, hp⟩
    have HP := Lib.hid hp; clear hp
    go_wp2
    ((try simp only [Exit.inBlock, Exit.then]); refine bodyPost_ret (results_none rfl _ _ _) rfl ?_)
    exact ⟨rfl, HP.out⟩
  | false =>
    go_enter Tryz.func14, Tryz.ntmps14
    go_wp2_with fail
    refine NC.out.mono ?_
    rintro r w1 ⟨rfl, hp⟩
    have HP := Lib.hid hp; clear hp
    go_wp2
    go_end0
    exact ⟨rfl, HP.out⟩
theorem wText_in (l t : List UInt8) (e : Int) (hc : t.length ≤ 1048576) : wText l e t = (rLay (rLay l (be t.length 4) e) t e, e) := by
  unfold wText rLay
  by_cases he : e = 0
  · subst he
    simp [hc]
  · simp [he]
theorem wText_out (l t : List UInt8) (e : Int) (hc : ¬ t.length ≤ 1048576) : wText l e t = (l, if e = 0 then 31 else e) := by
  unfold wText
  by_cases he : e = 0
  · subst he
    simp [hc]
  · simp [he]
set_option maxRecDepth 100000 in
set_option maxHeartbeats 1000000 in
theorem RWBytes_calls (pb po base : Nat) (a : Option Addr) (cap : Nat) (t : List UInt8) (w : World) (v : Value) (l : List UInt8) (e : Int) (h : Wri w pb po base l e v) (hb : base ≤ pb) (hl : l.length ≤ 100000000000000) (hs : t.length ≤ 1000000000000) (ht : Byt w a t) (hne : t ≠ [] → ∀ k, a.map (·.block) = some k → k ≠ pb ∧ v.ownBlock ≠ some k) :
    Calls Tryz.prog 17 #[.pointer (some ⟨pb, po, none⟩), .slice a t.length cap] w fun r w' => WPost w w' pb po base v r (wText l e t) := by
  by_cases c1 : t.length ≤ 1048576
  · rw [wText_in l t e c1]
    have t1 : decide ((1048576 : Int) < (t.length : Int)) = false := decide_eq_false (by omega)
    have NC := Lib.hid (RWNum_calls pb po base t.length 4 w v l e h hb (by omega) (by omega))
    have LC := Lib.hid (fun (w1 : World) (v1 : Value) (l1 : List UInt8) (h1 : Wri w1 pb po base l1 e v1) (hq : l1.length ≤ l.length + 4) (h2 : Byt w1 a t) => RLay_calls pb po base a cap t w1 v1 l1 e h1 hb (by omega) h2)
    have YB := Lib.hid (fun (w1 : World) (v1 : Value) (hu : WUpd w w1 pb po v v1) => ht.upd hu.upd (fun ad ha hx s => by
      obtain ⟨h1, h2⟩ := hne hx ad.block (by rw [ha]; rfl)
      rcases s with s | s
      · exact h1 s
      · exact h2 s))
    clear h hb hl ht hne
    have E1 : Hid (wNum l e t.length 4 = (rLay l (be t.length 4) e, e)) := by
      show _ = _
      unfold wNum rLay
      by_cases he : e = 0
      · rw [if_pos he, if_pos he, if_pos ⟨by decide, by decide, .inr (by show t.length / 4294967296 = 0; omega)⟩, he]; rfl
      · rw [if_neg he, if_neg he]
    go_enter Tryz.func17, Tryz.ntmps17
    have C1 := Lib.hid c1
    go_wp2_with fail
    refine NC.out.mono ?_
    rintro r w1 ⟨rfl, v1, hw1, hu1⟩
    rw [E1.out] at hw1
    have hlen : (rLay l (be t.length 4) e).length ≤ l.length + 4 := by
      unfold rLay
      split
      · rw [List.length_append, be_length]; omega
      · omega
    have L2 := Lib.hid (LC.out w1 v1 _ hw1 hlen (YB.out w1 v1 hu1))
    have U1 := Lib.hid hu1
    clear hw1 hu1 hlen
    go_wp2_with fail
    refine L2.out.mono ?_
    rintro r w2 ⟨rfl, v2, hw2, hu2⟩
    have W2 := Lib.hid hw2
    have U2 := Lib.hid (U1.out.trans hu2)
    clear hw2 hu2
    go_wp2
    go_end0
    exact ⟨rfl, v2, W2.out, U2.out⟩
  · rw [wText_out l t e c1]
    have t1 : decide ((1048576 : Int) < (t.length : Int)) = true := decide_eq_true (by omega)
    have RC := RRefuse_calls pb po base 31 w v l e h
    obtain ⟨e2, he2⟩ : ∃ q : Int, (if e = 0 then 31 else e) = q := ⟨_, rfl⟩
    rw [he2] at RC ⊢
    have RC := Lib.hid RC
    clear h hb hl ht hne c1 he2
    go_enter Tryz.func17, Tryz.ntmps17
    go_wp2_with fail
    refine RC.out.mono ?_
    rintro r w1 ⟨rfl, v1, hw1, hu1⟩
    have W1 := Lib.hid hw1
    have U1 := Lib.hid hu1
    clear hw1 hu1
    go_wp2
    ((try simp only [Exit.inBlock, Exit.then]); refine bodyPost_ret (results_none rfl _ _ _) rfl ?_)
    exact ⟨rfl, v1, W1.out, U1.out⟩
/-- Text: the string's bytes are laid in a row of their own first. -/
theorem rwtext_upd {w w1 w2 : World} {pb po : Nat} {v v2 : Value} {o : Obj} (h : WUpd (w.drew.alloc o) w2 pb po v v2) (hp : pb < w.heap.size) : WUpd w w2 pb po v v2 := by
  have hb : Below w.heap.size w (w.drew.alloc o) := ⟨rfl, rfl, rfl, by rw [World.size_alloc]; exact Nat.le_succ _, fun k hk => Below.heap_alloc w.drew _ k hk⟩
  exact (WUpd.ofBelow (po := po) (v := v) hb hp).trans h
set_option maxRecDepth 100000 in
set_option maxHeartbeats 1000000 in
theorem RWText_calls (pb po base : Nat) (t : List UInt8) (w : World) (v : Value) (l : List UInt8) (e : Int) (h : Wri w pb po base l e v) (hb : base ≤ pb) (hl : l.length ≤ 100000000000000) (hs : t.length ≤ 1000000000000) :
    Calls Tryz.prog 21 #[.pointer (some ⟨pb, po, none⟩), .string ⟨t.toArray⟩] w fun r w' => WPost w w' pb po base v r (wText l e t) := by
  have x1 := run_strBytes w t
  have o1 := own_strBytes w t hs
  have hbl : Below w.heap.size w (w.drew.alloc (sobj w t)) := ⟨rfl, rfl, rfl, by rw [World.size_alloc]; exact Nat.le_succ _, fun k hk => Below.heap_alloc w.drew _ k hk⟩
  have BC := Lib.hid (RWBytes_calls pb po base (some ⟨w.heap.size, 0, none⟩) (scap w t) t (w.drew.alloc (sobj w t)) v l e (h.below hbl) hb hl hs (Own.byt o1).1 (fun _ k hk => by
    have hk' : w.heap.size = k := by simpa using hk
    subst hk'
    exact ⟨fun e => by have := h.lt; omega, fun e => by have := (h.own.lt _ e).2; omega⟩))
  have HP := Lib.hid h.lt
  clear o1 hbl h hb hl hs
  generalize scap w t = sc at *
  generalize sobj w t = so at *
  go_enter Tryz.func21, Tryz.ntmps21
  go_wp2_with fail
  refine BC.out.mono ?_
  rintro r w2 ⟨rfl, v2, hw2, hu2⟩
  have W2 := Lib.hid hw2
  have U2 := Lib.hid (rwtext_upd (w1 := w) hu2 HP.out)
  clear hw2 hu2 x1
  go_wp2
  go_end0
  exact ⟨rfl, v2, W2.out, U2.out⟩
set_option maxRecDepth 100000 in
set_option maxHeartbeats 1000000 in
theorem RWID_calls (pb po base : Nat) (dl : List UInt8) (hd : dl.length = 16) (w : World) (v : Value) (l : List UInt8) (e : Int) (h : Wri w pb po base l e v) (hb : base ≤ pb) (hl : l.length ≤ 140737488000000) :
    Calls Tryz.prog 23 #[.pointer (some ⟨pb, po, none⟩), .agg (idv dl)] w fun r w' => WPost w w' pb po base v r (wID l e dl) := by
  obtain ⟨w1, hw1⟩ : ∃ q, w.alloc (.cells (idv dl) 64) = q := ⟨_, rfl⟩
  have hbl : Below w.heap.size w w1 := by rw [← hw1]; exact (Below.refl _ w).alloc (Nat.le_refl _) _
  have hk := heap_alloc_new w (.cells (idv dl) 64)
  rw [hw1] at hk
  have hy : Byt w1 (some ⟨w.heap.size, 0, none⟩) dl := by
    intro i hi
    refine ⟨w.heap.size, 0, rfl, ?_⟩
    rw [Nat.zero_add, cell_of_row' hk]
    show ((bys dl).toArray)[i]? = _
    rw [List.getElem?_toArray, bys_get hi]
  have LC := RLay_calls pb po base (some ⟨w.heap.size, 0, none⟩) 16 dl w1 v l e (h.below hbl) hb (by rw [hd]; omega) hy
  rw [hd] at LC
  have LCH := Lib.hid LC
  have HW := Lib.hid hw1
  have HP := Lib.hid h.lt
  have BH := Lib.hid hbl
  have E1 : Hid ((rLay l dl e, e) = wID l e dl) := by
    show _ = _
    unfold rLay wID
    by_cases he : e = 0
    · subst he; simp
    · simp [he]
  clear LC hy hk hbl h hb hl hw1
  go_enter Tryz.func23, Tryz.ntmps23
  go_wp2_with (first | (with_reducible refine wpList_box (o := ⟨some 3, _, _, _, _, _⟩) rfl 64 (.tmp 1) rfl (idv dl) rfl ?_))
  rw [HW.out]
  refine LCH.out.mono ?_
  rintro r w2 ⟨rfl, v2, hw2, hu2⟩
  rw [E1.out] at hw2
  have W2 := Lib.hid hw2
  have U2 := Lib.hid ((WUpd.ofBelow (po := po) (v := v) BH.out HP.out).trans hu2)
  clear hw2 hu2
  go_wp2
  go_end0
  exact ⟨rfl, v2, W2.out, U2.out⟩
set_option maxRecDepth 100000 in
set_option maxHeartbeats 1000000 in
theorem RWDone_calls (pb po base : Nat) (w : World) (v : Value) (l : List UInt8) (e : Int) (h : Wri w pb po base l e v) (hl : l.length ≤ 100000000000000) :
    Calls Tryz.prog 25 #[.pointer (some ⟨pb, po, none⟩)] w fun r w' => ∃ v', r = .returned (.tuple #[v', .int .i64 (wDone l e).2]) ∧ Own w' w.heap.size 5 1 v' (wDone l e).1.length (bys (wDone l e).1) ∧ Below w.heap.size w w' := by
  have H := Lib.hid h
  obtain ⟨h0, h1, f0, f1, _, _⟩ := h
  unfold wDone
  by_cases he : e = 0
  · subst he
    have e0 : ((0 : Int) != 0) = false := rfl
    rw [if_pos rfl]
    obtain ⟨a, cap, rfl, _, _, hb, _⟩ := own_val H.out.own
    have HB := Lib.hid hb; clear hb
    go_enter Tryz.func25, Tryz.ntmps25
    go_wp2_with fail
    refine (Copy_calls a cap l _ HB.out (by omega)).mono ?_
    rintro r w1 ⟨v1, rfl, ho, hbl⟩
    have HO := Lib.hid ho; clear ho
    have HL := Lib.hid hbl; clear hbl
    go_wp2
    go_ret2
    exact ⟨_, rfl, HO.out, HL.out⟩
  · have e0 : (e != 0) = true := by simpa using he
    rw [if_neg he]
    clear he
    go_enter Tryz.func25, Tryz.ntmps25
    go_wp2
    go_quiet (fail)
    go_wp2
    go_ret2
    exact ⟨_, rfl, Own.nil _ _ _ _, bel_drewN (Below.refl _ _) _⟩
end Go.Proofs.YtjiciklnhcmfaaaGreatDoor
