/- posternlaw1.Over; posternlaw3.lay: a field at both writers. -/
import Derived.Test.YtjiciklnhcmfaaaGreatDoorRefW
import Derived.Test.YtjiciklnhcmfaaaGreatDoorOps2
import Derived.Test.YtjiciklnhcmfaaaGreatDoorLateA
namespace Go.Proofs.YtjiciklnhcmfaaaGreatDoor
set_option linter.unusedVariables false
set_option linter.unusedSimpArgs false
open Go.RowKit
set_option maxRecDepth 100000 in
set_option maxHeartbeats 1000000 in
theorem Over_calls (base g cap : Nat) (l : List UInt8) (w : World) (h : Lnt w base g cap l) (hs : l.length ≤ 100000000000000) :
    Calls Tryz.prog 19 #[.slice (some ⟨g, 0, none⟩) l.length cap] w fun r w' => r = .returned (.tuple #[]) ∧ Upd (fun k => k = g) w w' := by
  have H := Lib.hid h; clear h
  go_enter Tryz.func19, Tryz.ntmps19
  go_wp2
  go_loopw [2] (fun vi wr => ∃ (i : Nat) (x : List UInt8), vi = .int .i64 i ∧ i ≤ l.length ∧ x.length = l.length + 70 ∧ Own wr base 5 1 (.slice (some ⟨g, 0, none⟩) (l.length + 70) cap) (l.length + 70) (bys x) ∧ Upd (fun k => k = g) w wr) (fun vi _ => l.length - (intOf vi).toNat)
  case atStart => exact ⟨0, l ++ mkl, rfl, by omega, by rw [List.length_append, mkl_length], H.out, Upd.refl _ _⟩
  case round =>
    obtain ⟨i, x, rfl, hi, hx, ho, hu⟩ := hrel
    have OW := Lib.hid ho; have UW := Lib.hid hu; have HX := Lib.hid hx; clear ho hu hx
    by_cases hlt : i < l.length
    · have t1 : decide ((i : Int) < (l.length : Int)) = true := decide_eq_true (by omega)
      have t1' : decide (i < l.length) = true := decide_eq_true hlt
      have q2 := OW.out.frozenAt i (by omega)
      obtain ⟨yi, q3⟩ : ∃ y : Int, wr.cell? ⟨g, i, none⟩ = some (.int .u8 y) := ⟨_, (OW.out.cellAt i (by omega)).trans (bys_get (show i < x.length by rw [HX.out]; omega))⟩
      have OS := OW.out.set i (.int .u8 238)
      rw [show (Value.int .u8 238) = .int .u8 ((238 : UInt8).toNat : Int) from rfl, bys_set] at OS
      have OS := Lib.hid OS
      have US := Lib.hid (UW.out.setCell (p := ⟨g, i, none⟩) (fun _ => rfl) (.int .u8 238))
      go_wp2
      go_roundw
      case rel => exact ⟨i + 1, _, by go_num, by omega, by rw [List.length_set]; exact HX.out, OS.out, US.out⟩
      case measure => simp [intOf]; omega
    · have t1 : decide ((i : Int) < (l.length : Int)) = false := decide_eq_false (by omega)
      have t1' : decide (i < l.length) = false := decide_eq_false hlt
      go_wp2
      go_end0
      exact ⟨rfl, UW.out⟩
/-- The program's writer and the document's, side by side. -/
structure Tw (w : World) (pb po qb qo B : Nat) (l : List UInt8) (e : Int) (v u : Value) : Prop where
  a : Wri w pb po B l e v
  b : Wri w qb qo B l e u
  n1 : v.ownBlock ≠ some qb
  n2 : u.ownBlock ≠ some pb
  n3 : pb ≠ qb
  n4 : ∀ k, v.ownBlock = some k → u.ownBlock ≠ some k
  h1 : B ≤ pb
  h2 : B ≤ qb
/-- What a call on both may turn. -/
structure TUpd (w w' : World) (pb po qb qo : Nat) (v u v' u' : Value) : Prop where
  upd : Upd (fun k => k = pb ∨ k = qb ∨ v.ownBlock = some k ∨ u.ownBlock = some k) w w'
  r1 : ∀ o, o ≠ po → o ≠ po + 1 → w'.cell? ⟨pb, o, none⟩ = w.cell? ⟨pb, o, none⟩ ∧ w'.frozen? ⟨pb, o, none⟩ = w.frozen? ⟨pb, o, none⟩
  r2 : ∀ o, o ≠ qo → o ≠ qo + 1 → w'.cell? ⟨qb, o, none⟩ = w.cell? ⟨qb, o, none⟩ ∧ w'.frozen? ⟨qb, o, none⟩ = w.frozen? ⟨qb, o, none⟩
  o1 : v'.ownBlock = v.ownBlock ∨ ∀ k, v'.ownBlock = some k → w.heap.size ≤ k
  o2 : u'.ownBlock = u.ownBlock ∨ ∀ k, u'.ownBlock = some k → w.heap.size ≤ k
section
variable {w w0 w1 w2 w3 : World} {pb po qb qo B : Nat} {l l' : List UInt8} {e e' : Int} {v u v' u' : Value}
theorem Tw.below (h : Tw w pb po qb qo B l e v u) (hb : Below w.heap.size w w1) : Tw w1 pb po qb qo B l e v u := ⟨h.a.below hb, h.b.below hb, h.n1, h.n2, h.n3, h.n4, h.h1, h.h2⟩
theorem TUpd.ofBelow (h : Tw w pb po qb qo B l e v u) (hb : Below w.heap.size w w1) : TUpd w w1 pb po qb qo v u v u :=
  have U := Upd.ofBelow hb
  ⟨U.mono (fun _ s _ => s.elim), fun _ _ _ => ⟨U.cell h.a.lt (fun s => s), U.frozen h.a.lt (fun s => s)⟩, fun _ _ _ => ⟨U.cell h.b.lt (fun s => s), U.frozen h.b.lt (fun s => s)⟩, .inl rfl, .inl rfl⟩
theorem TUpd.front (h : Tw w pb po qb qo B l e v u) (hb : Below w.heap.size w w0) (k : TUpd w0 w1 pb po qb qo v u v' u') : TUpd w w1 pb po qb qo v u v' u' := by
  have h0 := TUpd.ofBelow h hb
  refine ⟨h0.upd.same k.upd, fun o a b => ⟨(k.r1 o a b).1.trans (h0.r1 o a b).1, (k.r1 o a b).2.trans (h0.r1 o a b).2⟩, fun o a b => ⟨(k.r2 o a b).1.trans (h0.r2 o a b).1, (k.r2 o a b).2.trans (h0.r2 o a b).2⟩, ?_, ?_⟩
  · rcases k.o1 with c | c
    · exact .inl c
    · exact .inr fun i hi => Nat.le_trans hb.size (c i hi)
  · rcases k.o2 with c | c
    · exact .inl c
    · exact .inr fun i hi => Nat.le_trans hb.size (c i hi)
/-- Behind both calls a row of the law's own is turned. -/
theorem Tw.back {g : Nat} (h : Tw w1 pb po qb qo B l' e' v' u') (k : TUpd w w1 pb po qb qo v u v' u') (hu : Upd (fun i => i = g) w1 w2) (hg : w.heap.size ≤ g) (hp : pb < w.heap.size) (hq : qb < w.heap.size) (hv : v'.ownBlock ≠ some g) (hu' : u'.ownBlock ≠ some g) :
    Tw w2 pb po qb qo B l' e' v' u' ∧ TUpd w w2 pb po qb qo v u v' u' := by
  have p1 : ¬ pb = g := by omega
  have p2 : ¬ qb = g := by omega
  have hp1 := Nat.lt_of_lt_of_le hp k.upd.size
  have hq1 := Nat.lt_of_lt_of_le hq k.upd.size
  refine ⟨⟨h.a.upd hu p1 (fun i hi s => hv (by rw [hi]; exact congrArg some s)), h.b.upd hu p2 (fun i hi s => hu' (by rw [hi]; exact congrArg some s)), h.n1, h.n2, h.n3, h.n4, h.h1, h.h2⟩, k.upd.trans hu (fun _ s _ => s) (fun i s hi => by have s' : i = g := s; omega), fun o a b => ⟨(hu.cell (p := ⟨pb, o, none⟩) hp1 p1).trans (k.r1 o a b).1, (hu.frozen (p := ⟨pb, o, none⟩) hp1 p1).trans (k.r1 o a b).2⟩, fun o a b => ⟨(hu.cell (p := ⟨qb, o, none⟩) hq1 p2).trans (k.r2 o a b).1, (hu.frozen (p := ⟨qb, o, none⟩) hq1 p2).trans (k.r2 o a b).2⟩, k.o1, k.o2⟩
/-- The document's writer behind the program's call. -/
theorem Tw.mid (h : Tw w pb po qb qo B l e v u) (h1 : WUpd w w1 pb po v v') : Wri w1 qb qo B l e u :=
  h.b.upd h1.upd (fun s => by rcases s with s | s; exact h.n3 s.symm; exact h.n1 s) (fun i hi s => by
    rcases s with s | s
    · rw [s] at hi; exact h.n2 hi
    · exact h.n4 i s hi)
/-- One call behind the other. -/
theorem Tw.step (h : Tw w pb po qb qo B l e v u) (a1 : Wri w1 pb po B l' e' v') (h1 : WUpd w w1 pb po v v') (b2 : Wri w2 qb qo B l' e' u') (h2 : WUpd w1 w2 qb qo u u') :
    Tw w2 pb po qb qo B l' e' v' u' ∧ TUpd w w2 pb po qb qo v u v' u' := by
  have hq := Nat.lt_of_lt_of_le h.b.lt h1.upd.size
  have hp1 := a1.lt
  have ulw : ∀ k, u.ownBlock = some k → k < w.heap.size := fun k hk => (h.b.own.lt k hk).2
  have d1 : ∀ k, v'.ownBlock = some k → ¬ (k = qb ∨ u.ownBlock = some k) := by
    intro k hk s
    rcases h1.own with c | c
    · rw [c] at hk
      rcases s with s | s
      · rw [s] at hk; exact h.n1 hk
      · exact h.n4 k hk s
    · have c1 := c k hk
      rcases s with s | s
      · have := h.b.lt; omega
      · have := ulw k s; omega
  have pn : ¬ (pb = qb ∨ u.ownBlock = some pb) := fun s => by rcases s with s | s; exact h.n3 s; exact h.n2 s
  have qn : ¬ (qb = pb ∨ v.ownBlock = some qb) := fun s => by rcases s with s | s; exact h.n3 s.symm; exact h.n1 s
  refine ⟨⟨a1.upd h2.upd pn d1, b2, fun hk => d1 qb hk (.inl rfl), ?_, h.n3, ?_, h.h1, h.h2⟩, ?_, ?_, ?_, h1.own, ?_⟩
  · rcases h2.own with c | c
    · rw [c]; exact h.n2
    · intro hk; have := c pb hk; omega
  · intro k hk hk2
    rcases h2.own with c | c
    · rw [c] at hk2; exact d1 k hk (.inr hk2)
    · have := c k hk2
      have := (a1.own.lt k hk).2
      omega
  · refine h1.upd.trans h2.upd (fun k s _ => ?_) (fun k s _ => ?_)
    · rcases s with s | s
      · exact .inl s
      · exact .inr (.inr (.inl s))
    · rcases s with s | s
      · exact .inr (.inl s)
      · exact .inr (.inr (.inr s))
  · intro o x y
    exact ⟨(h2.upd.cell (p := ⟨pb, o, none⟩) hp1 pn).trans (h1.rest o x y).1, (h2.upd.frozen (p := ⟨pb, o, none⟩) hp1 pn).trans (h1.rest o x y).2⟩
  · intro o x y
    exact ⟨(h2.rest o x y).1.trans (h1.upd.cell (p := ⟨qb, o, none⟩) h.b.lt qn), (h2.rest o x y).2.trans (h1.upd.frozen (p := ⟨qb, o, none⟩) h.b.lt qn)⟩
  · rcases h2.own with c | c
    · exact .inl c
    · exact .inr fun i hi => Nat.le_trans h1.upd.size (c i hi)
end
/-- What a field does to the writers. -/
def lOp (l : List UInt8) (e : Int) (o : OpD) : List UInt8 × Int :=
  if o.doo = 1 then wNum l e o.n o.wd else if o.doo = 2 then wNum l e (i64n o.i) 8 else if o.doo = 3 then wNum l e o.fl.toNat 1 else if o.doo = 4 then wText l e o.b else if o.doo = 5 then wText l e o.b else if o.doo = 6 then wID l e o.d else (l, e)
def LayP (w w' : World) (pb po qb qo B : Nat) (v u : Value) (r : Ending) (q : List UInt8 × Int) : Prop :=
  r = .returned (.bool true) ∧ ∃ v' u', Tw w' pb po qb qo B q.1 q.2 v' u' ∧ TUpd w w' pb po qb qo v u v' u'
set_option maxRecDepth 100000 in
set_option maxHeartbeats 8000000 in
theorem lay_calls (pb po qb qo B : Nat) (o : OpD) (w : World) (v u : Value) (l : List UInt8) (e : Int) (h : Tw w pb po qb qo B l e v u) (hl : l.length ≤ 50000000000000) (hk : OpOk o) (hbn : o.b.length ≤ 1000000000000) (hy : Byt w o.ba o.b) (hyb : o.b ≠ [] → ∀ k, o.ba.map (·.block) = some k → k < B) :
    Calls Tryz.prog 4 #[.pointer (some ⟨pb, po, none⟩), .pointer (some ⟨qb, qo, none⟩), .agg (opv o)] w fun r w' => LayP w w' pb po qb qo B v u r (lOp l e o) := by
  obtain ⟨w1, hw1⟩ : ∃ q, w.alloc (.cells (opv o) 66) = q := ⟨_, rfl⟩
  have B1 : Below w.heap.size w w1 := by rw [← hw1]; exact (Below.refl _ w).alloc (Nat.le_refl _) _
  have T1 := Lib.hid (h.below B1)
  have Y1 := Lib.hid (hy.below B1)
  have hq := heap_alloc_new w (.cells (opv o) 66)
  rw [hw1] at hq
  have HW := Lib.hid hw1
  have e0 : w1.cell? ⟨w.heap.size, 0, none⟩ = some (.int .i64 o.doo) := by rw [cell_of_row' hq, opv_lo o 0 (by decide)]; rfl
  have e2 : w1.cell? ⟨w.heap.size, 2, none⟩ = some (.int .u64 o.n) := by rw [cell_of_row' hq, opv_lo o 2 (by decide)]; rfl
  have e3 : w1.cell? ⟨w.heap.size, 3, none⟩ = some (.int .i64 o.wd) := by rw [cell_of_row' hq, opv_lo o 3 (by decide)]; rfl
  have e4 : w1.cell? ⟨w.heap.size, 4, none⟩ = some (.int .i64 o.i) := by rw [cell_of_row' hq, opv_lo o 4 (by decide)]; rfl
  have e5 : w1.cell? ⟨w.heap.size, 5, none⟩ = some (.bool o.fl) := by rw [cell_of_row' hq, opv_lo o 5 (by decide)]; rfl
  have e6 : w1.cell? ⟨w.heap.size, 6, none⟩ = some (.slice o.ba o.b.length o.bc) := by rw [cell_of_row' hq, opv_lo o 6 (by decide)]; rfl
  have r7 : Hid (w1.rangeAt w.heap.size 7 (idv o.d).toList) := by
    intro j y hj
    rw [cell_of_row' hq, opv_hi]
    simpa using hj
  -- the box stands behind a call on the program's writer
  have KP := Lib.hid (fun (w0 w2 : World) (v2 : Value) (hb0 : Below w1.heap.size w1 w0) (hu : WUpd w0 w2 pb po v v2) (k : Nat) (y : Value) (hv : w1.cell? ⟨w.heap.size, k, none⟩ = some y) => show w2.cell? ⟨w.heap.size, k, none⟩ = some y from
    ((hu.upd.cell (p := ⟨w.heap.size, k, none⟩) (Nat.lt_of_lt_of_le (lt_of_block hq) hb0.size) (fun s => by
      have hp := h.a.lt
      rcases s with s | s
      · have s' : w.heap.size = pb := s; omega
      · have := (h.a.own.lt _ s).2; simp at this)).trans (hb0.cell (p := ⟨w.heap.size, k, none⟩) (lt_of_block hq))).trans hv)
  have KY := Lib.hid (fun (w0 w2 : World) (v2 : Value) (hb0 : Below w1.heap.size w1 w0) (hu : WUpd w0 w2 pb po v v2) => show Byt w2 o.ba o.b from
    (Y1.out.below hb0).upd hu.upd (fun ad ha hx s => by
      have hlt := hyb hx ad.block (by rw [ha]; rfl)
      rcases s with s | s
      · have := h.h1; omega
      · have := (h.a.own.lt _ s).1; omega))
  have KZ := Lib.hid (fun (w2 w3 : World) (u2 : Value) (hu : WUpd w2 w3 qb qo u u2) (hy2 : Byt w2 o.ba o.b) => show Byt w3 o.ba o.b from
    hy2.upd hu.upd (fun ad ha hx s => by
      have hlt := hyb hx ad.block (by rw [ha]; rfl)
      rcases s with s | s
      · have := h.h2; omega
      · have := (h.b.own.lt _ s).1; omega))
  have KU := Lib.hid (fun (hx : o.b ≠ []) k (hk : o.ba.map (·.block) = some k) => show k ≠ qb ∧ u.ownBlock ≠ some k from ⟨fun s => by have := hyb hx k hk; have := h.h2; omega, fun s => by have := hyb hx k hk; have := (h.b.own.lt k s).1; omega⟩)
  have FIN := Lib.hid (fun (w0 w2 w3 : World) (v2 u2 : Value) (q : List UInt8 × Int) (hb0 : Below w1.heap.size w1 w0) (a2 : Wri w2 pb po B q.1 q.2 v2) (hu2 : WUpd w0 w2 pb po v v2) (b3 : Wri w3 qb qo B q.1 q.2 u2) (hu3 : WUpd w2 w3 qb qo u u2) =>
    have hB := B1.trans (hb0.mono B1.size)
    have S := (h.below hB).step a2 hu2 b3 hu3
    show Tw w3 pb po qb qo B q.1 q.2 v2 u2 ∧ TUpd w w3 pb po qb qo v u v2 u2 from ⟨S.1, TUpd.front h hB S.2⟩)
  have MID := Lib.hid (fun (w0 w2 : World) (v2 : Value) (hb0 : Below w1.heap.size w1 w0) (hu : WUpd w0 w2 pb po v v2) => ((h.below B1).below hb0).mid hu)
  have LH := Lib.hid hl; have OK := Lib.hid hk; have BN := Lib.hid hbn
  have HH := Lib.hid h
  have BH := Lib.hid h.h1; have BQ := Lib.hid h.h2
  have R0 := Lib.hid (Below.refl w1.heap.size w1)
  have B1H := Lib.hid B1
  have SZ : Hid ((Tryz.prog.info? 64).map (·.size) = some (idv o.d).size) := by show _ = _; rw [idv_size, OK.out.dn]; kernel_rfl
  have NON : Hid (Tw w1 pb po qb qo B l e v u ∧ TUpd w w1 pb po qb qo v u v u) := ⟨T1.out, TUpd.ofBelow h B1⟩
  clear hw1 B1 hq h hl hk hbn hy hyb
  by_cases d1 : o.doo = 1
  · have t1 : (o.doo == 1) = true := beq_iff_eq.2 d1
    have D1 := Lib.hid d1; clear d1
    have EQ : Hid (lOp l e o = wNum l e o.n o.wd) := by show _ = _; unfold lOp; rw [if_pos D1.out]
    rw [EQ.out]
    obtain ⟨q, hq⟩ : ∃ q, wNum l e o.n o.wd = q := ⟨_, rfl⟩
    rw [hq]
    have HQ := Lib.hid hq; clear hq
    go_enter Tryz.func4, Tryz.ntmps4
    go_wp2_with (first | (with_reducible refine wpList_box_as (o := ⟨some 5, _, _, _, _, _⟩) rfl 66 (.tmp 2) rfl (opv o) rfl HW.out ?_))
    refine (Num_calls pb po B o.n o.wd w1 v l e T1.out.a BH.out (by have := LH.out; omega)).mono ?_
    rintro r w2 ⟨rfl, v2, ha2, hu2⟩
    rw [HQ.out] at ha2
    have A2 := Lib.hid ha2; have U2 := Lib.hid hu2; clear ha2 hu2
    have M2 := Lib.hid (MID.out w1 w2 v2 R0.out U2.out)
    have z2 := KP.out w1 w2 v2 R0.out U2.out 2 _ e2
    have z3 := KP.out w1 w2 v2 R0.out U2.out 3 _ e3
    go_wp2_with fail
    refine (RWNum_calls qb qo B o.n o.wd w2 u l e M2.out BQ.out (by have := LH.out; omega) OK.out.nn).mono ?_
    rintro r w3 ⟨rfl, u3, hb3, hu3⟩
    rw [HQ.out] at hb3
    have FI := Lib.hid (FIN.out w1 w2 w3 v2 u3 q R0.out A2.out U2.out hb3 hu3)
    clear hb3 hu3
    go_wp2
    go_ret
    exact ⟨rfl, v2, u3, FI.out.1, FI.out.2⟩
  have t1 : (o.doo == 1) = false := beq_eq_false_iff_ne.2 d1
  have D1 := Lib.hid d1; clear d1
  by_cases d2 : o.doo = 2
  · have t2 : (o.doo == 2) = true := beq_iff_eq.2 d2
    have D2 := Lib.hid d2; clear d2
    have EQ : Hid (lOp l e o = wNum l e (i64n o.i) 8) := by show _ = _; unfold lOp; rw [if_neg D1.out]; rw [if_pos D2.out]
    rw [EQ.out]
    obtain ⟨q, hq⟩ : ∃ q, wNum l e (i64n o.i) 8 = q := ⟨_, rfl⟩
    rw [hq]
    have HQ := Lib.hid hq; clear hq
    go_enter Tryz.func4, Tryz.ntmps4
    go_wp2_with (first | (with_reducible refine wpList_box_as (o := ⟨some 5, _, _, _, _, _⟩) rfl 66 (.tmp 2) rfl (opv o) rfl HW.out ?_))
    refine (Int_calls pb po B o.i w1 v l e T1.out.a BH.out (by have := LH.out; omega)).mono ?_
    rintro r w2 ⟨rfl, v2, ha2, hu2⟩
    rw [HQ.out] at ha2
    have A2 := Lib.hid ha2; have U2 := Lib.hid hu2; clear ha2 hu2
    have M2 := Lib.hid (MID.out w1 w2 v2 R0.out U2.out)
    have z4 := KP.out w1 w2 v2 R0.out U2.out 4 _ e4
    go_wp2_with fail
    refine (RWInt_calls qb qo B o.i w2 u l e M2.out BQ.out (by have := LH.out; omega)).mono ?_
    rintro r w3 ⟨rfl, u3, hb3, hu3⟩
    rw [HQ.out] at hb3
    have FI := Lib.hid (FIN.out w1 w2 w3 v2 u3 q R0.out A2.out U2.out hb3 hu3)
    clear hb3 hu3
    go_wp2
    go_ret
    exact ⟨rfl, v2, u3, FI.out.1, FI.out.2⟩
  have t2 : (o.doo == 2) = false := beq_eq_false_iff_ne.2 d2
  have D2 := Lib.hid d2; clear d2
  by_cases d3 : o.doo = 3
  · have t3 : (o.doo == 3) = true := beq_iff_eq.2 d3
    have D3 := Lib.hid d3; clear d3
    have EQ : Hid (lOp l e o = wNum l e o.fl.toNat 1) := by show _ = _; unfold lOp; rw [if_neg D1.out]; rw [if_neg D2.out]; rw [if_pos D3.out]
    rw [EQ.out]
    obtain ⟨q, hq⟩ : ∃ q, wNum l e o.fl.toNat 1 = q := ⟨_, rfl⟩
    rw [hq]
    have HQ := Lib.hid hq; clear hq
    go_enter Tryz.func4, Tryz.ntmps4
    go_wp2_with (first | (with_reducible refine wpList_box_as (o := ⟨some 5, _, _, _, _, _⟩) rfl 66 (.tmp 2) rfl (opv o) rfl HW.out ?_))
    refine (Flag_calls pb po B o.fl w1 v l e T1.out.a BH.out (by have := LH.out; omega)).mono ?_
    rintro r w2 ⟨rfl, v2, ha2, hu2⟩
    rw [HQ.out] at ha2
    have A2 := Lib.hid ha2; have U2 := Lib.hid hu2; clear ha2 hu2
    have M2 := Lib.hid (MID.out w1 w2 v2 R0.out U2.out)
    have z5 := KP.out w1 w2 v2 R0.out U2.out 5 _ e5
    go_wp2_with fail
    refine (RWFlag_calls qb qo B o.fl w2 u l e M2.out BQ.out (by have := LH.out; omega)).mono ?_
    rintro r w3 ⟨rfl, u3, hb3, hu3⟩
    rw [HQ.out] at hb3
    have FI := Lib.hid (FIN.out w1 w2 w3 v2 u3 q R0.out A2.out U2.out hb3 hu3)
    clear hb3 hu3
    go_wp2
    go_ret
    exact ⟨rfl, v2, u3, FI.out.1, FI.out.2⟩
  have t3 : (o.doo == 3) = false := beq_eq_false_iff_ne.2 d3
  have D3 := Lib.hid d3; clear d3
  by_cases d4 : o.doo = 4
  · have t4 : (o.doo == 4) = true := beq_iff_eq.2 d4
    have D4 := Lib.hid d4; clear d4
    have EQ : Hid (lOp l e o = wText l e o.b) := by show _ = _; unfold lOp; rw [if_neg D1.out]; rw [if_neg D2.out]; rw [if_neg D3.out]; rw [if_pos D4.out]
    rw [EQ.out]
    obtain ⟨q, hq⟩ : ∃ q, wText l e o.b = q := ⟨_, rfl⟩
    rw [hq]
    have HQ := Lib.hid hq; clear hq
    go_enter Tryz.func4, Tryz.ntmps4
    go_wp2_with (first | (with_reducible refine wpList_box_as (o := ⟨some 5, _, _, _, _, _⟩) rfl 66 (.tmp 2) rfl (opv o) rfl HW.out ?_))
    refine (Lend_calls o.ba o.bc o.b w1 Y1.out (by have := BN.out; omega)).mono ?_
    rintro r w0 ⟨g, cp, rfl, hlnt, hb0⟩
    have LN := Lib.hid hlnt; have B0 := Lib.hid hb0
    have GL := Lib.hid hlnt.lt
    clear hlnt hb0
    go_wp2_with fail
    refine (Bytes_calls pb po B (some ⟨g, 0, none⟩) cp o.b w0 v l e (T1.out.a.below B0.out) BH.out (by have := LH.out; omega) (by have := BN.out; omega) LN.out.byt).mono ?_
    rintro r w2 ⟨rfl, v2, ha2, hu2⟩
    rw [HQ.out] at ha2
    have A2 := Lib.hid ha2; have U2 := Lib.hid hu2; clear ha2 hu2
    have M2 := Lib.hid (MID.out w0 w2 v2 B0.out U2.out)
    have z6 := KP.out w0 w2 v2 B0.out U2.out 6 _ e6
    have Y2 := Lib.hid (KY.out w0 w2 v2 B0.out U2.out)
    have PL : Hid (pb < w1.heap.size ∧ qb < w1.heap.size ∧ (∀ k, v.ownBlock = some k → k < w1.heap.size) ∧ (∀ k, u.ownBlock = some k → k < w1.heap.size)) := ⟨T1.out.a.lt, T1.out.b.lt, fun k hk => (T1.out.a.own.lt k hk).2, fun k hk => (T1.out.b.own.lt k hk).2⟩
    have LN2 := Lib.hid (LN.out.upd U2.out.upd (fun s => by
      have hg := GL.out.1
      rcases s with s | s
      · have s' : g = pb := s; have := PL.out.1; omega
      · have := PL.out.2.2.1 g s; omega))
    go_wp2_with fail
    refine (RWBytes_calls qb qo B o.ba o.bc o.b w2 u l e M2.out BQ.out (by have := LH.out; omega) BN.out Y2.out KU.out).mono ?_
    rintro r w3 ⟨rfl, u3, hb3, hu3⟩
    rw [HQ.out] at hb3
    have FI := Lib.hid (FIN.out w0 w2 w3 v2 u3 q B0.out A2.out U2.out hb3 hu3)
    have Y3 := Lib.hid (KZ.out w2 w3 u3 hu3 Y2.out)
    have z6' : w3.cell? ⟨w.heap.size, 6, none⟩ = some (.slice o.ba o.b.length o.bc) := (hu3.upd.cell (p := ⟨w.heap.size, 6, none⟩) (World.block_lt_of_cell? w2 _ z6) (fun s => by
      rcases s with s | s
      · have s' : w.heap.size = qb := s; have := HH.out.b.lt; omega
      · have := (HH.out.b.own.lt _ s).2; simp at this)).trans z6
    have LN3 := Lib.hid (LN2.out.upd hu3.upd (fun s => by
      have hg := GL.out.1
      rcases s with s | s
      · have s' : g = qb := s; have := PL.out.2.1; omega
      · have := PL.out.2.2.2 g s; omega))
    have VG : Hid (v2.ownBlock ≠ some g) := fun s => by
      have hg := GL.out
      rcases U2.out.own with c | c
      · rw [c] at s; have := PL.out.2.2.1 g s; omega
      · have := c g s; omega
    have UG : Hid (u3.ownBlock ≠ some g) := fun s => by
      have hg := GL.out
      rcases hu3.own with c | c
      · rw [c] at s; have := PL.out.2.2.2 g s; omega
      · have := c g s; have := U2.out.upd.size; omega
    clear hb3 hu3 z6
    go_wp2_with fail
    refine (Intact_calls w1.heap.size g cp o.b o.ba o.bc w3 LN3.out Y3.out (by have := BN.out; omega)).mono ?_
    rintro r w4 ⟨n4, rfl, rfl⟩
    go_wp2_with fail
    refine (Over_calls w1.heap.size g cp o.b (w3.drewN n4) LN3.out (by have := BN.out; omega)).mono ?_
    rintro r w5 ⟨rfl, hu5⟩
    have U5 : Hid (Upd (fun k => k = g) w3 w5) := ⟨hu5.os, hu5.tape, hu5.output, hu5.size, hu5.block⟩
    have FB := Lib.hid (FI.out.1.back FI.out.2 U5.out (by have := GL.out.1; have := B1H.out.size; omega) HH.out.a.lt HH.out.b.lt VG.out UG.out)
    clear hu5
    go_wp2
    go_ret
    exact ⟨rfl, v2, u3, FB.out.1, FB.out.2⟩
  have t4 : (o.doo == 4) = false := beq_eq_false_iff_ne.2 d4
  have D4 := Lib.hid d4; clear d4
  by_cases d5 : o.doo = 5
  · have t5 : (o.doo == 5) = true := beq_iff_eq.2 d5
    have D5 := Lib.hid d5; clear d5
    have EQ : Hid (lOp l e o = wText l e o.b) := by show _ = _; unfold lOp; rw [if_neg D1.out]; rw [if_neg D2.out]; rw [if_neg D3.out]; rw [if_neg D4.out]; rw [if_pos D5.out]
    rw [EQ.out]
    obtain ⟨q, hq⟩ : ∃ q, wText l e o.b = q := ⟨_, rfl⟩
    rw [hq]
    have HQ := Lib.hid hq; clear hq
    go_enter Tryz.func4, Tryz.ntmps4
    have x1 : (convert 23 9 (.slice o.ba o.b.length o.bc)).run Tryz.prog w1 = .ok (.string ⟨o.b.toArray⟩) w1 := conv_bytes Tryz.underlying23 Tryz.underlying5 Tryz.underlying9 Y1.out
    go_wp2_with (first | (with_reducible refine wpList_box_as (o := ⟨some 5, _, _, _, _, _⟩) rfl 66 (.tmp 2) rfl (opv o) rfl HW.out ?_))
    refine (Text_calls pb po B ⟨o.b.toArray⟩ w1 v l e T1.out.a BH.out (by have := LH.out; omega) (by show o.b.toArray.size ≤ _; rw [List.size_toArray]; have := BN.out; omega)).mono ?_
    rintro r w2 ⟨rfl, v2, ha2, hu2⟩
    rw [show (⟨o.b.toArray⟩ : ByteArray).data.toList = o.b from rfl] at ha2
    rw [HQ.out] at ha2
    have A2 := Lib.hid ha2; have U2 := Lib.hid hu2; clear ha2 hu2
    have M2 := Lib.hid (MID.out w1 w2 v2 R0.out U2.out)
    have z6 := KP.out w1 w2 v2 R0.out U2.out 6 _ e6
    clear x1
    have x2 : (convert 23 9 (.slice o.ba o.b.length o.bc)).run Tryz.prog w2 = .ok (.string ⟨o.b.toArray⟩) w2 := conv_bytes Tryz.underlying23 Tryz.underlying5 Tryz.underlying9 (KY.out w1 w2 v2 R0.out U2.out)
    go_wp2_with fail
    refine (RWText_calls qb qo B o.b w2 u l e M2.out BQ.out (by have := LH.out; omega) BN.out).mono ?_
    rintro r w3 ⟨rfl, u3, hb3, hu3⟩
    rw [HQ.out] at hb3
    have FI := Lib.hid (FIN.out w1 w2 w3 v2 u3 q R0.out A2.out U2.out hb3 hu3)
    clear hb3 hu3
    clear x2
    go_wp2
    go_ret
    exact ⟨rfl, v2, u3, FI.out.1, FI.out.2⟩
  have t5 : (o.doo == 5) = false := beq_eq_false_iff_ne.2 d5
  have D5 := Lib.hid d5; clear d5
  by_cases d6 : o.doo = 6
  · have t6 : (o.doo == 6) = true := beq_iff_eq.2 d6
    have D6 := Lib.hid d6; clear d6
    have EQ : Hid (lOp l e o = wID l e o.d) := by show _ = _; unfold lOp; rw [if_neg D1.out]; rw [if_neg D2.out]; rw [if_neg D3.out]; rw [if_neg D4.out]; rw [if_neg D5.out]; rw [if_pos D6.out]
    rw [EQ.out]
    obtain ⟨q, hq⟩ : ∃ q, wID l e o.d = q := ⟨_, rfl⟩
    rw [hq]
    have HQ := Lib.hid hq; clear hq
    go_enter Tryz.func4, Tryz.ntmps4
    go_wp2_with (first | (with_reducible refine wpList_box_as (o := ⟨some 5, _, _, _, _, _⟩) rfl 66 (.tmp 2) rfl (opv o) rfl HW.out ?_) | (with_reducible refine wpList_load_arr (op := ⟨some 80, _, _, _, _, _⟩) rfl 64 (.tmp 79) rfl w.heap.size 7 rfl (idv o.d) _ r7.out Tryz.underlying64 rfl SZ.out ?_))
    refine (ID_calls pb po B o.d OK.out.dn w1 v l e T1.out.a BH.out (by have := LH.out; omega)).mono ?_
    rintro r w2 ⟨rfl, v2, ha2, hu2⟩
    rw [HQ.out] at ha2
    have A2 := Lib.hid ha2; have U2 := Lib.hid hu2; clear ha2 hu2
    have M2 := Lib.hid (MID.out w1 w2 v2 R0.out U2.out)
    have r8 : Hid (w2.rangeAt w.heap.size 7 (idv o.d).toList) := fun j y hj => KP.out w1 w2 v2 R0.out U2.out (7 + j) y (r7.out j y hj)
    go_wp2_with (first | (with_reducible refine wpList_load_arr (op := ⟨some 84, _, _, _, _, _⟩) rfl 64 (.tmp 83) rfl w.heap.size 7 rfl (idv o.d) _ r8.out Tryz.underlying64 rfl SZ.out ?_))
    refine (RWID_calls qb qo B o.d OK.out.dn w2 u l e M2.out BQ.out (by have := LH.out; omega)).mono ?_
    rintro r w3 ⟨rfl, u3, hb3, hu3⟩
    rw [HQ.out] at hb3
    have FI := Lib.hid (FIN.out w1 w2 w3 v2 u3 q R0.out A2.out U2.out hb3 hu3)
    clear hb3 hu3
    go_wp2
    go_ret
    exact ⟨rfl, v2, u3, FI.out.1, FI.out.2⟩
  have t6 : (o.doo == 6) = false := beq_eq_false_iff_ne.2 d6
  have D6 := Lib.hid d6; clear d6
  have EQ : Hid (lOp l e o = (l, e)) := by show _ = _; unfold lOp; rw [if_neg D1.out]; rw [if_neg D2.out]; rw [if_neg D3.out]; rw [if_neg D4.out]; rw [if_neg D5.out]; rw [if_neg D6.out]
  rw [EQ.out]
  go_enter Tryz.func4, Tryz.ntmps4
  go_wp2_with (first | (with_reducible refine wpList_box_as (o := ⟨some 5, _, _, _, _, _⟩) rfl 66 (.tmp 2) rfl (opv o) rfl HW.out ?_))
  go_ret
  exact ⟨rfl, v, u, NON.out.1, NON.out.2⟩
end Go.Proofs.YtjiciklnhcmfaaaGreatDoor
