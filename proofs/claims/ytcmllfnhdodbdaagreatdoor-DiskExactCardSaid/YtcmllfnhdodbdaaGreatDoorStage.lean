/- posternlaw9: the stage: two disks, the program's and the document's; put, fresh. -/
import Derived.Test.YtcmllfnhdodbdaaGreatDoorLendF
import Derived.Test.YtcmllfnhdodbdaaGreatDoorWorks9
import Derived.Test.YtcmllfnhdodbdaaGreatDoorBook6
namespace Go.Proofs.YtcmllfnhdodbdaaGreatDoor
set_option linter.unusedVariables false
set_option linter.unusedSimpArgs false
open Go.RowKit Go.Maps
def kz (k : Bool) : Int := if k = true then 1 else 0
def kn (k : Bool) : Nat := if k = true then 1 else 0
def stc (d0 d1 r0 r1 : Value) (bb ab : Nat) (turn spent : Int) : Array Value := #[d0, d1, r0, r1, .bool false, .pointer (some ⟨bb, 0, none⟩), .pointer (some ⟨ab, 0, none⟩), .int .i64 turn, .int .i64 spent]
set_option maxRecDepth 100000 in
set_option maxHeartbeats 1000000 in
theorem put_calls (sb : Nat) (d0 d1 r0 r1 : Value) (bb ab : Nat) (turn spent : Int) (k : Bool) (db rb : Nat) (e : Int) (w : World) (h : w.heap[sb]? = some (.cells (stc d0 d1 r0 r1 bb ab turn spent) 130 (0, 0))) :
    Calls Tryz.prog 60 #[.pointer (some ⟨sb, 0, none⟩), .int .i64 (kz k), .pointer (some ⟨db, 0, none⟩), .int .i64 e, .pointer (some ⟨rb, 0, none⟩), .int .i64 e] w fun r w' => r = .returned (.bool true) ∧ w' = (w.setCell ⟨sb, kn k, none⟩ (.pointer (some ⟨db, 0, none⟩))).setCell ⟨sb, 2 + kn k, none⟩ (.pointer (some ⟨rb, 0, none⟩)) := by
  have q0 : w.cell? ⟨sb, 0, none⟩ = some d0 := by rw [cell_of_row' h]; rfl
  have q1 : w.cell? ⟨sb, 1, none⟩ = some d1 := by rw [cell_of_row' h]; rfl
  have q2 : w.cell? ⟨sb, 2, none⟩ = some r0 := by rw [cell_of_row' h]; rfl
  have q3 : w.cell? ⟨sb, 3, none⟩ = some r1 := by rw [cell_of_row' h]; rfl
  have f0 := frozen_of_row h 0
  have f1 := frozen_of_row h 1
  have f2 := frozen_of_row h 2
  have f3 := frozen_of_row h 3
  have te : (e != e) = false := by simp
  clear h
  go_enter Tryz.func60, Tryz.ntmps60
  cases k with
  | false =>
    simp only [kz, kn, if_false, Bool.false_eq_true]
    go_wp2_with (go_at_call 9; refine (num9_calls _ _).mono ?_; rintro r wx ⟨rfl, rfl⟩)
    go_ret
    exact ⟨rfl, rfl⟩
  | true =>
    simp only [kz, kn, if_true]
    go_wp2_with (go_at_call 9; refine (num9_calls _ _).mono ?_; rintro r wx ⟨rfl, rfl⟩)
    go_ret
    exact ⟨rfl, rfl⟩
set_option maxRecDepth 100000 in
set_option maxHeartbeats 1000000 in
theorem putNil_calls (sb : Nat) (k : Bool) (e : Int) (w : World) :
    Calls Tryz.prog 60 #[.pointer (some ⟨sb, 0, none⟩), .int .i64 (kz k), .pointer none, .int .i64 e, .pointer none, .int .i64 e] w fun r w' => r = .returned (.bool true) ∧ w = w' := by
  have te : (e != e) = false := by simp
  obtain ⟨kk, hk⟩ : ∃ q, kz k = q := ⟨_, rfl⟩
  rw [hk]
  clear hk
  go_enter Tryz.func60, Tryz.ntmps60
  go_wp2_with (go_at_call 9; refine (num9_calls _ _).mono ?_; rintro r wx ⟨rfl, rfl⟩)
  go_ret
  exact ⟨rfl, rfl⟩
theorem DkS.mono9 {w : World} {B B' db : Nat} {F : Nat → Prop} {s : DS} (h : DkS w B db F s) (hb : B' ≤ B) : DkS w B' db F s := by
  obtain ⟨⟨mb, L, D, ⟨k1, k2, k3⟩, hr, hok, hF⟩, h2, h3⟩ := h
  exact ⟨⟨mb, L, D, ⟨k1, Nat.le_trans hb k2, ⟨k3.map, Nat.le_trans hb k3.bge, k3.has, k3.get, k3.size, k3.nd, fun f hf => (k3.own f hf).mono hb, k3.sep⟩⟩, hr, hok, hF⟩, fun i hi => ⟨Nat.le_trans hb (h2 i hi).1, (h2 i hi).2⟩, Nat.le_trans hb h3⟩
/-- The program's disk and the document's, alike. -/
structure StD (w : World) (B db rb : Nat) (F G : Nat → Prop) (s : DS) : Prop where
  d : DkS w B db F s
  r : RfS w B rb G s
  dj : ∀ i, F i → ¬ G i
/-- What a put leaves where a Load was made of both. -/
def PutP (w w' : World) (sb : Nat) (k : Bool) (room : Int) (l : Con) : Prop :=
  match (loadR room l).2 with
  | none => Below w.heap.size w w'
  | some s => ∃ w1 db rb F G, Below w.heap.size w w1 ∧ StD w1 w.heap.size db rb F G s ∧ w' = (w1.setCell ⟨sb, kn k, none⟩ (.pointer (some ⟨db, 0, none⟩))).setCell ⟨sb, 2 + kn k, none⟩ (.pointer (some ⟨rb, 0, none⟩))
set_option maxRecDepth 100000 in
set_option maxHeartbeats 1000000 in
theorem fresh_calls (room : Int) (sb : Nat) (d0 d1 r0 r1 : Value) (bb ab : Nat) (turn spent : Int) (k : Bool) (w : World) (h : w.heap[sb]? = some (.cells (stc d0 d1 r0 r1 bb ab turn spent) 130 (0, 0))) :
    Calls Tryz.prog 41 #[.pointer (some ⟨sb, 0, none⟩), .int .i64 (kz k), .int .i64 room] w fun r w' => r = .returned (.bool true) ∧ PutP w w' sb k room [] := by
  have NC := Lib.hid (NewK_calls room w)
  have H := Lib.hid h
  clear h
  obtain ⟨kk, hk⟩ : ∃ q, kz k = q := ⟨_, rfl⟩
  have KH := Lib.hid hk
  rw [hk]
  clear hk
  go_enter Tryz.func41, Tryz.ntmps41
  go_wp2_with fail
  refine NC.out.mono ?_
  rintro r w1 hr
  have RC := Lib.hid (New9_calls room w1)
  unfold LoadP at hr
  obtain ⟨q, hq⟩ : ∃ q, loadR room [] = q := ⟨_, rfl⟩
  rw [hq] at hr
  have HQ := Lib.hid hq
  clear hq NC
  obtain ⟨e, o⟩ := q
  cases o with
  | none =>
    obtain ⟨rfl, hb⟩ := hr
    have HB := Lib.hid hb
    clear hb
    go_wp2_with fail
    refine RC.out.mono ?_
    rintro r w2 hr
    unfold Load9P at hr
    rw [HQ.out] at hr
    obtain ⟨rfl, hb⟩ := hr
    have HB2 := Lib.hid (HB.out.trans (hb.mono HB.out.size))
    have PC := Lib.hid (putNil_calls sb k e w2)
    rw [KH.out] at PC
    clear hb RC
    go_wp2_with fail
    refine PC.out.mono ?_
    rintro r w3 ⟨rfl, rfl⟩
    go_wp2
    go_ret
    refine ⟨rfl, ?_⟩
    unfold PutP
    rw [HQ.out]
    exact HB2.out
  | some s =>
    obtain ⟨db, rfl, d1', hb⟩ := hr
    have HB := Lib.hid hb
    have D1 : Hid (DkS w1 w.heap.size db (fun i => (w.heap.size ≤ i) ∧ w.heap.size ≤ i ∧ i < w1.heap.size) s) := ⟨d1'.cut, fun i hi => hi.2, hb.size⟩
    clear hb d1'
    go_wp2_with fail
    refine RC.out.mono ?_
    rintro r w2 hr
    unfold Load9P at hr
    rw [HQ.out] at hr
    obtain ⟨rb, G, rfl, r2, hb⟩ := hr
    have HB2 := Lib.hid (HB.out.trans (hb.mono HB.out.size))
    have SD : Hid (StD w2 w.heap.size db rb (fun i => (w.heap.size ≤ i) ∧ w.heap.size ≤ i ∧ i < w1.heap.size) G s) :=
      ⟨D1.out.below hb, ⟨r2.st, r2.ok, r2.at_, fun i hi => ⟨Nat.le_trans HB.out.size (r2.fl i hi).1, (r2.fl i hi).2⟩, HB2.out.size⟩, fun i h1 h2 => by have := (r2.fl i h2).1; omega⟩
    have PC := Lib.hid (put_calls sb d0 d1 r0 r1 bb ab turn spent k db rb e w2 ((HB2.out.block _ (lt_of_block H.out)).trans H.out))
    rw [KH.out] at PC
    clear hb r2 RC
    go_wp2_with fail
    refine PC.out.mono ?_
    rintro r w3 ⟨rfl, rfl⟩
    go_wp2
    go_ret
    refine ⟨rfl, ?_⟩
    unfold PutP
    rw [HQ.out]
    exact ⟨w2, db, rb, _, G, HB2.out, SD.out, rfl⟩
theorem LntF.fil {w : World} {B g c n : Nat} {M : List Fl} (h : LntF w B (.slice (some ⟨g, 0, none⟩) (n + 9) c) n 9 M) : Fil w (some ⟨g, 0, none⟩) (conF M) := by
  intro i hi
  have hi' : i < M.length := by simpa [conF] using hi
  have hg : (conF M)[i] = (M[i].nm, M[i].by_) := by simp [conF]
  have hn := h.len
  have hiN : i < (M ++ List.replicate 9 fmark).length := by rw [List.length_append]; omega
  have y0 := (h.own.cellAt (i * 2) (by omega)).trans (fcells_get hiN).1
  have y1 := (h.own.cellAt (i * 2 + 1) (by omega)).trans (fcells_get hiN).2
  have eM : (M ++ List.replicate 9 fmark)[i] = M[i] := List.getElem_append_left hi'
  rw [eM] at y0 y1
  obtain ⟨gi, q1, q2, -⟩ := h.bs.byt i hi'
  rw [hg]
  refine ⟨g, 0, M[i].a, M[i].c, rfl, by rw [Nat.zero_add]; exact y0, by rw [Nat.zero_add]; exact y1, by have h9 := q2.cap; show (M[i]).by_.length ≤ (M[i]).c; omega, by rw [q1]; exact q2.byt⟩
theorem LntF.lts {w : World} {B g c n : Nat} {M : List Fl} (h : LntF w B (.slice (some ⟨g, 0, none⟩) (n + 9) c) n 9 M) : g < w.heap.size ∧ ∀ i (hi : i < M.length) gi, (M[i]).a = some ⟨gi, 0, none⟩ → gi < w.heap.size := by
  refine ⟨(h.own.lt g rfl).2, fun i hi gi e => ?_⟩
  obtain ⟨g', q1, q2, -⟩ := h.bs.byt i hi
  rw [q1] at e
  have e' : g' = gi := by simpa using e
  rw [← e']
  exact q2.lt.2
set_option maxRecDepth 100000 in
set_option maxHeartbeats 2000000 in
theorem load9s_calls (room : Int) (C : Con) (a : Option Addr) (cap sb : Nat) (d0 d1 r0 r1 : Value) (bb ab : Nat) (turn spent : Int) (k : Bool) (w : World) (hf : Fil w a C) (hL : C.length ≤ 100000000000) (hsz : ∀ p ∈ C, p.1.length ≤ 140737488351232 ∧ p.2.length ≤ 100000000000000) (h : w.heap[sb]? = some (.cells (stc d0 d1 r0 r1 bb ab turn spent) 130 (0, 0))) :
    Calls Tryz.prog 71 #[.pointer (some ⟨sb, 0, none⟩), .int .i64 (kz k), .slice a C.length cap, .int .i64 room] w fun r w' => r = .returned (.bool true) ∧ PutP w w' sb k room C := by
  have LC := Lib.hid (LendFiles_calls C a cap w hf hL (fun p hp => (hsz p hp).2))
  have H := Lib.hid h; have HF := Lib.hid hf; have SZ := Lib.hid hsz
  clear h hf hsz
  obtain ⟨kk, hk⟩ : ∃ q, kz k = q := ⟨_, rfl⟩
  have KH := Lib.hid hk
  rw [hk]
  clear hk
  go_enter Tryz.func71, Tryz.ntmps71
  go_wp2_with fail
  refine LC.out.mono ?_
  rintro r w1 ⟨g, c, M, rfl, hM, hl, hc, b1⟩
  have LF := Lib.hid hl; have HM := Lib.hid hM; have B1 := Lib.hid b1; have HC := Lib.hid hc
  have DC0 := Load_calls room (conF M) (some ⟨g, 0, none⟩) c w1 hl.fil (fun p hp => by rw [hM] at hp; have := SZ.out p hp; omega) (by rw [hM]; omega)
  rw [hM] at DC0
  have DC := Lib.hid DC0
  clear hl hM b1 hc DC0 LC
  go_wp2_with fail
  refine DC.out.mono ?_
  rintro r w2 hr
  unfold LoadP at hr
  obtain ⟨q, hq⟩ : ∃ q, loadR room C = q := ⟨_, rfl⟩
  rw [hq] at hr
  have HQ := Lib.hid hq
  clear hq DC
  obtain ⟨e, o⟩ := q
  cases o with
  | none =>
    obtain ⟨rfl, hb⟩ := hr
    have B2 := Lib.hid hb
    have FW2 := HF.out.below (B1.out.trans (hb.mono B1.out.size))
    have BC := Lib.hid (BackFiles_calls C a cap g c w.heap.size M w2 FW2 HM.out (LF.out.below hb) HC.out hL (fun p hp => (SZ.out p hp).2))
    clear hb FW2
    go_wp2_with fail
    refine BC.out.mono ?_
    rintro r w3 ⟨rfl, b3⟩
    have OC := Lib.hid (OverFiles_calls C.length g c w.heap.size M w3 ((LF.out.below B2.out).below b3) hL (fun f hf => by
      have hp : (f.nm, f.by_) ∈ C := by rw [← HM.out]; exact List.mem_map.2 ⟨f, hf, rfl⟩
      exact (SZ.out _ hp).2) w1.heap.size LF.out.lts)
    have B3 := Lib.hid b3
    clear b3 BC
    go_wp2_with fail
    refine OC.out.mono ?_
    rintro r w4 ⟨rfl, u4⟩
    have BW3 : Below w.heap.size w w3 := B1.out.trans ((B2.out.trans (B3.out.mono B2.out.size)).mono B1.out.size)
    have U4 : Hid (Upd (fun i => w.heap.size ≤ i) w w4) := ((Upd.ofBelow BW3).mono (fun _ s _ => s.elim)).same (u4.mono (fun i s _ => s.1))
    have BW4 : Hid (Below w.heap.size w w4) := U4.out.below (fun i s _ => s) (Nat.le_refl _)
    have RC := Lib.hid (Load9_calls room C a cap w4 (HF.out.upd U4.out (fun i s => s)) (fun p hp => by have := SZ.out p hp; omega) (by omega))
    clear u4 BW3 OC
    go_wp2_with fail
    refine RC.out.mono ?_
    rintro r w5 hr
    unfold Load9P at hr
    rw [HQ.out] at hr
    obtain ⟨rfl, hb⟩ := hr
    have B5 := Lib.hid (BW4.out.trans (hb.mono BW4.out.size))
    have PC := Lib.hid (putNil_calls sb k e w5)
    rw [KH.out] at PC
    clear hb RC
    go_wp2_with fail
    refine PC.out.mono ?_
    rintro r w6 ⟨rfl, rfl⟩
    go_wp2
    go_ret
    refine ⟨rfl, ?_⟩
    unfold PutP
    rw [HQ.out]
    exact B5.out
  | some s =>
    obtain ⟨db, rfl, d2, hb⟩ := hr
    have B2 := Lib.hid hb
    have D2 : Hid (DkS w2 w1.heap.size db (fun i => (w1.heap.size ≤ i) ∧ w1.heap.size ≤ i ∧ i < w2.heap.size) s) := ⟨d2.cut, fun i hi => hi.2, hb.size⟩
    have FW2 := HF.out.below (B1.out.trans (hb.mono B1.out.size))
    have BC := Lib.hid (BackFiles_calls C a cap g c w.heap.size M w2 FW2 HM.out (LF.out.below hb) HC.out hL (fun p hp => (SZ.out p hp).2))
    clear hb FW2 d2
    go_wp2_with fail
    refine BC.out.mono ?_
    rintro r w3 ⟨rfl, b3⟩
    have OC := Lib.hid (OverFiles_calls C.length g c w.heap.size M w3 ((LF.out.below B2.out).below b3) hL (fun f hf => by
      have hp : (f.nm, f.by_) ∈ C := by rw [← HM.out]; exact List.mem_map.2 ⟨f, hf, rfl⟩
      exact (SZ.out _ hp).2) w1.heap.size LF.out.lts)
    have B3 := Lib.hid b3
    clear b3 BC
    go_wp2_with fail
    refine OC.out.mono ?_
    rintro r w4 ⟨rfl, u4⟩
    have BW3 : Below w.heap.size w w3 := B1.out.trans ((B2.out.trans (B3.out.mono B2.out.size)).mono B1.out.size)
    have U4 : Hid (Upd (fun i => w.heap.size ≤ i) w w4) := ((Upd.ofBelow BW3).mono (fun _ s _ => s.elim)).same (u4.mono (fun i s _ => s.1))
    have BW4 : Hid (Below w.heap.size w w4) := U4.out.below (fun i s _ => s) (Nat.le_refl _)
    have D4 := Lib.hid ((D2.out.below B3.out).upd u4 (fun i s hf => by have := hf.1; have := s.2; omega))
    have RC := Lib.hid (Load9_calls room C a cap w4 (HF.out.upd U4.out (fun i s => s)) (fun p hp => by have := SZ.out p hp; omega) (by omega))
    have S24 : Hid (w2.heap.size ≤ w4.heap.size) := Nat.le_trans B3.out.size u4.size
    clear u4 BW3 OC
    go_wp2_with fail
    refine RC.out.mono ?_
    rintro r w5 hr
    unfold Load9P at hr
    rw [HQ.out] at hr
    obtain ⟨rb, G, rfl, r5, hb⟩ := hr
    have B5 := Lib.hid (BW4.out.trans (hb.mono BW4.out.size))
    have SD : Hid (StD w5 w.heap.size db rb (fun i => (w1.heap.size ≤ i) ∧ w1.heap.size ≤ i ∧ i < w2.heap.size) G s) :=
      ⟨(D4.out.below hb).mono9 B1.out.size, ⟨r5.st, r5.ok, r5.at_, fun i hi => ⟨Nat.le_trans BW4.out.size (r5.fl i hi).1, (r5.fl i hi).2⟩, B5.out.size⟩, fun i h1 h2 => by have := (r5.fl i h2).1; have := S24.out; omega⟩
    have PC := Lib.hid (put_calls sb d0 d1 r0 r1 bb ab turn spent k db rb e w5 ((B5.out.block _ (lt_of_block H.out)).trans H.out))
    rw [KH.out] at PC
    clear hb r5 RC
    go_wp2_with fail
    refine PC.out.mono ?_
    rintro r w6 ⟨rfl, rfl⟩
    go_wp2
    go_ret
    refine ⟨rfl, ?_⟩
    unfold PutP
    rw [HQ.out]
    exact ⟨w5, db, rb, _, G, B5.out, SD.out, rfl⟩
end Go.Proofs.YtcmllfnhdodbdaaGreatDoor
