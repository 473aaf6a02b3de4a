/- posternlaw9.DiskTorn. -/
import Derived.Test.YtcmllfnhdodbdaaGreatDoorGoes2
import Derived.Test.YtcmllfnhdodbdaaGreatDoorLong
import Derived.Test.YtcmllfnhdodbdaaGreatDoorHolds
import Derived.Deep.CutBlock
import Derived.Deep.DeepCutAuto
import Derived.BigQuiet
import Derived.Deep.RegionHeld3
namespace Go.Proofs.YtcmllfnhdodbdaaGreatDoor
set_option linter.unusedVariables false
set_option linter.unusedSimpArgs false
open Go.RowKit Go.Maps
/-- A write at two disks alike, one of them armed: both answer alike, or it is torn. -/
theorem dtw {s : DS} {nm tn b : List UInt8} {d n k keep : Int} (h : Calm s) (ho : s.ok) (hk : 0 < k) (hd : (doD s d nm tn b n).2.1 = true) :
    (∃ k', 0 < k' ∧ k' + ((doD s d nm tn b n).2.2.writes : Int) = k + s.writes ∧ doD (s.tw k keep) d nm tn b n = ((doD s d nm tn b n).1, true, (doD s d nm tn b n).2.2.tw k' keep)) ∨
    (k = 1 ∧ (doD s d nm tn b n).1 = 0 ∧ ∃ C', doD (s.tw k keep) d nm tn b n = (94, true, { s.wr.dark keep with C := C' }) ∧ KeptP s.C (doD s d nm tn b n).2.2.C C' d nm b keep) := by
  by_cases c : 1 < k
  · left
    obtain ⟨k', h1, h2, h3⟩ := doD_tw (d := d) (nm := nm) (tn := tn) (b := b) (n := n) h (keep := keep) c
    exact ⟨k', h1, h2, by rw [h3, hd]⟩
  · have e : k = 1 := by omega
    subst e
    have hd' : d = 1 ∨ d = 2 ∨ d = 3 ∨ d = 4 := by
      rw [doD_is] at hd
      exact of_decide_eq_true hd
    rcases doD_tw1 (nm := nm) (tn := tn) (b := b) (n := n) h ho (keep := keep) hd' with ⟨h1, h2⟩ | ⟨h1, C', h2, h3⟩
    · left
      have hr := doD_ref h h1
      exact ⟨1, by omega, by rw [hr], by rw [h2, hr]⟩
    · exact .inr ⟨rfl, h1, C', h2, h3⟩
/-- Two disks, what stood ahead of a write, the op. -/
structure TnP (w0 wr : World) (da db Bb : Nat) (sa sb : DS) (Fa Fb : Nat → Prop) (ob Bd Be : Nat) (cs : Array Value) (a7 : Option Addr) (C : Con) : Prop where
  pr : Pair wr w0.heap.size Bb da db Fa Fb sa sb
  fil : FilZ wr Bd Be a7 C
  blk : wr.heap[ob]? = some (.cells cs 36 (0, 0))
  bel : Below w0.heap.size w0 wr
  fa : ∀ k, Fa k → (k < Bd ∨ Be ≤ k) ∧ k ≠ ob
  fb : ∀ k, Fb k → (k < Bd ∨ Be ≤ k) ∧ k ≠ ob
  be : Be ≤ wr.heap.size
  bb : w0.heap.size ≤ Bb
section
variable {w0 wr w' : World} {da db Bb ob Bd Be : Nat} {sa sb t : DS} {Fa Fb : Nat → Prop} {cs : Array Value} {a7 : Option Addr} {C : Con}
theorem TnP.stepA (h : TnP w0 wr da db Bb sa sb Fa Fb ob Bd Be cs a7 C) (hs : DkStep wr w' w0.heap.size da Fa t) : ∃ F', TnP w0 w' da db Bb t sb F' Fb ob Bd Be cs a7 C := by
  obtain ⟨F', h1, h2, h3, h4⟩ := h.pr.step hs
  have ho := lt_of_block h.blk
  exact ⟨F', h1, h.fil.upd h2 (fun k hk => (h.fa k hk).1), (h2.block _ ho (fun e => (h.fa _ e).2 rfl)).trans h.blk, h.bel.trans h3, fun k hk => (h4 k hk).elim (h.fa k) (fun h9 => ⟨.inr (Nat.le_trans h.be h9), by omega⟩), h.fb, Nat.le_trans h.be h2.size, h.bb⟩
theorem TnP.stepB (h : TnP w0 wr da db Bb sa sb Fa Fb ob Bd Be cs a7 C) (hs : DkStep wr w' Bb db Fb t) : ∃ F', TnP w0 w' da db Bb sa t Fa F' ob Bd Be cs a7 C := by
  obtain ⟨F', h1, h2, h3, h4⟩ := h.pr.symm.step hs
  have ho := lt_of_block h.blk
  exact ⟨F', h1.symm, h.fil.upd h2 (fun k hk => (h.fb k hk).1), (h2.block _ ho (fun e => (h.fb _ e).2 rfl)).trans h.blk, h.bel.trans (h3.mono h.bb), h.fa, fun k hk => (h4 k hk).elim (h.fb k) (fun h9 => ⟨.inr (Nat.le_trans h.be h9), by omega⟩), Nat.le_trans h.be h2.size, h.bb⟩
theorem TnP.readA (h : TnP w0 wr da db Bb sa sb Fa Fb ob Bd Be cs a7 C) (hd : DkS w' w0.heap.size da Fa sa) (hu : Upd (fun i => i = da) wr w') : TnP w0 w' da db Bb sa sb Fa Fb ob Bd Be cs a7 C := by
  have hu' : Upd Fa wr w' := hu.mono (fun i hi _ => by rw [hi]; exact h.pr.d1.dk.at_)
  exact ⟨h.pr.read hd hu, h.fil.upd hu' (fun k hk => (h.fa k hk).1), (hu'.block _ (lt_of_block h.blk) (fun e => (h.fa _ e).2 rfl)).trans h.blk, h.bel.trans (hu'.below (fun k hk _ => (h.pr.d1.fl k hk).1) h.pr.d1.bw), h.fa, h.fb, Nat.le_trans h.be hu.size, h.bb⟩
theorem TnP.readB (h : TnP w0 wr da db Bb sa sb Fa Fb ob Bd Be cs a7 C) (hd : DkS w' Bb db Fb sb) (hu : Upd (fun i => i = db) wr w') : TnP w0 w' da db Bb sa sb Fa Fb ob Bd Be cs a7 C := by
  have hu' : Upd Fb wr w' := hu.mono (fun i hi _ => by rw [hi]; exact h.pr.d2.dk.at_)
  exact ⟨(h.pr.symm.read hd hu).symm, h.fil.upd hu' (fun k hk => (h.fb k hk).1), (hu'.block _ (lt_of_block h.blk) (fun e => (h.fb _ e).2 rfl)).trans h.blk, h.bel.trans ((hu'.below (fun k hk _ => (h.pr.d2.fl k hk).1) h.pr.d2.bw).mono h.bb), h.fa, h.fb, Nat.le_trans h.be hu.size, h.bb⟩
theorem TnP.below (h : TnP w0 wr da db Bb sa sb Fa Fb ob Bd Be cs a7 C) (hb : Below wr.heap.size wr w') : TnP w0 w' da db Bb sa sb Fa Fb ob Bd Be cs a7 C :=
  ⟨h.pr.below hb, h.fil.below hb, (hb.block _ (lt_of_block h.blk)).trans h.blk, h.bel.trans (hb.mono h.pr.d1.bw), h.fa, h.fb, Nat.le_trans h.be hb.size, h.bb⟩
end
theorem DkS.writesq {w : World} {B db : Nat} {F : Nat → Prop} {s : DS} (h : DkS w B db F s) : Calls Tryz.prog 14 #[.pointer (some ⟨db, 0, none⟩)] w fun r w' => r = .returned (.int .i64 (s.writes : Int)) ∧ DkStep w w' B db F s :=
  (Writes_dk h.dk).mono fun _ _ hr => ⟨hr.1, h.step hr.2⟩
/-- In the loop. -/
structure TdS (w0 wr : World) (da db Bb R N : Nat) (keep : Int) (i : Nat) (sa : DS) (Fa Fb : Nat → Prop) : Prop where
  pr : ∃ k : Int, 0 < k ∧ k + (sa.writes : Int) = N ∧ Pair wr w0.heap.size Bb da db Fa Fb sa (sa.tw k keep)
  calm : Calm sa
  wn : sa.writes ≤ i
  bel : Below w0.heap.size w0 wr
  rm : sa.room = R
  bb : w0.heap.size ≤ Bb
def TdE (w0 wr : World) (da db Bb R N : Nat) (keep : Int) : Prop := ∃ i sa Fa Fb, TdS w0 wr da db Bb R N keep i sa Fa Fb ∧ i ≤ 400
theorem DkS.mono {w : World} {B B' db : Nat} {F : Nat → Prop} {s : DS} (h : DkS w B db F s) (hb : B' ≤ B) : DkS w B' db F s := by
  obtain ⟨⟨mb, L, D, ⟨k1, k2, k3⟩, hr, hok, hF⟩, h2, h3⟩ := h
  exact ⟨⟨mb, L, D, ⟨k1, Nat.le_trans hb k2, ⟨k3.map, Nat.le_trans hb k3.bge, k3.has, k3.get, k3.size, k3.nd, fun f hf => (k3.own f hf).mono hb, k3.sep⟩⟩, hr, hok, hF⟩, fun i hi => ⟨Nat.le_trans hb (h2 i hi).1, (h2 i hi).2⟩, Nat.le_trans hb h3⟩
set_option maxRecDepth 100000 in
set_option maxHeartbeats 8000000 in
theorem DiskTorn_calls (w : World) (r0 pn keep : Int) (pa pb : Option Addr) (pk pbk : Nat) (ops beh : List O9) (hop : Ops9 w pa ops) (hob : Ops9 w pb beh) (hl : ops.length ≤ 140737488355328) (hlb : beh.length ≤ 140737488355328) (hr1 : -9223372036854775808 ≤ r0) (hr2 : r0 ≤ 9223372036854775807) (hn1 : -9223372036854775808 ≤ pn) (hn2 : pn ≤ 9223372036854775807) :
    Calls Tryz.prog 3 #[.agg #[.int .i64 r0, .slice pa ops.length pk, .int .i64 pn, .int .i64 keep, .slice pb beh.length pbk]] w fun r w' => r = .returned (.bool true) ∧ Below w.heap.size w w' := by
  obtain ⟨w0, hw0⟩ : ∃ q, w.alloc (.cells #[.int .i64 r0, .slice pa ops.length pk, .int .i64 pn, .int .i64 keep, .slice pb beh.length pbk] 24) = q := ⟨_, rfl⟩
  have b0 : Below w.heap.size w w0 := by rw [← hw0]; exact (Below.refl _ _).alloc (Nat.le_refl _) _
  have blk : w0.heap[w.heap.size]? = some (.cells #[.int .i64 r0, .slice pa ops.length pk, .int .i64 pn, .int .i64 keep, .slice pb beh.length pbk] 24 (0, 0)) := by rw [← hw0]; exact heap_alloc_new w _
  have s0 : w.heap.size < w0.heap.size := lt_of_block blk
  have CP := Lib.hid (fun (w' : World) (hb : Below w0.heap.size w0 w') => show w'.cell? ⟨w.heap.size, 1, none⟩ = some (.slice pa ops.length pk) ∧ w'.cell? ⟨w.heap.size, 2, none⟩ = some (.int .i64 pn) ∧ w'.cell? ⟨w.heap.size, 3, none⟩ = some (.int .i64 keep) ∧ w'.cell? ⟨w.heap.size, 4, none⟩ = some (.slice pb beh.length pbk) from by
    have h9 := (hb.block _ s0).trans blk
    exact ⟨by rw [cell_of_row' h9]; rfl, by rw [cell_of_row' h9]; rfl, by rw [cell_of_row' h9]; rfl, by rw [cell_of_row' h9]; rfl⟩)
  have OP := Lib.hid (hop.below b0); have OB := Lib.hid (hob.below b0)
  obtain ⟨m0, hm0, hml⟩ : ∃ m : Nat, r0 % 65536 = m ∧ m < 65536 := ⟨(r0 % 65536).toNat, by omega, by omega⟩
  obtain ⟨n0, hn0, hnl⟩ : ∃ m : Nat, pn % 60 = m ∧ m < 60 := ⟨(pn % 60).toNat, by omega, by omega⟩
  have W10 := fun wx => Within_calls r0 65536 wx (by omega) (by omega) hr1 hr2
  rw [hm0] at W10
  have W1 := Lib.hid W10
  have W20 := fun wx => Within_calls pn 60 wx (by omega) (by omega) hn1 hn2
  rw [hn0] at W20
  have W2 := Lib.hid W20
  have NC := Lib.hid (NewK_calls (1 + (m0 : Int)) w0)
  have W0 := Lib.hid hw0; have B0 := Lib.hid b0
  clear hop hob b0 blk hw0 W10 W20 hm0 hn0 hr1 hr2 hn1 hn2
  go_enter Tryz.func3, Tryz.ntmps3
  go_wp2_with (go_at_call 7; refine (W1.out _).mono ?_; rintro r wx ⟨rfl, rfl⟩)
  rw [W0.out]
  refine NC.out.mono ?_
  rintro r w1 hr
  rw [show (1 + (m0 : Int)) = ((m0 + 1 : Nat) : Int) by omega] at hr
  obtain ⟨da, F1, rfl, dd1, b1⟩ := new_s (room := m0 + 1) (by omega) (by omega) hr
  have D1 := Lib.hid dd1; have B1 := Lib.hid b1
  have NC2 := Lib.hid (NewK_calls (1 + (m0 : Int)) w1)
  clear dd1 b1 hr NC W1
  go_wp2_with fail
  refine NC2.out.mono ?_
  rintro r w2 hr
  rw [show (1 + (m0 : Int)) = ((m0 + 1 : Nat) : Int) by omega] at hr
  obtain ⟨db, F2, rfl, dd2, b2⟩ := new_s (room := m0 + 1) (by omega) (by omega) hr
  have P2 := Lib.hid (show Pair w2 w0.heap.size w0.heap.size da db F1 F2 (DS.new (m0 + 1)) (DS.new (m0 + 1)) from ⟨D1.out.below b2, dd2.mono D1.out.bw, fun k h1 h2 => by have := (D1.out.fl k h1).2; have := (dd2.fl k h2).1; omega⟩)
  have B2 := Lib.hid (B1.out.trans (b2.mono D1.out.bw))
  have WK := Lib.hid (works9_calls w2)
  clear dd2 b2 hr NC2 D1 B1
  go_wp2_with (go_at_call 9; refine (num9_calls _ _).mono ?_; rintro r wx ⟨rfl, rfl⟩)
  refine WK.out.mono ?_
  rintro r w3 ⟨rfl, b3⟩
  have P3 := Lib.hid (P2.out.below b3)
  have B3 := Lib.hid (B2.out.trans (b3.mono P2.out.d1.bw))
  have AR := Lib.hid (P3.out.d2.arm (1 + (n0 : Int)) keep (by omega))
  obtain ⟨-, x2, x3, -⟩ := CP.out w3 B3.out
  clear b3 WK P2 B2
  go_wp2_with (go_at_call 7; refine (W2.out _).mono ?_; rintro r wx ⟨rfl, rfl⟩)
  refine AR.out.mono ?_
  rintro r w4 ⟨rfl, st4⟩
  obtain ⟨F4, p4, -, b4, -⟩ := P3.out.symm.step st4
  have IA : Hid (TdS w0 w4 da db w0.heap.size (m0 + 1) (1 + n0) keep 0 (DS.new (m0 + 1)) F1 F4) := by
    refine ⟨⟨1 + (n0 : Int), by omega, by show _ + ((0 : Nat) : Int) = _; omega, ?_⟩, ⟨rfl, rfl⟩, Nat.le_refl _, B3.out.trans b4, rfl, Nat.le_refl _⟩
    have e : (DS.new (m0 + 1)).arm (1 + (n0 : Int)) keep = (DS.new (m0 + 1)).tw (1 + (n0 : Int)) keep := by
      show ({ DS.new (m0 + 1) with armed := max 0 (1 + (n0 : Int)), keep := keep } : DS) = { DS.new (m0 + 1) with armed := 1 + (n0 : Int), keep := keep }
      rw [show max 0 (1 + (n0 : Int)) = 1 + (n0 : Int) by omega]
    rw [← e]
    exact p4.symm
  clear st4 p4 b4 x2 x3 AR W2
  go_upto_block 0 with fail
  go_cut [] (fun wr => TdE w0 wr da db w0.heap.size (m0 + 1) (1 + n0) keep)
  case first =>
    go_wp2
    go_loopw [9, 10] (fun vs vi wr => ∃ (i sp : Nat) (sa : DS) (Fa Fb : Nat → Prop), vs = .int .i64 sp ∧ vi = .int .i64 i ∧ i ≤ ops.length ∧ i ≤ 400 ∧ sp ≤ 262144 ∧ TdS w0 wr da db w0.heap.size (m0 + 1) (1 + n0) keep i sa Fa Fb) (fun _ vi _ => ops.length - (intOf vi).toNat)
    case atStart => exact ⟨0, 0, _, F1, F4, rfl, rfl, Nat.zero_le _, Nat.zero_le _, by omega, IA.out⟩
    case round =>
      clear IA
      obtain ⟨i, sp, sa, Fa, Fb, rfl, rfl, hi, hi4, hsp, hh⟩ := hrel
      obtain ⟨q2, q2', q2'', q2b⟩ := CP.out wr hh.bel
      have OW := OP.out.below hh.bel
      have HA := Lib.hid hh
      clear hh
      by_cases c1 : i < ops.length
      · have t1 : decide ((i : Int) < (ops.length : Int)) = true := decide_eq_true (by omega)
        have t1' : decide (i < ops.length) = true := decide_eq_true c1
        by_cases c2 : i < 400
        · have t2 : decide ((i : Int) < 400) = true := decide_eq_true (by omega)
          have t2' : decide (i < 400) = true := decide_eq_true c2
          have i2 : (i : Int) < (ops.length : Int) := by omega
          obtain ⟨-, ab, ao, rfl, h0, h1, h2, h3, h4, h5, h6, h7⟩ := OW i c1
          obtain ⟨o, ho⟩ : ∃ o, ops[i] = o := ⟨_, rfl⟩
          have hat := (OP.out i c1).1
          rw [ho] at hat h0 h1 h2 h3 h4 h5 h6 h7
          obtain ⟨d, on, nm, tn, ba, b, bc, n, okp, fa, fl, fc⟩ := o
          dsimp only at h0 h1 h2 h3 h4 h5 h6 h7
          have AT := Lib.hid hat
          clear hat ho OW
          obtain ⟨w5, hw5⟩ : ∃ q, wr.alloc (.cells #[.int .i64 d, .int .i64 on, .string ⟨nm.toArray⟩, .string ⟨tn.toArray⟩, .slice ba b.length bc, .int .i64 n, .int .i64 okp, .slice fa fl.length fc] 36) = q := ⟨_, rfl⟩
          have b5 : Below wr.heap.size wr w5 := by rw [← hw5]; exact (Below.refl _ _).alloc (Nat.le_refl _) _
          have SC := Lib.hid (size9_calls d on n okp nm tn b ba fa bc fc fl w5 ((AT.out.fil.below HA.out.bel).below b5) AT.out.bl AT.out.ll AT.out.fs)
          have W5 := Lib.hid hw5; have B5 := Lib.hid b5
          clear hw5 b5
          have blk5 : w5.heap[wr.heap.size]? = some (.cells #[.int .i64 d, .int .i64 on, .string ⟨nm.toArray⟩, .string ⟨tn.toArray⟩, .slice ba b.length bc, .int .i64 n, .int .i64 okp, .slice fa fl.length fc] 36 (0, 0)) := by rw [← W5.out]; exact heap_alloc_new wr _
          have K5 := Lib.hid blk5
          clear blk5
          go_wp2_with fail
          rw [W5.out]
          refine SC.out.mono ?_
          rintro r w6 ⟨m, rfl, hm1, hm2, b6⟩
          have B6 := Lib.hid (B5.out.trans (b6.mono B5.out.size))
          have K6 := Lib.hid ((b6.block _ (lt_of_block K5.out)).trans K5.out)
          obtain ⟨k, hk0, hkN, hp⟩ := HA.out.pr
          have P6 := Lib.hid (hp.below B6.out)
          have HP := Lib.hid hp
          have BEL6 := Lib.hid (HA.out.bel.trans (B6.out.mono hp.d1.bw))
          clear b6 h0 h1 h2 h3 h4 h5 h6 h7 q2 q2' q2'' q2b SC hp
          by_cases c3 : 262144 < sp + m
          · have t3 : decide ((262144 : Int) < (sp : Int) + (m : Int)) = true := decide_eq_true (by omega)
            have t3' : decide (262144 < sp + m) = true := decide_eq_true c3
            go_wp2
            go_meet
            case rel => exact ⟨i, sa, Fa, Fb, ⟨⟨k, hk0, hkN, P6.out⟩, HA.out.calm, HA.out.wn, BEL6.out, HA.out.rm, Nat.le_refl _⟩, hi4⟩
          · have t3 : decide ((262144 : Int) < (sp : Int) + (m : Int)) = false := decide_eq_false (by omega)
            have t3' : decide (262144 < sp + m) = false := decide_eq_false c3
            have FC := Lib.hid (Files_s P6.out.d1)
            go_wp2_with fail
            refine FC.out.mono ?_
            rintro r w7 ⟨a7, c7, rfl, hc7, f7, d7, u7', b7⟩
            have fo1 : ∀ k, Fa k → k < wr.heap.size := fun k hk => (HP.out.d1.fl k hk).2
            have fo2 : ∀ k, Fb k → k < wr.heap.size := fun k hk => (HP.out.d2.fl k hk).2
            have P7 : Hid (TnP w0 w7 da db w0.heap.size sa (sa.tw k keep) Fa Fb wr.heap.size w6.heap.size w7.heap.size #[.int .i64 d, .int .i64 on, .string ⟨nm.toArray⟩, .string ⟨tn.toArray⟩, .slice ba b.length bc, .int .i64 n, .int .i64 okp, .slice fa fl.length fc] a7 sa.C) :=
              ⟨P6.out.read d7 u7', f7.z, (u7'.block _ (lt_of_block K6.out) (fun e => by have := fo1 _ (e ▸ HP.out.d1.dk.at_); omega)).trans K6.out, BEL6.out.trans b7, fun k hk => ⟨.inl (Nat.lt_of_lt_of_le (fo1 k hk) B6.out.size), by have := fo1 k hk; omega⟩, fun k hk => ⟨.inl (Nat.lt_of_lt_of_le (fo2 k hk) B6.out.size), by have := fo2 k hk; omega⟩, Nat.le_refl _, Nat.le_refl _⟩
            clear f7 d7 u7' b7 FC
            have WA := Lib.hid P7.out.pr.d1.writesq
            go_wp2_with fail
            refine WA.out.mono ?_
            rintro r w8 ⟨rfl, st8⟩
            obtain ⟨Fa8, p8⟩ := P7.out.stepA st8
            have P8 := Lib.hid p8
            clear st8 p8 WA
            have DC := Lib.hid (do9_calls w0.heap.size da Fa8 sa d on n okp nm tn b ba fa bc fc fl.length w8 P8.out.pr.d1 (AT.out.byt.below P8.out.bel) AT.out.bl AT.out.nl AT.out.tl (by have := HA.out.wn; omega))
            have CA := Lib.hid (HA.out.calm.doD (d := d) (nm := nm) (tn := tn) (b := b) (n := n))
            have WN := Lib.hid (doD_writes (d := d) (nm := nm) (tn := tn) (b := b) (n := n) HA.out.calm)
            have OK := P8.out.pr.d1.dk.ok
            have RM := Lib.hid ((doD_room (d := d) (nm := nm) (tn := tn) (b := b) (n := n) HA.out.calm).trans HA.out.rm)
            have RE := Lib.hid (doD_ref (d := d) (nm := nm) (tn := tn) (b := b) (n := n) HA.out.calm)
            have OK2 := Lib.hid (doD_ok (d := d) (nm := nm) (tn := tn) (b := b) (n := n) OK)
            have OK1 := Lib.hid OK
            have TW := Lib.hid (dtw (d := d) (nm := nm) (tn := tn) (b := b) (n := n) (keep := keep) HA.out.calm OK hk0)
            have NI := Lib.hid (fun (hf : (doD sa d nm tn b n).2.1 = false) => doD_none (s := sa) (d := d) (nm := nm) (tn := tn) (b := b) (n := n) (of_decide_eq_false (by rw [doD_is] at hf; exact hf)))
            obtain ⟨e, he⟩ : ∃ e, (doD sa d nm tn b n).1 = e := ⟨_, rfl⟩
            obtain ⟨isw, his⟩ : ∃ e, (doD sa d nm tn b n).2.1 = e := ⟨_, rfl⟩
            obtain ⟨s2, hs2⟩ : ∃ e, (doD sa d nm tn b n).2.2 = e := ⟨_, rfl⟩
            unfold DoP9 at DC
            rw [he, his, hs2] at DC TW
            rw [hs2] at CA OK2 RM
            rw [he, his, hs2] at WN
            rw [he, hs2] at RE
            have HS2 := Lib.hid hs2; have HIS := Lib.hid his
            clear OK he his hs2 P7
            obtain ⟨y0, y1, y2, y3, y4, y5, y6, y7⟩ := q9_of P8.out.blk
            go_wp2_with fail
            refine DC.out.mono ?_
            rintro r w9 ⟨rfl, F9, d9, u9', b9, f9⟩
            clear y0 y1 y2 y3 y4 y5 y6 y7
            obtain ⟨Fa9, p9⟩ := P8.out.stepA ⟨F9, d9, u9', b9, f9⟩
            have P9 := Lib.hid p9
            clear d9 u9' b9 f9 p9 DC
            cases isw with
            | false =>
              have e2 : s2 = sa := by rw [← HS2.out, NI.out HIS.out]
              subst e2
              go_wp2
              go_roundw
              case rel => exact ⟨i + 1, sp + m, s2, Fa9, Fb, by go_num, by go_num, by omega, by omega, by omega, ⟨k, hk0, hkN, P9.out.pr⟩, HA.out.calm, Nat.le_succ_of_le HA.out.wn, P9.out.bel, HA.out.rm, Nat.le_refl _⟩
              case measure => simp [intOf]; omega
            | true =>
              have wt : (sa.tw k keep).writes = sa.writes := rfl
              have DB0 := do9_calls w0.heap.size db Fb (sa.tw k keep) d on n okp nm tn b ba fa bc fc fl.length w9 P9.out.pr.d2 (AT.out.byt.below P9.out.bel) AT.out.bl AT.out.nl AT.out.tl (by have := HA.out.wn; omega)
              unfold DoP9 at DB0
              have WS : s2.writes = if e = 0 then sa.writes + 1 else sa.writes := by have h9 := WN.out; simpa using h9
              have SW : s2.writes ≤ i + 1 := by have h8 := HA.out.wn; split at WS <;> omega
              have SA4 : sa.writes ≤ 400 := by have h8 := HA.out.wn; omega
              have is1 : IntKind.i64.wrap ((sa.writes : Int) + 1) = (sa.writes : Int) + 1 := IntWalk.i64_in _ (by omega)
              obtain ⟨z, z1, z2⟩ : ∃ z : Bool, (e == 0) = z ∧ ((s2.writes : Int) == (sa.writes : Int) + 1) = z := by
                by_cases c4 : e = 0
                · rw [if_pos c4] at WS
                  exact ⟨true, beq_iff_eq.2 c4, beq_iff_eq.2 (by omega)⟩
                · rw [if_neg c4] at WS
                  exact ⟨false, beq_eq_false_iff_ne.2 c4, beq_eq_false_iff_ne.2 (by omega)⟩
              have WSH := Lib.hid WS
              clear WS wt
              have CL64 := OK1.out.len
              have CL2 := OK2.out.len
              have OFF2 := Lib.hid CA.out.off
              rcases TW.out rfl with ⟨k', hk1, hk2, hk3⟩ | ⟨hk1, he0, C', hk3, hkp⟩
              · rw [hk3] at DB0
                have DB := Lib.hid DB0
                clear DB0 hk3
                have LT : decide ((s2.writes : Int) < 1 + (n0 : Int)) = true := decide_eq_true (by omega)
                obtain ⟨y0, y1, y2, y3, y4, y5, y6, y7⟩ := q9_of P9.out.blk
                go_wp2_with fail
                refine DB.out.mono ?_
                rintro r w10 ⟨rfl, F10, d10, u10', b10, f10⟩
                clear y0 y1 y2 y3 y4 y5 y6 y7
                obtain ⟨Fb10, p10⟩ := P9.out.stepB ⟨F10, d10, u10', b10, f10⟩
                have P10 := Lib.hid p10
                clear d10 u10' b10 f10 p10 DB
                have X1 := Lib.hid P10.out.pr.d1.writesq
                go_wp2_with fail
                refine X1.out.mono ?_
                rintro r w11 ⟨rfl, st11⟩
                obtain ⟨Fa11, p11⟩ := P10.out.stepA st11
                have P11 := Lib.hid p11
                clear st11 p11 X1
                have X2 := Lib.hid (show Calls Tryz.prog 14 #[.pointer (some ⟨db, 0, none⟩)] w11 fun r w' => r = .returned (.int .i64 (s2.writes : Int)) ∧ DkStep w11 w' w0.heap.size db Fb10 (s2.tw k' keep) from P11.out.pr.d2.writesq)
                go_wp2_with fail
                refine X2.out.mono ?_
                rintro r w12 ⟨rfl, st12⟩
                obtain ⟨Fb12, p12⟩ := P11.out.stepB st12
                have P12 := Lib.hid p12
                clear st12 p12 X2
                have X3 := Lib.hid P12.out.pr.d1.writesq
                go_wp2_with (go_at_call 9; refine (num9_calls _ _).mono ?_; rintro r wx ⟨rfl, rfl⟩)
                refine X3.out.mono ?_
                rintro r w13 ⟨rfl, st13⟩
                obtain ⟨Fa13, p13⟩ := P12.out.stepA st13
                have P13 := Lib.hid p13
                clear st13 p13 X3
                have X4 := Lib.hid (show Calls Tryz.prog 14 #[.pointer (some ⟨db, 0, none⟩)] w13 fun r w' => r = .returned (.int .i64 (s2.writes : Int)) ∧ DkStep w13 w' w0.heap.size db Fb12 (s2.tw k' keep) from P13.out.pr.d2.writesq)
                go_wp2_with fail
                refine X4.out.mono ?_
                rintro r w14 ⟨rfl, st14⟩
                obtain ⟨Fb14, p14⟩ := P13.out.stepB st14
                have P14 := Lib.hid p14
                clear st14 p14 X4
                have X5 := Lib.hid (show Calls Tryz.prog 16 #[.pointer (some ⟨db, 0, none⟩)] w14 fun r w' => r = .returned (.bool false) ∧ DkStep w14 w' w0.heap.size db Fb14 (s2.tw k' keep) from by
                  have h9 := P14.out.pr.d2.offq
                  rw [show (s2.tw k' keep).off = false from OFF2.out] at h9
                  exact h9)
                go_wp2_with fail
                refine X5.out.mono ?_
                rintro r w15 ⟨rfl, st15⟩
                obtain ⟨Fb15, p15⟩ := P14.out.stepB st15
                have P15 := Lib.hid p15
                clear st15 p15 X5
                have X6 := Lib.hid (Files_s P15.out.pr.d1)
                go_wp2_with fail
                refine X6.out.mono ?_
                rintro r w16 ⟨a16, c16, rfl, -, f16, d16, u16', b16⟩
                have P16 := Lib.hid (P15.out.readA d16 u16')
                have F16 := Lib.hid f16
                clear f16 d16 u16' b16 X6
                have X7 := Lib.hid (Files_s P16.out.pr.d2)
                have dbl := P15.out.pr.d2.dk.lt
                go_wp2_with fail
                refine X7.out.mono ?_
                rintro r w17 ⟨a17, c17, rfl, -, f17, d17, u17', b17⟩
                have P17 := Lib.hid (P16.out.readB d17 u17')
                have f16' := F16.out.upd u17' (fun k hk => by rw [hk]; exact dbl)
                rw [show (s2.tw k' keep).C = s2.C from rfl] at f17 ⊢
                have EQ := Lib.hid (EqFiles_same s2.C a16 a17 c16 c17 w17 f16'.fil f17.fil (by omega) (fun p hp => by
                  have h2 := OK2.out.byt p.1
                  rw [bytC_mem OK2.out.so hp] at h2
                  omega))
                clear f16' f17 d17 u17' b17 X7
                go_wp2_with fail
                refine EQ.out.mono ?_
                rintro r w18 ⟨rfl, b18⟩
                have P18 := Lib.hid (P17.out.below b18)
                clear b18 EQ
                by_cases c4 : e = 0
                · have t4 : (e != 0) = false := by rw [c4]; rfl
                  clear c4
                  go_wp2_with (go_at_call 9; refine (num9_calls _ _).mono ?_; rintro r wx ⟨rfl, rfl⟩)
                  go_roundw
                  case rel => exact ⟨i + 1, sp + m, s2, Fa13, Fb15, by go_num, by go_num, by omega, by omega, by omega, ⟨k', hk1, by omega, P18.out.pr⟩, CA.out, SW, P18.out.bel, RM.out, Nat.le_refl _⟩
                  case measure => simp [intOf]; omega
                · have t4 : (e != 0) = true := bne_iff_ne.2 c4
                  have hs := RE.out c4
                  subst hs
                  clear c4
                  have X8 := Lib.hid (Files_s P18.out.pr.d1)
                  go_wp2_with (go_at_call 9; refine (num9_calls _ _).mono ?_; rintro r wx ⟨rfl, rfl⟩)
                  refine X8.out.mono ?_
                  rintro r w19 ⟨a19, c19, rfl, -, f19, d19, u19', b19⟩
                  have P19 := Lib.hid (P18.out.readA d19 u19')
                  have EQ := Lib.hid (EqFiles_same s2.C a19 a7 c19 c7 w19 f19.fil P19.out.fil.b.fil (by omega) (fun p hp => by
                    have h2 := OK2.out.byt p.1
                    rw [bytC_mem OK2.out.so hp] at h2
                    omega))
                  clear f19 d19 u19' b19 X8
                  go_wp2_with fail
                  refine EQ.out.mono ?_
                  rintro r w20 ⟨rfl, b20⟩
                  have P20 := Lib.hid (P19.out.below b20)
                  clear b20 EQ
                  go_wp2
                  go_roundw
                  case rel => exact ⟨i + 1, sp + m, s2, Fa13, Fb15, by go_num, by go_num, by omega, by omega, by omega, ⟨k', hk1, by omega, P20.out.pr⟩, CA.out, SW, P20.out.bel, RM.out, Nat.le_refl _⟩
                  case measure => simp [intOf]; omega
              · obtain ⟨sb2, hsb⟩ : ∃ q, ({ sa.wr.dark keep with C := C' } : DS) = q := ⟨_, rfl⟩
                have eC : C' = sb2.C := by rw [← hsb]
                have eO : sb2.off = true := by rw [← hsb]; rfl
                have eA : sb2.armed = 0 := by rw [← hsb]; rfl
                have eR : sb2.room = m0 + 1 := by rw [← hsb]; exact HA.out.rm
                have eW : sb2.writes = sa.writes + 1 := by rw [← hsb]; rfl
                rw [hsb] at hk3
                rw [eC] at hkp
                rw [hk3] at DB0
                have DB := Lib.hid DB0
                have eS : s2.writes = sa.writes + 1 := by have h9 := WSH.out; rw [if_pos he0] at h9; exact h9
                have EO := Lib.hid eO; have EA := Lib.hid eA; have ER := Lib.hid eR; have EW := Lib.hid eW; have ES := Lib.hid eS; have KP := Lib.hid hkp
                clear DB0 hk3 hsb eC eO eA eR eW eS hkp
                subst he0
                have LT : decide (((sa.writes : Int) + 1) < 1 + (n0 : Int)) = false := decide_eq_false (by omega)
                obtain ⟨y0, y1, y2, y3, y4, y5, y6, y7⟩ := q9_of P9.out.blk
                go_wp2_with fail
                refine DB.out.mono ?_
                rintro r w10 ⟨rfl, F10, d10, u10', b10, f10⟩
                clear y0 y1 y2 y3 y4 y5 y6 y7
                obtain ⟨Fb10, p10⟩ := P9.out.stepB ⟨F10, d10, u10', b10, f10⟩
                have P10 := Lib.hid p10
                clear d10 u10' b10 f10 p10 DB
                have X1 := Lib.hid (show Calls Tryz.prog 14 #[.pointer (some ⟨da, 0, none⟩)] w10 fun r w' => r = .returned (.int .i64 ((sa.writes : Int) + 1)) ∧ DkStep w10 w' w0.heap.size da Fa9 s2 from by
                  have h9 := P10.out.pr.d1.writesq
                  rw [show ((s2.writes : Nat) : Int) = (sa.writes : Int) + 1 by rw [ES.out]; rfl] at h9
                  exact h9)
                go_wp2_with fail
                refine X1.out.mono ?_
                rintro r w11 ⟨rfl, st11⟩
                obtain ⟨Fa11, p11⟩ := P10.out.stepA st11
                have P11 := Lib.hid p11
                clear st11 p11 X1
                have X2 := Lib.hid (show Calls Tryz.prog 14 #[.pointer (some ⟨db, 0, none⟩)] w11 fun r w' => r = .returned (.int .i64 ((sa.writes : Int) + 1)) ∧ DkStep w11 w' w0.heap.size db Fb10 sb2 from by
                  have h9 := P11.out.pr.d2.writesq
                  rw [show ((sb2.writes : Nat) : Int) = (sa.writes : Int) + 1 by rw [EW.out]; rfl] at h9
                  exact h9)
                go_wp2_with fail
                refine X2.out.mono ?_
                rintro r w12 ⟨rfl, st12⟩
                obtain ⟨Fb12, p12⟩ := P11.out.stepB st12
                have P12 := Lib.hid p12
                clear st12 p12 X2
                have X3 := Lib.hid (show Calls Tryz.prog 14 #[.pointer (some ⟨da, 0, none⟩)] w12 fun r w' => r = .returned (.int .i64 ((sa.writes : Int) + 1)) ∧ DkStep w12 w' w0.heap.size da Fa11 s2 from by
                  have h9 := P12.out.pr.d1.writesq
                  rw [show ((s2.writes : Nat) : Int) = (sa.writes : Int) + 1 by rw [ES.out]; rfl] at h9
                  exact h9)
                go_wp2_with (go_at_call 9; refine (num9_calls _ _).mono ?_; rintro r wx ⟨rfl, rfl⟩)
                refine X3.out.mono ?_
                rintro r w13 ⟨rfl, st13⟩
                obtain ⟨Fa13, p13⟩ := P12.out.stepA st13
                have P13 := Lib.hid p13
                clear st13 p13 X3
                have X4 := Lib.hid (show Calls Tryz.prog 14 #[.pointer (some ⟨db, 0, none⟩)] w13 fun r w' => r = .returned (.int .i64 ((sa.writes : Int) + 1)) ∧ DkStep w13 w' w0.heap.size db Fb12 sb2 from by
                  have h9 := P13.out.pr.d2.writesq
                  rw [show ((sb2.writes : Nat) : Int) = (sa.writes : Int) + 1 by rw [EW.out]; rfl] at h9
                  exact h9)
                go_wp2_with fail
                refine X4.out.mono ?_
                rintro r w14 ⟨rfl, st14⟩
                obtain ⟨Fb14, p14⟩ := P13.out.stepB st14
                have P14 := Lib.hid p14
                clear st14 p14 X4
                go_upto_region 25 with (go_at_call 9; refine (num9_calls _ _).mono ?_; rintro r wx ⟨rfl, rfl⟩)
                have P14d := Lib.hid (P14.out.below (w' := w14.drew) (bel_drew (Below.refl _ _)))
                obtain ⟨y0, y1, y2, y3, y4, y5, y6, y7⟩ := q9_of P14d.out.blk
                obtain ⟨-, -, y8, y9⟩ := CP.out w14.drew P14d.out.bel
                have OFD := Lib.hid (show Calls Tryz.prog 16 #[.pointer (some ⟨db, 0, none⟩)] w14.drew fun r w' => r = .returned (.bool true) ∧ DkStep w14.drew w' w0.heap.size db Fb14 sb2 from by
                  have h9 := P14d.out.pr.d2.offq
                  rw [EO.out] at h9
                  exact h9)
                have FUP := Lib.hid (fun (wx wy wz : World) (ax : Option Addr) (hf : FilB wy wx.heap.size ax s2.C) (hu : Upd (fun i => i = db) wy wz) (hl9 : db < wx.heap.size) => show Fil wz ax s2.C from (hf.upd hu (fun k hk => by rw [hk]; exact hl9)).fil)
                have L3 := P14d.out.pr.d2.dk.ok.len
                have BS1 : ∀ p ∈ sa.C, p.2.length ≤ 140737488355328 := fun p hp => by
                  have h2 := OK1.out.byt p.1
                  rw [bytC_mem OK1.out.so hp] at h2
                  omega
                have BS2 : ∀ p ∈ s2.C, p.2.length ≤ 140737488355328 := fun p hp => by
                  have h2 := OK2.out.byt p.1
                  rw [bytC_mem OK2.out.so hp] at h2
                  omega
                have KC := Lib.hid (fun (w' : World) (pb' pc' : Option Addr) (cb' cc' : Nat) (hx : Fil w' a7 sa.C) (hy : Fil w' pb' s2.C) (hz : Fil w' pc' sb2.C) (hby : Byt w' ba b) => kept9_calls sa.C s2.C sb2.C a7 pb' pc' c7 cb' cc' d on n okp keep nm tn b ba fa bc fc fl.length w' hx hy hz (by omega) (by omega) (by omega) BS1 BS2 AT.out.bl AT.out.cap hby KP.out)
                have GOC := Lib.hid (fun (w' : World) (Fx : Nat → Prop) (hd : DkS w' w0.heap.size db Fx sb2) (hb : Below w0.heap.size w0 w') => show Calls Tryz.prog 19 #[.pointer (some ⟨db, 0, none⟩), .int .i64 (1 + (m0 : Int)), .slice pb beh.length pbk] w' fun r w'' => r = .returned (.bool true) ∧ Below w0.heap.size w0 w'' ∧ Upd Fx w' w'' from by
                  have h9 := goes9_calls db (m0 + 1) Fx sb2 w0 w' pb pbk beh hd EO.out EA.out ER.out (by rw [EW.out]; omega) OB.out hlb hb
                  rw [show ((m0 + 1 : Nat) : Int) = 1 + (m0 : Int) by omega] at h9
                  exact h9)
                have NEB := Lib.hid (fun (Fx : Nat → Prop) (wx wy : World) (hx : TnP w0 wx da db w0.heap.size s2 sb2 Fa13 Fx wr.heap.size w6.heap.size w7.heap.size #[.int .i64 d, .int .i64 on, .string ⟨nm.toArray⟩, .string ⟨tn.toArray⟩, .slice ba b.length bc, .int .i64 n, .int .i64 okp, .slice fa fl.length fc] a7 sa.C) (hu : Upd Fx wx wy) => (hu.block _ (lt_of_block hx.blk) (fun e9 => (hx.fb _ e9).2 rfl)).trans hx.blk)
                clear TW RE WN NI CA RM HS2 HIS P6 P8 P9 P10 P11 P12 P13 P14 HA HP K5 K6 B5 B6 BEL6 W5 OK1 OK2 OFF2 OP OB EO EA ER EW ES KP hk1 CL64 CL2 SW SA4 fo1 fo2 B3 hl hlb W0 hi hi4 hsp hkN hk0
                clear L3 BS1 BS2 LT is1 z1 z2 WSH t1 t1' t2 t2' t3 t3' i2 hm1 hm2
                go_region_held3 (fun w' => w'.cell? ⟨wr.heap.size, 0, none⟩ = some (.int .i64 d) ∧ w'.cell? ⟨wr.heap.size, 1, none⟩ = some (.int .i64 on) ∧ w'.cell? ⟨wr.heap.size, 2, none⟩ = some (.string ⟨nm.toArray⟩) ∧ w'.cell? ⟨wr.heap.size, 3, none⟩ = some (.string ⟨tn.toArray⟩) ∧ w'.cell? ⟨wr.heap.size, 4, none⟩ = some (.slice ba b.length bc) ∧ w'.cell? ⟨wr.heap.size, 5, none⟩ = some (.int .i64 n) ∧ w'.cell? ⟨wr.heap.size, 6, none⟩ = some (.int .i64 okp) ∧ w'.cell? ⟨wr.heap.size, 7, none⟩ = some (.slice fa fl.length fc) ∧ w'.cell? ⟨w.heap.size, 3, none⟩ = some (.int .i64 keep) ∧ w'.cell? ⟨w.heap.size, 4, none⟩ = some (.slice pb beh.length pbk))
                  (first
                    | go_keep)
                  (first
                    | (go_at_call 9; refine (num9_calls _ _).mono ?_; rintro r wx ⟨rfl, rfl⟩)
                    | (go_at_call 16; (with_reducible refine OFD.out.mono ?_); rintro r w15 ⟨rfl, st15⟩; obtain ⟨Fb15, p15⟩ := P14d.out.stepB st15; obtain ⟨z50, z51, z52, z53, z54, z55, z56, z57⟩ := q9_of p15.blk; obtain ⟨-, -, z58, z59⟩ := CP.out w15 p15.bel; have P15 := Lib.hid p15; clear st15 p15)
                    | (go_at_call 13; (with_reducible refine (Files_s P15.out.pr.d1).mono ?_); rintro r w16 ⟨a16, c16, rfl, -, f16, d16, u16', b16⟩; have p16 := P15.out.readA d16 u16'; obtain ⟨z60, z61, z62, z63, z64, z65, z66, z67⟩ := q9_of p16.blk; obtain ⟨-, -, z68, z69⟩ := CP.out w16 p16.bel; have P16 := Lib.hid p16; have F16 := Lib.hid f16; clear f16 d16 u16' b16 p16)
                    | (go_at_call 13; (with_reducible refine (Files_s P16.out.pr.d2).mono ?_); rintro r w17 ⟨a17, c17, rfl, -, f17, d17, u17', b17⟩; have p17 := P16.out.readB d17 u17'; obtain ⟨z70, z71, z72, z73, z74, z75, z76, z77⟩ := q9_of p17.blk; obtain ⟨-, -, z78, z79⟩ := CP.out w17 p17.bel; have P17 := Lib.hid p17; have G16 := Lib.hid (FUP.out _ _ _ _ F16.out u17' P15.out.pr.d2.dk.lt); have F17 := Lib.hid f17; clear f17 d17 u17' b17 p17)
                    | (go_at_call 18; (with_reducible refine (KC.out _ _ _ _ _ P17.out.fil.b.fil G16.out F17.out.fil (AT.out.byt.below P17.out.bel)).mono ?_); rintro r w18 ⟨rfl, b18⟩; have p18 := P17.out.below b18; obtain ⟨z80, z81, z82, z83, z84, z85, z86, z87⟩ := q9_of p18.blk; obtain ⟨-, -, z88, z89⟩ := CP.out w18 p18.bel; have P18 := Lib.hid p18; clear b18 p18)
                    | (go_at_call 19; (with_reducible refine (GOC.out _ _ P18.out.pr.d2 P18.out.bel).mono ?_); rintro r w19 ⟨rfl, b19, u19'⟩; have k19 := NEB.out _ _ _ P18.out u19'; obtain ⟨z90, z91, z92, z93, z94, z95, z96, z97⟩ := q9_of k19; obtain ⟨-, -, z98, z99⟩ := CP.out w19 b19; have B19 := Lib.hid b19; clear b19 u19' k19))
                all_goals
                  go_wp2
                  go_ret
                  exact ⟨by first | rfl | simp, B0.out.trans (B19.out.mono B0.out.size)⟩
        · have t2 : decide ((i : Int) < 400) = false := decide_eq_false (by omega)
          have t2' : decide (i < 400) = false := decide_eq_false c2
          go_wp2
          go_meet
          case rel => exact ⟨i, sa, Fa, Fb, HA.out, hi4⟩
      · have t1 : decide ((i : Int) < (ops.length : Int)) = false := decide_eq_false (by omega)
        have t1' : decide (i < ops.length) = false := decide_eq_false c1
        go_wp2
        go_meet
        case rel => exact ⟨i, sa, Fa, Fb, HA.out, hi4⟩
  case rest =>
    clear IA P3 B3
    obtain ⟨wA, rfl⟩ : ∃ q, q = wc := ⟨_, rfl⟩
    obtain ⟨i, sa, Fa, Fb, hh, hi⟩ := hcut
    obtain ⟨k, hk0, hkN, hp⟩ := hh.pr
    have OK := Lib.hid hh.pr.choose_spec.2.2.d1.dk.ok
    have P := Lib.hid hp
    have BA := Lib.hid hh.bel
    have OFF := Lib.hid hh.calm.off
    have FX := Lib.hid (Files_s hp.d1)
    have CL64 := hp.d1.dk.ok.len
    obtain ⟨C, hC⟩ : ∃ C, sa.C = C := ⟨_, rfl⟩
    have CE := Lib.hid hC
    rw [hC] at CL64
    clear hh hp hC
    go_wp2_with fail
    refine FX.out.mono ?_
    rintro r w5 ⟨a5, c5, rfl, -, f5, d5, u5', b5⟩
    have PB := Lib.hid (P.out.read d5 u5')
    have B5 := Lib.hid (BA.out.trans b5)
    have FY := Lib.hid (Files_s PB.out.d2)
    have dbl := PB.out.d2.dk.lt
    have dbl0 := P.out.d2.dk.lt
    rw [CE.out] at f5 ⊢
    have F5 := Lib.hid f5
    clear f5 d5 u5' b5 FX
    go_wp2_with fail
    refine FY.out.mono ?_
    rintro r w6 ⟨a6, c6, rfl, -, f6, d6, u6', b6⟩
    have PC := Lib.hid (PB.out.symm.read d6 u6').symm
    have B6 := Lib.hid (B5.out.trans b6)
    have f5' := F5.out.upd u6' (fun k hk => by rw [hk]; exact dbl0)
    rw [show (sa.tw k keep).C = C from CE.out] at f6 ⊢
    have EQ := Lib.hid (EqFiles_same C a5 a6 c5 c6 w6 f5'.fil f6.fil (by omega) (fun p hp => by
      have h2 := OK.out.byt p.1
      rw [bytC_mem OK.out.so (by rw [CE.out]; exact hp)] at h2
      omega))
    clear f5' f6 d6 u6' b6 FY
    go_wp2_with fail
    refine EQ.out.mono ?_
    rintro r w7 ⟨rfl, b7⟩
    have B7 := Lib.hid (B6.out.trans (b7.mono PC.out.d1.bw))
    have OF0 := (PC.out.below b7).d2.offq
    rw [show (sa.tw k keep).off = false from OFF.out] at OF0
    have OFH := Lib.hid OF0
    clear b7 OF0 EQ
    go_wp2_with fail
    refine OFH.out.mono ?_
    rintro r w8 ⟨rfl, F8, d8, u8', b8, -⟩
    have B8 := Lib.hid (B7.out.trans b8)
    clear d8 u8' b8 OFH
    go_wp2
    go_ret
    exact ⟨by first | rfl | simp, B0.out.trans (B8.out.mono B0.out.size)⟩
end Go.Proofs.YtcmllfnhdodbdaaGreatDoor
