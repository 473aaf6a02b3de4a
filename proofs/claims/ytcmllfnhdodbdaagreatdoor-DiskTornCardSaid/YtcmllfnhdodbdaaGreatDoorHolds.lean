/- posternlaw9.DiskHolds. -/
import Derived.Test.YtcmllfnhdodbdaaGreatDoorTells
import Derived.Test.YtcmllfnhdodbdaaGreatDoorLoadO
import Derived.Test.YtcmllfnhdodbdaaGreatDoorLong
import Derived.Test.YtcmllfnhdodbdaaGreatDoorLoad
import Derived.Laws.Concat
import Derived.Deep.CutBlock
import Derived.Deep.DeepCutAuto
import Derived.BigQuiet
namespace Go.Proofs.YtcmllfnhdodbdaaGreatDoor
set_option linter.unusedVariables false
set_option linter.unusedSimpArgs false
open Go.RowKit Go.Maps
section
variable {s : DS} {nm tn b : List UInt8} {d n : Int}
theorem doD_room (h : Calm s) : (doD s d nm tn b n).2.2.room = s.room := by
  refine doD_cases (fun q => q.2.2.room = s.room) (fun _ => ?_) (fun _ => ?_) (fun _ => ?_) (fun _ => ?_) (fun _ _ _ _ => rfl)
  · show (s.append nm b).2.room = _
    unfold DS.append
    split
    · rfl
    · split
      · rfl
      · rw [if_neg (by rw [h.arm]; decide)]; rfl
  · show (s.cut nm n).2.room = _
    unfold DS.cut
    split
    · rfl
    · split
      · rfl
      · rw [h.whole]; rfl
  · show (s.rename nm tn).2.room = _
    unfold DS.rename
    split
    · rfl
    · rw [h.whole]
      show (if nm = tn then s.wr else (s.wr.del nm).put tn (bytC s.C nm)).room = _
      split <;> rfl
  · show (s.remove nm).2.room = _
    unfold DS.remove
    split
    · rfl
    · rw [h.whole]; rfl
theorem doD_full (h : Calm s) (h0 : (doD s d nm tn b n).1 = 93) : (hasC s.C nm = false ∧ 64 ≤ s.C.length) ∨ s.room < sumC s.C + b.length := by
  revert h0
  have hm : ∀ t Ns, s.may t Ns ≠ 93 := fun t Ns => by unfold DS.may; repeat (first | decide | split)
  refine doD_cases (fun q => q.1 = 93 → _) (fun _ => ?_) (fun _ => ?_) (fun _ => ?_) (fun _ => ?_) (fun _ _ _ _ h0 => absurd h0 (by show ¬ (0 : Int) = 93; decide))
  · show (s.append nm b).1 = 93 → _
    unfold DS.append
    split
    · intro h0; exact absurd h0 (hm _ _)
    · split
      · rename_i c; intro _; exact c
      · rw [if_neg (by rw [h.arm]; decide)]
        intro h0; exact absurd h0 (by show ¬ (0 : Int) = 93; decide)
  · show (s.cut nm n).1 = 93 → _
    unfold DS.cut
    split
    · intro h0; exact absurd h0 (hm _ _)
    · split
      · intro h0; exact absurd h0 (by show ¬ (95 : Int) = 93; decide)
      · rw [h.whole]; intro h0; exact absurd h0 (by show ¬ (0 : Int) = 93; decide)
  · show (s.rename nm tn).1 = 93 → _
    unfold DS.rename
    split
    · intro h0; exact absurd h0 (hm _ _)
    · rw [h.whole]; intro h0; exact absurd h0 (by show ¬ (0 : Int) = 93; decide)
  · show (s.remove nm).1 = 93 → _
    unfold DS.remove
    split
    · intro h0; exact absurd h0 (hm _ _)
    · rw [h.whole]; intro h0; exact absurd h0 (by show ¬ (0 : Int) = 93; decide)
theorem doD_app (h : Calm s) (ho : s.ok) (h0 : (doD s 1 nm tn b n).1 = 0) : hasC (doD s 1 nm tn b n).2.2.C nm = true ∧ bytC (doD s 1 nm tn b n).2.2.C nm = bytC s.C nm ++ b ∧ OthersP s.C (doD s 1 nm tn b n).2.2.C nm := by
  have e : (doD s 1 nm tn b n) = ((s.append nm b).1, true, (s.append nm b).2) := by unfold doD; rw [if_pos rfl]
  rw [e] at h0 ⊢
  have h1 := h.append0 h0
  show hasC (s.append nm b).2.C nm = true ∧ bytC (s.append nm b).2.C nm = _ ∧ OthersP s.C (s.append nm b).2.C nm
  rw [h1]
  exact ⟨has_set_same _ _ _, bytC_set_same ho.so _ _, others_set ho.so _ _⟩
end
/-- In the loop. -/
structure HoS (w0 wr : World) (B db R : Nat) (i : Nat) (s : DS) (F : Nat → Prop) : Prop where
  dk : DkS wr B db F s
  calm : Calm s
  wn : s.writes ≤ i
  bel : Below B w0 wr
  rm : s.room = R
def HoE (w0 wr : World) (B db R : Nat) : Prop := ∃ i s F, HoS w0 wr B db R i s F ∧ i ≤ 400
set_option maxRecDepth 100000 in
set_option maxHeartbeats 8000000 in
theorem DiskHolds_calls (w : World) (r0 r1 : Int) (pa : Option Addr) (pk : Nat) (ops : List O9) (hop : Ops9 w pa ops) (hl : ops.length ≤ 140737488355328) (hr1 : -9223372036854775808 ≤ r0) (hr2 : r0 ≤ 9223372036854775807) :
    Calls Tryz.prog 4 #[.agg #[.int .i64 r0, .int .i64 r1, .slice pa ops.length pk]] w fun r w' => r = .returned (.bool true) ∧ Below w.heap.size w w' := by
  obtain ⟨w0, hw0⟩ : ∃ q, w.alloc (.cells #[.int .i64 r0, .int .i64 r1, .slice pa ops.length pk] 48) = q := ⟨_, rfl⟩
  have b0 : Below w.heap.size w w0 := by rw [← hw0]; exact (Below.refl _ _).alloc (Nat.le_refl _) _
  have blk : w0.heap[w.heap.size]? = some (.cells #[.int .i64 r0, .int .i64 r1, .slice pa ops.length pk] 48 (0, 0)) := by rw [← hw0]; exact heap_alloc_new w _
  have s0 : w.heap.size < w0.heap.size := lt_of_block blk
  have CP := Lib.hid (fun (w' : World) (hb : Below w0.heap.size w0 w') => show w'.cell? ⟨w.heap.size, 2, none⟩ = some (.slice pa ops.length pk) from by
    have h9 := (hb.block _ s0).trans blk
    rw [cell_of_row' h9]; rfl)
  have OP := Lib.hid (hop.below b0)
  obtain ⟨m0, hm0, hml⟩ : ∃ m : Nat, r0 % 65536 = m ∧ m < 65536 := ⟨(r0 % 65536).toNat, by omega, by omega⟩
  have W10 := fun wx => Within_calls r0 65536 wx (by omega) (by omega) hr1 hr2
  rw [hm0] at W10
  have W1 := Lib.hid W10
  have NC := Lib.hid (NewK_calls (1 + (m0 : Int)) w0)
  have W0 := Lib.hid hw0; have B0 := Lib.hid b0
  clear hop b0 blk hw0 W10 hm0 hr1 hr2
  go_enter Tryz.func4, Tryz.ntmps4
  go_wp2_with (go_at_call 7; refine (W1.out _).mono ?_; rintro r wx ⟨rfl, rfl⟩)
  rw [W0.out]
  refine NC.out.mono ?_
  rintro r w1 hr
  rw [show (1 + (m0 : Int)) = ((m0 + 1 : Nat) : Int) by omega] at hr
  obtain ⟨db, F1, rfl, dd1, b1⟩ := new_s (room := m0 + 1) (by omega) (by omega) hr
  have D1 := Lib.hid dd1; have B1 := Lib.hid b1
  clear dd1 b1 hr NC W1
  have WK := Lib.hid (works9_calls w1)
  go_wp2_with (go_at_call 9; refine (num9_calls _ _).mono ?_; rintro r wx ⟨rfl, rfl⟩)
  refine WK.out.mono ?_
  rintro r w2 ⟨rfl, b2⟩
  have D2 := Lib.hid (D1.out.below b2)
  have B2 := Lib.hid (B1.out.trans (b2.mono D1.out.bw))
  clear b2 WK
  have IA : Hid (HoS w0 w2 w0.heap.size db (m0 + 1) 0 (DS.new (m0 + 1)) F1) := ⟨D2.out, ⟨rfl, rfl⟩, Nat.le_refl _, B2.out, rfl⟩
  go_upto_block 0 with fail
  go_cut [] (fun wr => HoE w0 wr w0.heap.size db (m0 + 1))
  case first =>
    go_wp2
    go_loopw [6, 7] (fun vs vi wr => ∃ (i sp : Nat) (s : DS) (F : Nat → Prop), vs = .int .i64 sp ∧ vi = .int .i64 i ∧ i ≤ ops.length ∧ i ≤ 400 ∧ sp ≤ 262144 ∧ HoS w0 wr w0.heap.size db (m0 + 1) i s F) (fun _ vi _ => ops.length - (intOf vi).toNat)
    case atStart => exact ⟨0, 0, _, F1, rfl, rfl, Nat.zero_le _, Nat.zero_le _, by omega, IA.out⟩
    case round =>
      clear IA
      obtain ⟨i, sp, s, F, rfl, rfl, hi, hi4, hsp, hh⟩ := hrel
      have q2 := CP.out wr hh.bel
      have OW := OP.out.below hh.bel
      have HA := Lib.hid hh
      clear hh
      by_cases c1 : i < ops.length
      · have t1 : decide ((i : Int) < (ops.length : Int)) = true := decide_eq_true (by omega)
        have t1' : decide (i < ops.length) = true := decide_eq_true c1
        by_cases c2 : i < 400
        · have t2 : decide ((i : Int) < 400) = true := decide_eq_true (by omega)
          have t2' : decide (i < 400) = true := decide_eq_true c2
          have i2 : (i : Int) < (ops.length : Int) := by omega
          obtain ⟨-, ab, ao, rfl, h0, h1, h2, h3, h4, h5, h6, h7⟩ := OW i c1
          obtain ⟨o, ho⟩ : ∃ o, ops[i] = o := ⟨_, rfl⟩
          have hat := (OP.out i c1).1
          rw [ho] at hat h0 h1 h2 h3 h4 h5 h6 h7
          obtain ⟨d, on, nm, tn, ba, b, bc, n, keep, fa, fl, fc⟩ := o
          dsimp only at h0 h1 h2 h3 h4 h5 h6 h7
          have AT := Lib.hid hat
          clear hat ho OW
          obtain ⟨w5, hw5⟩ : ∃ q, wr.alloc (.cells #[.int .i64 d, .int .i64 on, .string ⟨nm.toArray⟩, .string ⟨tn.toArray⟩, .slice ba b.length bc, .int .i64 n, .int .i64 keep, .slice fa fl.length fc] 36) = q := ⟨_, rfl⟩
          have b5 : Below wr.heap.size wr w5 := by rw [← hw5]; exact (Below.refl _ _).alloc (Nat.le_refl _) _
          have SC := Lib.hid (size9_calls d on n keep nm tn b ba fa bc fc fl w5 ((AT.out.fil.below HA.out.bel).below b5) AT.out.bl AT.out.ll AT.out.fs)
          have W5 := Lib.hid hw5; have B5 := Lib.hid b5
          clear hw5 b5
          have blk5 : w5.heap[wr.heap.size]? = some (.cells #[.int .i64 d, .int .i64 on, .string ⟨nm.toArray⟩, .string ⟨tn.toArray⟩, .slice ba b.length bc, .int .i64 n, .int .i64 keep, .slice fa fl.length fc] 36 (0, 0)) := by rw [← W5.out]; exact heap_alloc_new wr _
          have K5 := Lib.hid blk5
          clear blk5
          go_wp2_with fail
          rw [W5.out]
          refine SC.out.mono ?_
          rintro r w6 ⟨m, rfl, hm1, hm2, b6⟩
          have B6 := Lib.hid (B5.out.trans (b6.mono B5.out.size))
          have K6 := Lib.hid ((b6.block _ (lt_of_block K5.out)).trans K5.out)
          have D6 := Lib.hid (HA.out.dk.below B6.out)
          have BEL6 := Lib.hid (HA.out.bel.trans (B6.out.mono HA.out.dk.bw))
          clear b6 h0 h1 h2 h3 h4 h5 h6 h7 q2 SC
          by_cases c3 : 262144 < sp + m
          · have t3 : decide ((262144 : Int) < (sp : Int) + (m : Int)) = true := decide_eq_true (by omega)
            have t3' : decide (262144 < sp + m) = true := decide_eq_true c3
            go_wp2
            go_meet
            case rel => exact ⟨i, s, F, ⟨D6.out, HA.out.calm, HA.out.wn, BEL6.out, HA.out.rm⟩, hi4⟩
          · have t3 : decide ((262144 : Int) < (sp : Int) + (m : Int)) = false := decide_eq_false (by omega)
            have t3' : decide (262144 < sp + m) = false := decide_eq_false c3
            have FC := Lib.hid (Files_s D6.out)
            go_wp2_with fail
            refine FC.out.mono ?_
            rintro r w7 ⟨a7, c7, rfl, hc7, f7, d7, u7', b7⟩
            have obd : wr.heap.size ≠ db := fun e => by have := (HA.out.dk.fl db HA.out.dk.dk.at_).2; omega
            have K7 := Lib.hid ((u7'.block _ (lt_of_block K6.out) (fun e => obd e)).trans K6.out)
            have D7 := Lib.hid d7; have F7 := Lib.hid f7
            have BEL7 := Lib.hid (BEL6.out.trans b7)
            have DC := Lib.hid (do9_calls w0.heap.size db F s d on n keep nm tn b ba fa bc fc fl.length w7 d7 (AT.out.byt.below BEL7.out) AT.out.bl AT.out.nl AT.out.tl (by have := HA.out.wn; omega))
            have CA := Lib.hid (HA.out.calm.doD (d := d) (nm := nm) (tn := tn) (b := b) (n := n))
            have WN := Lib.hid (doD_writes (d := d) (nm := nm) (tn := tn) (b := b) (n := n) HA.out.calm)
            have OK := HA.out.dk.dk.ok
            have RM := Lib.hid ((doD_room (d := d) (nm := nm) (tn := tn) (b := b) (n := n) HA.out.calm).trans HA.out.rm)
            have FU := Lib.hid (doD_full (d := d) (nm := nm) (tn := tn) (b := b) (n := n) HA.out.calm)
            have RE := Lib.hid (doD_ref (d := d) (nm := nm) (tn := tn) (b := b) (n := n) HA.out.calm)
            have AP := Lib.hid (show d = 1 → (doD s d nm tn b n).1 = 0 → hasC (doD s d nm tn b n).2.2.C nm = true ∧ bytC (doD s d nm tn b n).2.2.C nm = bytC s.C nm ++ b ∧ OthersP s.C (doD s d nm tn b n).2.2.C nm from fun e1 => by subst e1; exact doD_app HA.out.calm OK)
            have OK2 := Lib.hid (doD_ok (d := d) (nm := nm) (tn := tn) (b := b) (n := n) OK)
            have OK1 := Lib.hid OK
            obtain ⟨e, he⟩ : ∃ e, (doD s d nm tn b n).1 = e := ⟨_, rfl⟩
            obtain ⟨isw, his⟩ : ∃ e, (doD s d nm tn b n).2.1 = e := ⟨_, rfl⟩
            obtain ⟨s2, hs2⟩ : ∃ e, (doD s d nm tn b n).2.2 = e := ⟨_, rfl⟩
            unfold DoP9 at DC
            rw [he, his, hs2] at DC
            rw [hs2] at CA OK2
            rw [he, his, hs2] at WN
            rw [hs2] at RM
            rw [he] at FU
            rw [he, hs2] at RE
            obtain ⟨C, hC⟩ : ∃ C, s.C = C := ⟨_, rfl⟩
            rw [hC] at hc7 F7 ⊢
            have CL := Lib.hid hC
            have SW : s2.writes ≤ i + 1 := by have h9 := WN.out; have h8 := HA.out.wn; split at h9 <;> omega
            have HE := Lib.hid he; have HS2 := Lib.hid hs2
            clear f7 d7 u7' b7 FC OK he his hs2 hC WN
            obtain ⟨y0, y1, y2, y3, y4, y5, y6, y7⟩ := q9_of K7.out
            go_wp2_with fail
            refine DC.out.mono ?_
            rintro r w8 ⟨rfl, F8, d8, u8', b8, f8⟩
            clear y0 y1 y2 y3 y4 y5 y6 y7
            have CLEN : C.length ≤ 64 := by rw [← CL.out]; exact OK1.out.len
            have fo : ∀ k, F k → k < wr.heap.size := fun k hk => (HA.out.dk.fl k hk).2
            have P8 : Hid (MvP w0 w8 w0.heap.size db s2 F8 wr.heap.size w6.heap.size #[.int .i64 d, .int .i64 on, .string ⟨nm.toArray⟩, .string ⟨tn.toArray⟩, .slice ba b.length bc, .int .i64 n, .int .i64 keep, .slice fa fl.length fc] a7 C) :=
              ⟨d8, F7.out.upd u8' (fun k hk => Nat.lt_of_lt_of_le (fo k hk) B6.out.size), (u8'.block _ (lt_of_block K7.out) (fun h => by have := fo _ h; omega)).trans K7.out, BEL7.out.trans b8, Nat.lt_of_lt_of_le (fo db HA.out.dk.dk.at_) B6.out.size, obd⟩
            clear d8 u8' b8 f8 fo DC
            cases isw with
            | false =>
              go_wp2
              go_roundw
              case rel => exact ⟨i + 1, sp + m, s2, F8, by go_num, by go_num, by omega, by omega, by omega, P8.out.dk, CA.out, SW, P8.out.bel, RM.out⟩
              case measure => simp [intOf]; omega
            | true =>
              have FC := Lib.hid (Files_s P8.out.dk)
              go_wp2_with fail
              refine FC.out.mono ?_
              rintro r w9 ⟨aw, cw, rfl, hcw, f9, d9, u9', b9⟩
              have P9 := Lib.hid (P8.out.files d9 u9' b9)
              have C2L := OK2.out.len
              obtain ⟨C2, hC2⟩ : ∃ C2, s2.C = C2 := ⟨_, rfl⟩
              have D9 := Lib.hid d9
              rw [hC2] at f9 hcw C2L ⊢
              have C2E := Lib.hid hC2; have F9 := Lib.hid f9
              have dbl2 := P8.out.dk.dk.lt
              have FO := Lib.hid (file9_calls C a7 c7 nm w9 P9.out.fil.fil (by omega))
              unfold FileP at FO
              obtain ⟨hd, hhd⟩ : ∃ q, hasC C nm = q := ⟨_, rfl⟩
              obtain ⟨L, hL⟩ : ∃ q, bytC C nm = q := ⟨_, rfl⟩
              rw [hhd, hL] at FO
              have HHD := Lib.hid hhd; have HL := Lib.hid hL
              obtain ⟨-, -, y2, -, -, -, -, -⟩ := q9_of P9.out.blk
              clear f9 d9 u9' b9 FC P8 hC2 hhd hL
              go_wp2_with fail
              refine FO.out.mono ?_
              rintro r wx ⟨fo, fk, rfl, yo, -, rfl⟩
              have YO := Lib.hid yo
              clear yo FO y2
              go_upto_region 17 with fail
              go_cut [89] (fun c wx => c = .bool false ∧ Below w9.heap.size w9 wx)
              case first =>
                by_cases c4 : e = 0
                · have t4 : (e != 0) = false := by rw [c4]; rfl
                  clear c4
                  go_wp2_with (go_at_call 9; refine (num9_calls _ _).mono ?_; rintro r wx ⟨rfl, rfl⟩)
                  go_meet
                  case rel => exact ⟨by first | rfl | simp, Below.refl _ _⟩
                · have t4 : (e != 0) = true := bne_iff_ne.2 c4
                  have hs := RE.out c4
                  have e9 : C2 = C := by rw [← C2E.out, ← CL.out, hs]
                  subst e9
                  have EC := Lib.hid (EqFiles_same C2 a7 aw c7 cw w9 P9.out.fil.fil F9.out.fil (by omega) (fun p hp => by
                    have h9 := OK2.out.byt p.1
                    rw [bytC_mem OK2.out.so (by rw [C2E.out]; exact hp)] at h9
                    omega))
                  clear c4 hs
                  go_wp2_with (go_at_call 9; refine (num9_calls _ _).mono ?_; rintro r wx ⟨rfl, rfl⟩)
                  refine EC.out.mono ?_
                  rintro r wE ⟨rfl, bE⟩
                  have BE := Lib.hid bE
                  clear bE EC
                  go_wp2
                  go_meet
                  case rel => exact ⟨by first | rfl | simp, BE.out⟩
              case rest =>
                obtain ⟨wB, rfl⟩ : ∃ q, q = wc := ⟨_, rfl⟩
                obtain ⟨rfl, hbB⟩ := hcut
                have PB := Lib.hid (P9.out.below hbB); have FB := Lib.hid (F9.out.below hbB); have YB := Lib.hid (YO.out.below hbB)
                clear hbB P9 F9 YO D9
                obtain ⟨y0, -, y2, -, y4, -, -, -⟩ := q9_of PB.out.blk
                obtain ⟨P, hP⟩ : ∃ P : Bool, decide (d = 1 ∧ e = 0) = P := ⟨_, rfl⟩
                have PH := Lib.hid hP
                clear hP
                go_upto_region 19 with fail
                go_cut [97] (fun c wx => c = .bool P ∧ wB = wx)
                case first =>
                  by_cases d1 : d = 1
                  · subst d1
                    by_cases c4 : e = 0
                    · have e9 : P = true := by rw [← PH.out]; simp [c4]
                      subst e9; subst c4
                      go_wp2_with (go_at_call 9; refine (num9_calls _ _).mono ?_; rintro r wx ⟨rfl, rfl⟩)
                      go_meet
                      case rel => exact ⟨by first | rfl | simp, rfl⟩
                    · have e9 : P = false := by rw [← PH.out]; simp [c4]
                      subst e9
                      have t4 : (e == 0) = false := beq_eq_false_iff_ne.2 c4
                      go_wp2_with (go_at_call 9; refine (num9_calls _ _).mono ?_; rintro r wx ⟨rfl, rfl⟩)
                      go_meet
                      case rel => exact ⟨by first | rfl | simp, rfl⟩
                  · have e9 : P = false := by rw [← PH.out]; simp [d1]
                    subst e9
                    have t4 : (d == 1) = false := beq_eq_false_iff_ne.2 d1
                    go_wp2
                    go_meet
                    case rel => exact ⟨by first | rfl | simp, rfl⟩
                case rest =>
                  obtain ⟨rfl, rfl⟩ := hcut
                  go_upto_if 97 with fail
                  go_cut [15, 16] (fun _ _ wx => Below wB.heap.size wB wx)
                  case first =>
                    cases P with
                    | false =>
                      go_wp2
                      go_meet
                      case rel => exact Below.refl _ _
                    | true =>
                      have hb := of_decide_eq_true PH.out
                      obtain ⟨h1, h2, h3⟩ := AP.out hb.1 (by rw [HE.out]; exact hb.2)
                      rw [HS2.out, C2E.out] at h1 h2 h3
                      rw [CL.out] at h2 h3
                      rw [HL.out] at h2
                      obtain ⟨e1, e0⟩ := hb
                      subst e1; subst e0
                      obtain ⟨q, hq⟩ : ∃ q, L ++ b = q := ⟨_, rfl⟩
                      rw [hq] at h2
                      have F3 := Lib.hid (file9_calls C2 aw cw nm wB FB.out.fil (by omega))
                      unfold FileP at F3
                      rw [h1, h2] at F3
                      have x2 : (convert 33 9 (.slice fo L.length fk)).run Tryz.prog wB = .ok (.string ⟨L.toArray⟩) wB := conv_bytes Tryz.underlying33 Tryz.underlying5 Tryz.underlying9 YB.out
                      have x3 : (convert 33 9 (.slice ba b.length bc)).run Tryz.prog wB = .ok (.string ⟨b.toArray⟩) wB := conv_bytes Tryz.underlying33 Tryz.underlying5 Tryz.underlying9 (AT.out.byt.below PB.out.bel)
                      have LL : L.length ≤ 268435456 := by
                        have h9 := OK1.out.byt nm
                        rw [CL.out, HL.out] at h9
                        exact h9
                      have BL := AT.out.bl
                      have xa : (Op.stringOp .add ⟨L.toArray⟩ ⟨b.toArray⟩).run Tryz.prog wB = .ok (.string ⟨q.toArray⟩) wB := by
                        rw [run_string_add_sum wB _ _ (by show L.toArray.size + b.toArray.size ≤ _; rw [List.size_toArray, List.size_toArray]; simp only at BL; omega), ByteArray.mk_append_mk, hq]
                      have t6 : (q != q) = false := by simp
                      have OC := Lib.hid (others9_calls C C2 a7 aw c7 cw nm wB PB.out.fil.fil FB.out.fil (by omega) (by omega) h3)
                      clear h1 h2 h3 hq BL
                      go_wp2_with fail
                      refine F3.out.mono ?_
                      rintro r wx ⟨f3a, f3c, rfl, yo3, -, rfl⟩
                      have x1 : (convert 33 9 (.slice f3a q.length f3c)).run Tryz.prog wB = .ok (.string ⟨q.toArray⟩) wB := conv_bytes Tryz.underlying33 Tryz.underlying5 Tryz.underlying9 yo3
                      clear yo3 F3
                      go_wp2_with fail
                      refine OC.out.mono ?_
                      rintro r wE ⟨rfl, kE, rfl⟩
                      clear x1 x2 x3 xa OC
                      go_wp2
                      go_meet
                      case rel => exact bel_drewN (Below.refl _ _) kE
                  case rest =>
                    obtain ⟨wC, rfl⟩ : ∃ q, q = wc := ⟨_, rfl⟩
                    have PC := Lib.hid (PB.out.below hcut); have FCc := Lib.hid (FB.out.below hcut)
                    clear hcut PB FB YB y0 y2 y4
                    obtain ⟨-, -, -, -, y4, -, -, -⟩ := q9_of PC.out.blk
                    have SB : sumC C ≤ m0 + 1 := by
                      have h9 := OK1.out.sum
                      rw [CL.out, HA.out.rm] at h9
                      exact h9
                    have SQ := Lib.hid (fun k : Nat => sum9_calls C a7 c7 (wC.drewN k) (PC.out.fil.fil.below (bel_drewN (Below.refl _ _) k)) (by omega) (by omega))
                    have BL := AT.out.bl
                    simp only at BL
                    have FUU : Hid (e = 93 → (hd = false ∧ 64 ≤ C.length) ∨ m0 + 1 < sumC C + b.length) := fun h => by
                      have h9 := FU.out h
                      rw [CL.out, HHD.out, HA.out.rm] at h9
                      exact h9
                    obtain ⟨SU, hSU⟩ : ∃ q, sumC C = q := ⟨_, rfl⟩
                    rw [hSU] at SB SQ FUU
                    clear hSU
                    go_upto_region 23 with fail
                    go_cut [146] (fun c wx => c = .bool false ∧ Below wC.heap.size wC wx)
                    case first =>
                      by_cases c4 : e = 93
                      · have hu := FUU.out c4
                        have t4 : (e == 93) = true := beq_iff_eq.2 c4
                        have is1 : IntKind.i64.wrap ((SU : Int) + (b.length : Int)) = (SU : Int) + (b.length : Int) := IntWalk.i64_in _ (by omega)
                        by_cases c5 : m0 + 1 < SU + b.length
                        · have t5 : decide ((SU : Int) + (b.length : Int) ≤ 1 + (m0 : Int)) = false := decide_eq_false (by omega)
                          clear hu c4
                          go_quiet (first | ((go_at_call 9; exact qone (num9_calls _ _))) | ((go_at_call 22; exact qone (SQ.out _))))
                          clear is1
                          go_wp2
                          go_meet
                          case rel => exact ⟨by first | rfl | simp, bel_drewN (Below.refl _ _) _⟩
                        · have t5 : decide ((SU : Int) + (b.length : Int) ≤ 1 + (m0 : Int)) = true := decide_eq_true (by omega)
                          obtain ⟨h0, h64⟩ : hd = false ∧ 64 ≤ C.length := by rcases hu with h | h; exact h; exact absurd h c5
                          subst h0
                          have t6 : decide ((C.length : Int) < 64) = false := decide_eq_false (by omega)
                          have t6' : decide (C.length < 64) = false := decide_eq_false (by omega)
                          clear hu c4
                          go_quiet (first | ((go_at_call 9; exact qone (num9_calls _ _))) | ((go_at_call 22; exact qone (SQ.out _))))
                          clear is1
                          go_wp2
                          go_meet
                          case rel => exact ⟨by first | rfl | simp, bel_drewN (Below.refl _ _) _⟩
                      · have t4 : (e == 93) = false := beq_eq_false_iff_ne.2 c4
                        clear c4
                        go_quiet ((go_at_call 9; exact qone (num9_calls _ _)))
                        go_wp2
                        go_meet
                        case rel => exact ⟨by first | rfl | simp, bel_drewN (Below.refl _ _) _⟩
                    case rest =>
                      obtain ⟨wD, rfl⟩ : ∃ q, q = wc := ⟨_, rfl⟩
                      obtain ⟨rfl, hbD⟩ := hcut
                      have PD := Lib.hid (PC.out.below hbD); have FD := Lib.hid (FCc.out.below hbD)
                      clear hbD PC FCc y4 SQ
                      have SB2 : sumC C2 ≤ m0 + 1 := by
                        have h9 := OK2.out.sum
                        rw [C2E.out, RM.out] at h9
                        exact h9
                      have S2 := Lib.hid (sum9_calls C2 aw cw wD FD.out.fil (by omega) (by omega))
                      have TC := tells9_calls w0.heap.size db F8 s2 w8.heap.size aw cw wD PD.out.dk CA.out.off (by rw [C2E.out]; exact FD.out) dbl2
                      rw [C2E.out] at TC
                      have TCH := Lib.hid TC
                      obtain ⟨SV, hSV⟩ : ∃ q, sumC C2 = q := ⟨_, rfl⟩
                      rw [hSV] at SB2 S2
                      have t7 : decide ((1 + (m0 : Int)) < (SV : Int)) = false := decide_eq_false (by omega)
                      have t8 : decide ((64 : Int) < (C2.length : Int)) = false := decide_eq_false (by omega)
                      have t8' : decide (64 < C2.length) = false := decide_eq_false (by omega)
                      clear TC hSV
                      go_wp2_with fail
                      refine S2.out.mono ?_
                      rintro r wx ⟨rfl, rfl⟩
                      clear S2
                      go_wp2_with fail
                      refine TCH.out.mono ?_
                      rintro r wE ⟨rfl, dE, uE', bE⟩
                      have HN : Hid (HoS w0 wE w0.heap.size db (m0 + 1) (i + 1) s2 F8) := ⟨dE, CA.out, SW, PD.out.bel.trans bE, RM.out⟩
                      clear dE uE' bE TCH
                      go_wp2
                      go_roundw
                      case rel => exact ⟨i + 1, sp + m, s2, F8, by go_num, by go_num, by omega, by omega, by omega, HN.out⟩
                      case measure => simp [intOf]; omega
        · have t2 : decide ((i : Int) < 400) = false := decide_eq_false (by omega)
          have t2' : decide (i < 400) = false := decide_eq_false c2
          go_wp2
          go_meet
          case rel => exact ⟨i, s, F, HA.out, hi4⟩
      · have t1 : decide ((i : Int) < (ops.length : Int)) = false := decide_eq_false (by omega)
        have t1' : decide (i < ops.length) = false := decide_eq_false c1
        go_wp2
        go_meet
        case rel => exact ⟨i, s, F, HA.out, hi4⟩
  case rest =>
    clear IA D1 D2
    obtain ⟨wA, rfl⟩ : ∃ q, q = wc := ⟨_, rfl⟩
    obtain ⟨i, s, F, hh, hi⟩ := hcut
    have HA := Lib.hid hh
    have OK := Lib.hid hh.dk.dk.ok
    have FC := Lib.hid (Files_s hh.dk)
    have CL64 := hh.dk.dk.ok.len
    clear hh
    go_wp2_with fail
    refine FC.out.mono ?_
    rintro r w5 ⟨a5, c5, rfl, -, f5, d5, u5', b5⟩
    have D5 := Lib.hid d5
    have B5 := Lib.hid (HA.out.bel.trans b5)
    have LC0 := Load_calls (1 + (m0 : Int)) s.C a5 c5 w5 f5.fil (fun p hp => by
      have h1 := OK.out.nm p hp
      have h2 := OK.out.byt p.1
      rw [bytC_mem OK.out.so hp] at h2
      unfold nmOk at h1
      simp only [Bool.and_eq_true, decide_eq_true_eq] at h1
      exact ⟨by omega, by omega⟩) (by omega)
    have LC := Lib.hid LC0
    clear f5 d5 u5' b5 LC0 FC
    go_wp2_with fail
    refine LC.out.mono ?_
    rintro r w6 hr
    have eR : (1 + (m0 : Int)) = (s.room : Int) := by rw [HA.out.rm]; omega
    unfold LoadP at hr
    rw [eR, loadR_self OK.out] at hr
    obtain ⟨db2, rfl, g2, g3⟩ := hr
    obtain ⟨S', hS'⟩ : ∃ q : DS, { DS.new s.room with C := s.C } = q := ⟨_, rfl⟩
    have eC : S'.C = s.C := by rw [← hS']
    have eW : S'.writes = 0 := by rw [← hS']; rfl
    have eO : S'.off = false := by rw [← hS']; rfl
    have DC : DkS w6 w5.heap.size db2 (fun i => w5.heap.size ≤ i ∧ w5.heap.size ≤ i ∧ i < w6.heap.size) S' := by
      rw [← hS']
      exact ⟨g2.cut, fun i hi => hi.2, g3.size⟩
    have D6 := Lib.hid (D5.out.below g3)
    have B6 := Lib.hid (B5.out.trans (g3.mono D5.out.bw))
    have DCH := Lib.hid DC
    have FX := Lib.hid (Files_s DC)
    have EC := Lib.hid eC; have EW := Lib.hid eW; have EO := Lib.hid eO
    have lt5 : ∀ k, F k → k < w5.heap.size := fun k hk => (D5.out.fl k hk).2
    have LT5 := Lib.hid lt5
    have G3 := Lib.hid g3.size
    clear g2 g3 hS' eC eW eO eR DC lt5 LC
    go_wp2_with (go_at_call 9; refine (num9_calls _ _).mono ?_; rintro r wx ⟨rfl, rfl⟩)
    refine FX.out.mono ?_
    rintro r w7 ⟨a7, c7, rfl, -, f7, d7, u7', b7⟩
    rw [EC.out] at f7 ⊢
    have db2l : w5.heap.size ≤ db2 := (DCH.out.fl db2 DCH.out.dk.at_).1
    have dbl : db < w5.heap.size := LT5.out db D6.out.dk.at_
    have D7 := Lib.hid (D6.out.upd u7' (fun k hk hf => by have := LT5.out k hf; omega))
    have B7 := Lib.hid (B6.out.trans (b7.mono (Nat.le_trans (D5.out.bw) (Nat.le_refl _))))
    have F7 := Lib.hid f7; have DC7 := Lib.hid d7
    have FY := Lib.hid (Files_s D7.out)
    clear f7 d7 u7' b7 FX
    go_wp2_with fail
    refine FY.out.mono ?_
    rintro r w8 ⟨a8, c8, rfl, -, f8, d8, u8', b8⟩
    have B8 := Lib.hid (B7.out.trans b8)
    have DC8 := Lib.hid (DC7.out.upd u8' (fun k hk hf => by have := hf.1; omega))
    have f78 := F7.out.upd u8' (fun k hk => by have := G3.out; omega)
    have EQ := Lib.hid (EqFiles_same s.C a7 a8 c7 c8 w8 f78.fil f8.fil (by omega) (fun p hp => by
      have h2 := OK.out.byt p.1
      rw [bytC_mem OK.out.so hp] at h2
      omega))
    clear f8 d8 u8' b8 f78 FY
    go_wp2_with fail
    refine EQ.out.mono ?_
    rintro r w9 ⟨rfl, b9⟩
    have B9 := Lib.hid (B8.out.trans (b9.mono (B8.out.size)))
    have DC9 := DC8.out.below b9
    have WR0 : Calls Tryz.prog 14 #[.pointer (some ⟨db2, 0, none⟩)] w9 fun r w' => r = .returned (.int .i64 (S'.writes : Int)) ∧ DkStep w9 w' w5.heap.size db2 _ S' := (Writes_dk DC9.dk).mono fun _ _ hr => ⟨hr.1, DC9.step hr.2⟩
    rw [EW.out] at WR0
    have WR := Lib.hid WR0
    clear b9 WR0 DC9 EQ
    go_wp2_with fail
    refine WR.out.mono ?_
    rintro r w10 ⟨rfl, F10, d10, u10', b10, -⟩
    have B10 := Lib.hid (B9.out.trans (b10.mono D5.out.bw))
    have OF0 := d10.offq
    rw [EO.out] at OF0
    have OFH := Lib.hid OF0
    clear d10 u10' b10 OF0 WR
    go_wp2_with fail
    refine OFH.out.mono ?_
    rintro r w11 ⟨rfl, F11, d11, u11', b11, -⟩
    have B11 := Lib.hid (B10.out.trans (b11.mono D5.out.bw))
    clear d11 u11' b11 OFH
    go_wp2
    go_ret
    exact ⟨by first | rfl | simp, B0.out.trans (B11.out.mono B0.out.size)⟩
end Go.Proofs.YtcmllfnhdodbdaaGreatDoor
