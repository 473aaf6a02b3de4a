/- posternlaw9.DiskMoves. -/
import Derived.Test.YtcmllfnhdodbdaaDoorL9m
import Derived.Deep.CutBlock
import Derived.Deep.DeepCutAuto
import Derived.BigQuiet
namespace Go.Proofs.YtcmllfnhdodbdaaDoor
set_option linter.unusedVariables false
set_option linter.unusedSimpArgs false
open Go.RowKit Go.Maps
/-- Ops stand at a. -/
def Ops9 (w : World) (a : Option Addr) (ops : List O9) : Prop :=
  ∀ i (h : i < ops.length), (ops[i]).At w ∧ ∃ b o, a = some ⟨b, o, none⟩ ∧
    w.cell? ⟨b, o + i * 8, none⟩ = some (.int .i64 ops[i].d) ∧ w.cell? ⟨b, o + i * 8 + 1, none⟩ = some (.int .i64 ops[i].on) ∧ w.cell? ⟨b, o + i * 8 + 2, none⟩ = some (.string ⟨ops[i].nm.toArray⟩) ∧ w.cell? ⟨b, o + i * 8 + 3, none⟩ = some (.string ⟨ops[i].tn.toArray⟩) ∧
    w.cell? ⟨b, o + i * 8 + 4, none⟩ = some (.slice ops[i].ba ops[i].b.length ops[i].bc) ∧ w.cell? ⟨b, o + i * 8 + 5, none⟩ = some (.int .i64 ops[i].n) ∧ w.cell? ⟨b, o + i * 8 + 6, none⟩ = some (.int .i64 ops[i].keep) ∧ w.cell? ⟨b, o + i * 8 + 7, none⟩ = some (.slice ops[i].fa ops[i].fl.length ops[i].fc)
theorem Ops9.below {w w' : World} {a : Option Addr} {ops : List O9} (h : Ops9 w a ops) (hb : Below w.heap.size w w') : Ops9 w' a ops := by
  intro i hi
  obtain ⟨ha, b, o, e, h0, h1, h2, h3, h4, h5, h6, h7⟩ := h i hi
  have hl : b < w.heap.size := World.block_lt_of_cell? w _ h0
  have k : ∀ j v, w.cell? ⟨b, o + i * 8 + j, none⟩ = some v → w'.cell? ⟨b, o + i * 8 + j, none⟩ = some v := fun j v hv => by rw [hb.cell (p := ⟨b, o + i * 8 + j, none⟩) hl]; exact hv
  exact ⟨ha.below hb, b, o, e, k 0 _ h0, k 1 _ h1, k 2 _ h2, k 3 _ h3, k 4 _ h4, k 5 _ h5, k 6 _ h6, k 7 _ h7⟩
/-- In the loop. -/
structure MvS (w0 wr : World) (B db : Nat) (i : Nat) (s : DS) (F : Nat → Prop) : Prop where
  dk : DkS wr B db F s
  calm : Calm s
  wn : s.writes ≤ i
  bel : Below B w0 wr
/-- Behind a write, in a round. -/
structure MvP (w0 wx : World) (B db : Nat) (s2 : DS) (F : Nat → Prop) (ob Bd : Nat) (cs : Array Value) (a7 : Option Addr) (C : Con) : Prop where
  dk : DkS wx B db F s2
  fil : FilB wx Bd a7 C
  blk : wx.heap[ob]? = some (.cells cs 43 (0, 0))
  bel : Below B w0 wx
  dbl : db < Bd
  obd : ob ≠ db
theorem MvP.below {w0 wx w' : World} {B db : Nat} {s2 : DS} {F : Nat → Prop} {ob Bd : Nat} {cs : Array Value} {a7 : Option Addr} {C : Con} (h : MvP w0 wx B db s2 F ob Bd cs a7 C) (hb : Below wx.heap.size wx w') : MvP w0 w' B db s2 F ob Bd cs a7 C :=
  ⟨h.dk.below hb, h.fil.below hb, (hb.block _ (lt_of_block h.blk)).trans h.blk, h.bel.trans (hb.mono h.dk.bw), h.dbl, h.obd⟩
theorem MvP.files {w0 wx w' : World} {B db : Nat} {s2 s3 : DS} {F : Nat → Prop} {ob Bd : Nat} {cs : Array Value} {a7 : Option Addr} {C : Con} (h : MvP w0 wx B db s2 F ob Bd cs a7 C) (hd : DkS w' B db F s3) (hu : Upd (fun i => i = db) wx w') (hb : Below B wx w') : MvP w0 w' B db s3 F ob Bd cs a7 C :=
  ⟨hd, h.fil.upd hu (fun k hk => by rw [hk]; exact h.dbl), (hu.block _ (lt_of_block h.blk) (fun e => h.obd e)).trans h.blk, h.bel.trans hb, h.dbl, h.obd⟩
def Q9 (w : World) (ob : Nat) (d on n keep : Int) (nm tn b : List UInt8) (ba fa : Option Addr) (bc fc fn : Nat) : Prop :=
  w.cell? ⟨ob, 0, none⟩ = some (.int .i64 d) ∧ w.cell? ⟨ob, 1, none⟩ = some (.int .i64 on) ∧ w.cell? ⟨ob, 2, none⟩ = some (.string ⟨nm.toArray⟩) ∧ w.cell? ⟨ob, 3, none⟩ = some (.string ⟨tn.toArray⟩) ∧ w.cell? ⟨ob, 4, none⟩ = some (.slice ba b.length bc) ∧ w.cell? ⟨ob, 5, none⟩ = some (.int .i64 n) ∧ w.cell? ⟨ob, 6, none⟩ = some (.int .i64 keep) ∧ w.cell? ⟨ob, 7, none⟩ = some (.slice fa fn fc)
theorem q9_of {w : World} {ob : Nat} {d on n keep : Int} {nm tn b : List UInt8} {ba fa : Option Addr} {bc fc fn : Nat} {fr : Nat × Nat} (h : w.heap[ob]? = some (.cells #[.int .i64 d, .int .i64 on, .string ⟨nm.toArray⟩, .string ⟨tn.toArray⟩, .slice ba b.length bc, .int .i64 n, .int .i64 keep, .slice fa fn fc] 43 fr)) : Q9 w ob d on n keep nm tn b ba fa bc fc fn :=
  ⟨by rw [cell_of_row' h]; rfl, by rw [cell_of_row' h]; rfl, by rw [cell_of_row' h]; rfl, by rw [cell_of_row' h]; rfl, by rw [cell_of_row' h]; rfl, by rw [cell_of_row' h]; rfl, by rw [cell_of_row' h]; rfl, by rw [cell_of_row' h]; rfl⟩
def MvE (w0 wr : World) (B : Nat) : Prop := Below B w0 wr
set_option maxRecDepth 100000 in
set_option maxHeartbeats 8000000 in
theorem DiskMoves_calls (w : World) (r0 r1 : Int) (pa : Option Addr) (pk : Nat) (ops : List O9) (hop : Ops9 w pa ops) (hl : ops.length ≤ 140737488355328) :
    Calls Tryd.prog 5 #[.agg #[.int .i64 r0, .int .i64 r1, .slice pa ops.length pk]] w fun r w' => r = .returned (.bool true) ∧ Below w.heap.size w w' := by
  obtain ⟨w0, hw0⟩ : ∃ q, w.alloc (.cells #[.int .i64 r0, .int .i64 r1, .slice pa ops.length pk] 54) = q := ⟨_, rfl⟩
  have b0 : Below w.heap.size w w0 := by rw [← hw0]; exact (Below.refl _ _).alloc (Nat.le_refl _) _
  have blk : w0.heap[w.heap.size]? = some (.cells #[.int .i64 r0, .int .i64 r1, .slice pa ops.length pk] 54 (0, 0)) := by rw [← hw0]; exact heap_alloc_new w _
  have s0 : w.heap.size < w0.heap.size := lt_of_block blk
  have CP := Lib.hid (fun (w' : World) (hb : Below w0.heap.size w0 w') => show w'.cell? ⟨w.heap.size, 2, none⟩ = some (.slice pa ops.length pk) from by
    have h9 := (hb.block _ s0).trans blk
    rw [cell_of_row' h9]; rfl)
  have OP := Lib.hid (hop.below b0)
  have NC := Lib.hid (NewK_calls 1048576 w0)
  have W0 := Lib.hid hw0; have B0 := Lib.hid b0
  clear hop b0 blk hw0
  go_enter Tryd.func5, Tryd.ntmps5
  go_wp2_with fail
  rw [W0.out]
  refine NC.out.mono ?_
  rintro r w1 hr
  obtain ⟨db, F1, rfl, dd1, b1⟩ := new_s (room := 1048576) (by decide) (by decide) hr
  have D1 := Lib.hid dd1; have B1 := Lib.hid b1
  clear dd1 b1 hr NC
  have WK := Lib.hid (works9_calls w1)
  go_wp2_with (go_at_call 8; refine (num9_calls _ _).mono ?_; rintro r wx ⟨rfl, rfl⟩)
  refine WK.out.mono ?_
  rintro r w2 ⟨rfl, b2⟩
  have D2 := Lib.hid (D1.out.below b2)
  have B2 := Lib.hid (B1.out.trans (b2.mono D1.out.bw))
  clear b2 WK
  have IA : Hid (MvS w0 w2 w0.heap.size db 0 (DS.new 1048576) F1) := ⟨D2.out, ⟨rfl, rfl⟩, Nat.le_refl _, B2.out⟩
  go_upto_block 0 with fail
  go_cut [] (fun wr => MvE w0 wr w0.heap.size)
  case first =>
    go_wp2
    go_loopw [5, 6] (fun vs vi wr => ∃ (i sp : Nat) (s : DS) (F : Nat → Prop), vs = .int .i64 sp ∧ vi = .int .i64 i ∧ i ≤ ops.length ∧ sp ≤ 262144 ∧ MvS w0 wr w0.heap.size db i s F) (fun _ vi _ => ops.length - (intOf vi).toNat)
    case atStart => exact ⟨0, 0, _, F1, rfl, rfl, Nat.zero_le _, by omega, IA.out⟩
    case round =>
      clear IA
      obtain ⟨i, sp, s, F, rfl, rfl, hi, hsp, hh⟩ := hrel
      have q2 := CP.out wr hh.bel
      have OW := OP.out.below hh.bel
      have HA := Lib.hid hh
      clear hh
      by_cases c1 : i < ops.length
      · have t1 : decide ((i : Int) < (ops.length : Int)) = true := decide_eq_true (by omega)
        have t1' : decide (i < ops.length) = true := decide_eq_true c1
        by_cases c2 : i < 400
        · have t2 : decide ((i : Int) < 400) = true := decide_eq_true (by omega)
          have t2' : decide (i < 400) = true := decide_eq_true c2
          have i2 : (i : Int) < (ops.length : Int) := by omega
          obtain ⟨-, ab, ao, rfl, h0, h1, h2, h3, h4, h5, h6, h7⟩ := OW i c1
          obtain ⟨o, ho⟩ : ∃ o, ops[i] = o := ⟨_, rfl⟩
          have hat := (OP.out i c1).1
          rw [ho] at hat h0 h1 h2 h3 h4 h5 h6 h7
          obtain ⟨d, on, nm, tn, ba, b, bc, n, keep, fa, fl, fc⟩ := o
          dsimp only at h0 h1 h2 h3 h4 h5 h6 h7
          have AT := Lib.hid hat
          clear hat ho OW
          obtain ⟨w5, hw5⟩ : ∃ q, wr.alloc (.cells #[.int .i64 d, .int .i64 on, .string ⟨nm.toArray⟩, .string ⟨tn.toArray⟩, .slice ba b.length bc, .int .i64 n, .int .i64 keep, .slice fa fl.length fc] 43) = q := ⟨_, rfl⟩
          have b5 : Below wr.heap.size wr w5 := by rw [← hw5]; exact (Below.refl _ _).alloc (Nat.le_refl _) _
          have SC := Lib.hid (size9_calls d on n keep nm tn b ba fa bc fc fl w5 ((AT.out.fil.below HA.out.bel).below b5) AT.out.bl AT.out.ll AT.out.fs)
          have W5 := Lib.hid hw5; have B5 := Lib.hid b5
          clear hw5 b5
          have blk5 : w5.heap[wr.heap.size]? = some (.cells #[.int .i64 d, .int .i64 on, .string ⟨nm.toArray⟩, .string ⟨tn.toArray⟩, .slice ba b.length bc, .int .i64 n, .int .i64 keep, .slice fa fl.length fc] 43 (0, 0)) := by rw [← W5.out]; exact heap_alloc_new wr _
          have K5 := Lib.hid blk5
          clear blk5
          go_wp2_with fail
          rw [W5.out]
          refine SC.out.mono ?_
          rintro r w6 ⟨m, rfl, hm1, hm2, b6⟩
          have B6 := Lib.hid (B5.out.trans (b6.mono B5.out.size))
          have K6 := Lib.hid ((b6.block _ (lt_of_block K5.out)).trans K5.out)
          have D6 := Lib.hid (HA.out.dk.below B6.out)
          have BEL6 := Lib.hid (HA.out.bel.trans (B6.out.mono HA.out.dk.bw))
          clear b6 h0 h1 h2 h3 h4 h5 h6 h7 q2 SC
          by_cases c3 : 262144 < sp + m
          · have t3 : decide ((262144 : Int) < (sp : Int) + (m : Int)) = true := decide_eq_true (by omega)
            have t3' : decide (262144 < sp + m) = true := decide_eq_true c3
            go_wp2
            go_meet
            case rel => exact BEL6.out
          · have t3 : decide ((262144 : Int) < (sp : Int) + (m : Int)) = false := decide_eq_false (by omega)
            have t3' : decide (262144 < sp + m) = false := decide_eq_false c3
            have FC := Lib.hid (Files_s D6.out)
            go_wp2_with fail
            refine FC.out.mono ?_
            rintro r w7 ⟨a7, c7, rfl, hc7, f7, d7, u7', b7⟩
            have obd : wr.heap.size ≠ db := fun e => by have := (HA.out.dk.fl db HA.out.dk.dk.at_).2; omega
            have K7 := Lib.hid ((u7'.block _ (lt_of_block K6.out) (fun e => obd e)).trans K6.out)
            have D7 := Lib.hid d7; have F7 := Lib.hid f7
            have BEL7 := Lib.hid (BEL6.out.trans b7)
            have DC := Lib.hid (do9_calls w0.heap.size db F s d on n keep nm tn b ba fa bc fc fl.length w7 d7 (AT.out.byt.below BEL7.out) AT.out.bl AT.out.nl AT.out.tl (by have := HA.out.wn; omega))
            have CA := Lib.hid (HA.out.calm.doD (d := d) (nm := nm) (tn := tn) (b := b) (n := n))
            have WN := Lib.hid (doD_writes (d := d) (nm := nm) (tn := tn) (b := b) (n := n) HA.out.calm)
            have OK := HA.out.dk.dk.ok
            have MV := Lib.hid (doD_moved (d := d) (nm := nm) (tn := tn) (b := b) (n := n) HA.out.calm OK)
            have GO := Lib.hid (doD_goes (d := d) (nm := nm) (tn := tn) (b := b) (n := n) HA.out.calm OK)
            have OK2 := Lib.hid (doD_ok (d := d) (nm := nm) (tn := tn) (b := b) (n := n) OK)
            have OK1 := Lib.hid OK
            obtain ⟨e, he⟩ : ∃ e, (doD s d nm tn b n).1 = e := ⟨_, rfl⟩
            obtain ⟨isw, his⟩ : ∃ e, (doD s d nm tn b n).2.1 = e := ⟨_, rfl⟩
            obtain ⟨s2, hs2⟩ : ∃ e, (doD s d nm tn b n).2.2 = e := ⟨_, rfl⟩
            unfold DoP9 at DC
            rw [he, his, hs2] at DC
            rw [hs2] at CA OK2
            rw [he, his, hs2] at WN
            rw [he, hs2] at MV
            rw [he] at GO
            obtain ⟨C, hC⟩ : ∃ C, s.C = C := ⟨_, rfl⟩
            rw [hC] at hc7 F7 MV ⊢
            have CL := Lib.hid hC
            have SW : s2.writes ≤ i + 1 := by have h9 := WN.out; have h8 := HA.out.wn; split at h9 <;> omega
            clear f7 d7 u7' b7 FC OK he his hs2 hC WN
            obtain ⟨y0, y1, y2, y3, y4, y5, y6, y7⟩ := q9_of K7.out
            go_wp2_with fail
            refine DC.out.mono ?_
            rintro r w8 ⟨rfl, F8, d8, u8', b8, f8⟩
            clear y0 y1 y2 y3 y4 y5 y6 y7
            have CLEN : C.length ≤ 64 := by rw [← CL.out]; exact OK1.out.len
            have fo : ∀ k, F k → k < wr.heap.size := fun k hk => (HA.out.dk.fl k hk).2
            have P8 : Hid (MvP w0 w8 w0.heap.size db s2 F8 wr.heap.size w6.heap.size #[.int .i64 d, .int .i64 on, .string ⟨nm.toArray⟩, .string ⟨tn.toArray⟩, .slice ba b.length bc, .int .i64 n, .int .i64 keep, .slice fa fl.length fc] a7 C) :=
              ⟨d8, F7.out.upd u8' (fun k hk => Nat.lt_of_lt_of_le (fo k hk) B6.out.size), (u8'.block _ (lt_of_block K7.out) (fun h => by have := fo _ h; omega)).trans K7.out, BEL7.out.trans b8, Nat.lt_of_lt_of_le (fo db HA.out.dk.dk.at_) B6.out.size, obd⟩
            clear d8 u8' b8 f8 fo DC
            cases isw with
            | false =>
              go_wp2
              go_roundw
              case rel => exact ⟨i + 1, sp + m, s2, F8, by go_num, by go_num, by omega, by omega, P8.out.dk, CA.out, SW, P8.out.bel⟩
              case measure => simp [intOf]; omega
            | true =>
              go_upto_region 14 with fail
              go_cut [71] (fun c wx => c = .bool false ∧ MvP w0 wx w0.heap.size db s2 F8 wr.heap.size w6.heap.size #[.int .i64 d, .int .i64 on, .string ⟨nm.toArray⟩, .string ⟨tn.toArray⟩, .slice ba b.length bc, .int .i64 n, .int .i64 keep, .slice fa fl.length fc] a7 C)
              case first =>
                by_cases c4 : e = 0
                · subst c4
                  obtain ⟨y0, y1, y2, y3, y4, y5, y6, y7⟩ := q9_of P8.out.blk
                  have PD : Hid (MvP w0 w8.drew w0.heap.size db s2 F8 wr.heap.size w6.heap.size #[.int .i64 d, .int .i64 on, .string ⟨nm.toArray⟩, .string ⟨tn.toArray⟩, .slice ba b.length bc, .int .i64 n, .int .i64 keep, .slice fa fl.length fc] a7 C) := P8.out.below (bel_drewN (Below.refl _ _) 1)
                  have FX := Lib.hid (Files_s PD.out.dk)
                  have PF := Lib.hid (fun (w9 : World) (hd : DkS w9 w0.heap.size db F8 s2) (hu : Upd (fun i => i = db) w8.drew w9) (hb : Below w0.heap.size w8.drew w9) => PD.out.files hd hu hb)
                  have MC := Lib.hid (fun (a9 : Option Addr) (c9 : Nat) (w9 : World) (f9 : FilB w9 w8.drew.heap.size a9 s2.C) (p9 : MvP w0 w9 w0.heap.size db s2 F8 wr.heap.size w6.heap.size #[.int .i64 d, .int .i64 on, .string ⟨nm.toArray⟩, .string ⟨tn.toArray⟩, .slice ba b.length bc, .int .i64 n, .int .i64 keep, .slice fa fl.length fc] a7 C) =>
                    moved9_calls C s2.C a7 a9 c7 c9 d on n keep nm tn b ba fa bc fc fl.length w9 p9.fil.fil f9.fil (by omega) (by have := OK2.out.len; omega) (fun p hp => by
                      have h9 := OK1.out.byt p.1
                      rw [bytC_mem OK1.out.so (by rw [CL.out]; exact hp)] at h9
                      omega) (MV.out rfl))
                  go_region_held3 (fun w' => w'.cell? ⟨wr.heap.size, 0, none⟩ = some (.int .i64 d) ∧ w'.cell? ⟨wr.heap.size, 1, none⟩ = some (.int .i64 on) ∧ w'.cell? ⟨wr.heap.size, 2, none⟩ = some (.string ⟨nm.toArray⟩) ∧ w'.cell? ⟨wr.heap.size, 3, none⟩ = some (.string ⟨tn.toArray⟩) ∧ w'.cell? ⟨wr.heap.size, 4, none⟩ = some (.slice ba b.length bc) ∧ w'.cell? ⟨wr.heap.size, 5, none⟩ = some (.int .i64 n) ∧ w'.cell? ⟨wr.heap.size, 6, none⟩ = some (.int .i64 keep) ∧ w'.cell? ⟨wr.heap.size, 7, none⟩ = some (.slice fa fl.length fc))
                    (first
                      | go_keep)
                    (first
                      | (go_at_call 8; refine (num9_calls _ _).mono ?_; rintro r wx ⟨rfl, rfl⟩)
                      | (go_at_call 16; refine FX.out.mono ?_; rintro r w9 ⟨a9, c9, rfl, hc9, f9, d9, u9', b9⟩; obtain ⟨x0, x1, x2, x3, x4, x5, x6, x7⟩ := q9_of (PF.out w9 d9 u9' b9).blk)
                      | (go_at_call 24; refine (MC.out a9 c9 w9 f9 (PF.out w9 d9 u9' b9)).mono ?_; rintro r wE ⟨rfl, bE⟩; obtain ⟨v0, v1, v2, v3, v4, v5, v6, v7⟩ := q9_of ((PF.out w9 d9 u9' b9).below bE).blk))
                  all_goals
                    have PE := Lib.hid ((PF.out _ d9 u9' b9).below bE)
                    clear d9 u9' b9 bE
                    go_wp2_with fail
                    go_meet
                    case rel => exact ⟨by first | rfl | simp, PE.out⟩
                · have t4 : (e == 0) = false := beq_eq_false_iff_ne.2 c4
                  go_quiet ((go_at_call 8; exact qone (num9_calls _ _)))
                  go_wp2
                  go_meet
                  case rel => exact ⟨by first | rfl | simp, P8.out.below (bel_drewN (Below.refl _ _) _)⟩
              case rest =>
                obtain ⟨wA, rfl⟩ : ∃ q, q = wc := ⟨_, rfl⟩
                obtain ⟨rfl, hP⟩ := hcut
                have PA := Lib.hid hP
                clear hP P8
                have FC := Lib.hid (file9_calls C a7 c7 nm wA PA.out.fil.fil (by omega))
                obtain ⟨hd, hhd⟩ : ∃ q, hasC C nm = q := ⟨_, rfl⟩
                obtain ⟨L, hL⟩ : ∃ q, bytC C nm = q := ⟨_, rfl⟩
                unfold FileP at FC
                rw [hhd, hL] at FC
                have GO2 : Hid (hd = true → (d = 4 ∨ (d = 2 ∧ 0 ≤ n ∧ n ≤ L.length) ∨ (d = 3 ∧ nmOk tn = true)) → e = 0) := fun h1 h2 => GO.out (by rw [CL.out, hhd]; exact h1) (by rw [CL.out, hL]; exact h2)
                clear hhd hL
                obtain ⟨y0, -, y2, y3, -, y5, -, -⟩ := q9_of PA.out.blk
                go_wp2_with fail
                refine FC.out.mono ?_
                rintro r wx ⟨fa1, fc1, rfl, -, -, rfl⟩
                clear FC
                obtain ⟨P, hP⟩ : ∃ P : Bool, decide (hd = true ∧ (d = 4 ∨ (d = 2 ∧ 0 ≤ n ∧ n ≤ L.length) ∨ (d = 3 ∧ (tn = [97] ∨ tn = [98])))) = P := ⟨_, rfl⟩
                have PH := Lib.hid hP
                clear hP
                go_upto_region 17 with fail
                go_cut [13] (fun c wx => c = .bool P ∧ wA = wx)
                case first =>
                  have n97 : ([97] : List UInt8) ≠ [98] := by decide
                  cases hd with
                  | false =>
                    have e9 : P = false := by rw [← PH.out]; simp
                    subst e9
                    go_wp2
                    go_meet
                    case rel => exact ⟨by first | rfl | simp, rfl⟩
                  | true =>
                    by_cases d4 : d = 4
                    · subst d4
                      have e9 : P = true := by rw [← PH.out]; simp
                      subst e9
                      go_wp2
                      go_meet
                      case rel => exact ⟨by first | rfl | simp, rfl⟩
                    · have t4 : (d == 4) = false := beq_eq_false_iff_ne.2 d4
                      by_cases d2 : d = 2
                      · subst d2
                        by_cases n0 : 0 ≤ n
                        · have t5 : decide (0 ≤ n) = true := decide_eq_true n0
                          by_cases nl : n ≤ (L.length : Int)
                          · have t6 : decide (n ≤ (L.length : Int)) = true := decide_eq_true nl
                            have e9 : P = true := by rw [← PH.out]; simp [n0, nl]
                            subst e9
                            go_wp2
                            go_meet
                            case rel => exact ⟨by first | rfl | simp, rfl⟩
                          · have t6 : decide (n ≤ (L.length : Int)) = false := decide_eq_false nl
                            have e9 : P = false := by rw [← PH.out]; simp [n0, nl]
                            subst e9
                            go_wp2
                            go_meet
                            case rel => exact ⟨by first | rfl | simp, rfl⟩
                        · have t5 : decide (0 ≤ n) = false := decide_eq_false n0
                          have e9 : P = false := by rw [← PH.out]; simp [n0]
                          subst e9
                          go_wp2
                          go_meet
                          case rel => exact ⟨by first | rfl | simp, rfl⟩
                      · have t2 : (d == 2) = false := beq_eq_false_iff_ne.2 d2
                        by_cases d3 : d = 3
                        · subst d3
                          by_cases ta : tn = [97]
                          · subst ta
                            have e9 : P = true := by rw [← PH.out]; simp
                            subst e9
                            go_wp2
                            go_meet
                            case rel => exact ⟨by first | rfl | simp, rfl⟩
                          · have t7 : (tn == [97]) = false := beq_eq_false_iff_ne.2 ta
                            by_cases tb : tn = [98]
                            · subst tb
                              have e9 : P = true := by rw [← PH.out]; simp
                              subst e9
                              go_wp2
                              go_meet
                              case rel => exact ⟨by first | rfl | simp, rfl⟩
                            · have t8 : (tn == [98]) = false := beq_eq_false_iff_ne.2 tb
                              have e9 : P = false := by rw [← PH.out]; simp [ta, tb]
                              subst e9
                              go_wp2
                              go_meet
                              case rel => exact ⟨by first | rfl | simp, rfl⟩
                        · have t3 : (d == 3) = false := beq_eq_false_iff_ne.2 d3
                          have e9 : P = false := by rw [← PH.out]; simp [d4, d2, d3]
                          subst e9
                          go_wp2
                          go_meet
                          case rel => exact ⟨by first | rfl | simp, rfl⟩
                case rest =>
                  obtain ⟨rfl, rfl⟩ := hcut
                  cases P with
                  | false =>
                    go_wp2
                    go_roundw
                    case rel => exact ⟨i + 1, sp + m, s2, F8, by go_num, by go_num, by omega, by omega, PA.out.dk, CA.out, SW, PA.out.bel⟩
                    case measure => simp [intOf]; omega
                  | true =>
                    have hb := of_decide_eq_true PH.out
                    have e0 : e = 0 := GO2.out hb.1 (by
                      rcases hb.2 with h | h | ⟨h, h2⟩
                      · exact .inl h
                      · exact .inr (.inl h)
                      · refine .inr (.inr ⟨h, ?_⟩)
                        rcases h2 with h2 | h2 <;> (rw [h2]; rfl))
                    subst e0
                    clear hb
                    go_wp2_with (go_at_call 8; refine (num9_calls _ _).mono ?_; rintro r wx ⟨rfl, rfl⟩)
                    go_roundw
                    case rel => exact ⟨i + 1, sp + m, s2, F8, by go_num, by go_num, by omega, by omega, PA.out.dk, CA.out, SW, PA.out.bel⟩
                    case measure => simp [intOf]; omega
        · have t2 : decide ((i : Int) < 400) = false := decide_eq_false (by omega)
          have t2' : decide (i < 400) = false := decide_eq_false c2
          go_wp2
          go_meet
          case rel => exact HA.out.bel
      · have t1 : decide ((i : Int) < (ops.length : Int)) = false := decide_eq_false (by omega)
        have t1' : decide (i < ops.length) = false := decide_eq_false c1
        go_wp2
        go_meet
        case rel => exact HA.out.bel
  case rest =>
    have BE := Lib.hid (show Below w0.heap.size w0 wc from hcut)
    clear hcut
    go_wp2
    go_ret
    exact ⟨rfl, B0.out.trans (BE.out.mono B0.out.size)⟩
end Go.Proofs.YtcmllfnhdodbdaaDoor
