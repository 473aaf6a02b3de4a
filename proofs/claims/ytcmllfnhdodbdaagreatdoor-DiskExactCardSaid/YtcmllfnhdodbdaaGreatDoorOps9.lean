/- posternlaw9: ops as they come in; what a law holds behind a write. -/
import Derived.Test.YtcmllfnhdodbdaaGreatDoorL9
import Derived.Test.YtcmllfnhdodbdaaGreatDoorDkS
/- posternlaw9: an op as it comes in; size, do. -/
namespace Go.Proofs.YtcmllfnhdodbdaaGreatDoor
set_option linter.unusedVariables false
set_option linter.unusedSimpArgs false
open Go.RowKit Go.Maps
/-- An op, with where its bytes lie. -/
structure O9 where
  d : Int
  on : Int
  nm : List UInt8
  tn : List UInt8
  ba : Option Addr
  b : List UInt8
  bc : Nat
  n : Int
  keep : Int
  fa : Option Addr
  fl : Con
  fc : Nat
def O9.cells (o : O9) : Array Value := #[.int .i64 o.d, .int .i64 o.on, .string ⟨o.nm.toArray⟩, .string ⟨o.tn.toArray⟩, .slice o.ba o.b.length o.bc, .int .i64 o.n, .int .i64 o.keep, .slice o.fa o.fl.length o.fc]
structure O9.At (w : World) (o : O9) : Prop where
  byt : Byt w o.ba o.b
  cap : o.b.length ≤ o.bc
  fil : Fil w o.fa o.fl
  bl : o.b.length ≤ 140737488351232
  nl : o.nm.length ≤ 140737488351232
  tl : o.tn.length ≤ 140737488351232
  ll : o.fl.length ≤ 140737488351232
  fs : ∀ p ∈ o.fl, p.1.length ≤ 140737488351232 ∧ p.2.length ≤ 140737488351232
  nn : -9223372036854775808 ≤ o.n ∧ o.n ≤ 9223372036854775807
  kn : -9223372036854775808 ≤ o.keep ∧ o.keep ≤ 9223372036854775807
theorem O9.At.below {w w' : World} {o : O9} (h : o.At w) (hb : Below w.heap.size w w') : o.At w' := ⟨h.byt.below hb, h.cap, h.fil.below hb, h.bl, h.nl, h.tl, h.ll, h.fs, h.nn, h.kn⟩
def SizeP9 (w w' : World) (k : Nat) (r : Ending) : Prop := ∃ n : Nat, r = .returned (.int .i64 n) ∧ k ≤ n ∧ n ≤ 300000000000000 ∧ Below w.heap.size w w'
set_option maxRecDepth 100000 in
set_option maxHeartbeats 2000000 in
theorem size9_calls (d on n keep : Int) (nm tn b : List UInt8) (ba fa : Option Addr) (bc fc : Nat) (fl : Con) (w : World) (hf : Fil w fa fl) (hb : b.length ≤ 140737488351232) (hl : fl.length ≤ 140737488351232) (hs : ∀ p ∈ fl, p.1.length ≤ 140737488351232 ∧ p.2.length ≤ 140737488351232) :
    Calls Tryz.prog 12 #[.agg #[.int .i64 d, .int .i64 on, .string ⟨nm.toArray⟩, .string ⟨tn.toArray⟩, .slice ba b.length bc, .int .i64 n, .int .i64 keep, .slice fa fl.length fc]] w fun r w' => SizeP9 w w' b.length r := by
  obtain ⟨w0, hw0⟩ : ∃ q, w.alloc (.cells #[.int .i64 d, .int .i64 on, .string ⟨nm.toArray⟩, .string ⟨tn.toArray⟩, .slice ba b.length bc, .int .i64 n, .int .i64 keep, .slice fa fl.length fc] 36) = q := ⟨_, rfl⟩
  have b0 : Below w.heap.size w w0 := by rw [← hw0]; exact (Below.refl _ _).alloc (Nat.le_refl _) _
  have blk : w0.heap[w.heap.size]? = some (.cells #[.int .i64 d, .int .i64 on, .string ⟨nm.toArray⟩, .string ⟨tn.toArray⟩, .slice ba b.length bc, .int .i64 n, .int .i64 keep, .slice fa fl.length fc] 36 (0, 0)) := by rw [← hw0]; exact heap_alloc_new w _
  have q4 : w0.cell? ⟨w.heap.size, 4, none⟩ = some (.slice ba b.length bc) := by rw [cell_of_row' blk]; rfl
  have q7 : w0.cell? ⟨w.heap.size, 7, none⟩ = some (.slice fa fl.length fc) := by rw [cell_of_row' blk]; rfl
  have FI := Lib.hid (hf.below b0); have W0 := Lib.hid hw0; have B0 := Lib.hid b0; have HS := Lib.hid hs
  clear hf hs b0 blk hw0
  go_enter Tryz.func12, Tryz.ntmps12
  go_wp2
  rw [W0.out]
  go_loopw [3, 4] (fun vn vi wr => ∃ k i : Nat, vn = .int .i64 k ∧ vi = .int .i64 i ∧ b.length ≤ k ∧ k ≤ 300000000000000 ∧ i ≤ fl.length ∧ w0 = wr) (fun _ vi _ => fl.length - (intOf vi).toNat)
  case atStart => exact ⟨b.length, 0, rfl, rfl, Nat.le_refl _, by omega, Nat.zero_le _, rfl⟩
  case round =>
    obtain ⟨k, i, rfl, rfl, hk, hk2, hi, rfl⟩ := hrel
    by_cases c1 : i < fl.length
    · have t1 : decide ((i : Int) < (fl.length : Int)) = true := decide_eq_true (by omega)
      have t1' : decide (i < fl.length) = true := decide_eq_true c1
      by_cases c2 : k ≤ 1048576
      · have t2 : decide ((k : Int) ≤ 1048576) = true := decide_eq_true (by omega)
        have t2' : decide (k ≤ 1048576) = true := decide_eq_true c2
        obtain ⟨b1, o1, p1, k1, rfl, h1, h2, -, -⟩ := FI.out i c1
        have hlen := (HS.out fl[i] (List.getElem_mem c1)).2
        obtain ⟨t, ht⟩ : ∃ q, fl[i].2 = q := ⟨_, rfl⟩
        rw [ht] at h2 hlen
        have i2 : (i : Int) < (fl.length : Int) := by omega
        clear ht h1
        go_wp2
        go_roundw
        case rel => exact ⟨k + t.length + 100, i + 1, by go_num, by go_num, by omega, by omega, by omega, by first | rfl | trivial⟩
        case measure => simp [intOf]; omega
      · have t2 : decide ((k : Int) ≤ 1048576) = false := decide_eq_false (by omega)
        have t2' : decide (k ≤ 1048576) = false := decide_eq_false c2
        go_wp2
        go_ret
        exact ⟨k, rfl, hk, hk2, B0.out⟩
    · have t1 : decide ((i : Int) < (fl.length : Int)) = false := decide_eq_false (by omega)
      have t1' : decide (i < fl.length) = false := decide_eq_false c1
      go_wp2
      go_ret
      exact ⟨k, rfl, hk, hk2, B0.out⟩
theorem DkStep.pre {w w2 w' : World} {B db : Nat} {F : Nat → Prop} {s' : DS} (hB : B ≤ w.heap.size) (hb : Below w.heap.size w w2) (h : DkStep w2 w' B db F s') : DkStep w w' B db F s' := by
  obtain ⟨F', h1, h2, h3, h4⟩ := h
  exact ⟨F', h1, ((Upd.ofBelow hb).mono (fun _ s _ => s.elim)).same h2, (hb.mono hB).trans h3, fun i hi => (h4 i hi).imp id (fun h9 => Nat.le_trans hb.size h9)⟩
/-- What do comes tn. -/
def DoP9 (w w' : World) (B db : Nat) (F : Nat → Prop) (q : Int × Bool × DS) (r : Ending) : Prop := r = .returned (.tuple #[.int .i64 q.1, .bool q.2.1]) ∧ DkStep w w' B db F q.2.2
set_option maxRecDepth 100000 in
set_option maxHeartbeats 4000000 in
theorem do9_calls (B db : Nat) (F : Nat → Prop) (s : DS) (d on n keep : Int) (nm tn b : List UInt8) (ba fa : Option Addr) (bc fc fn : Nat) (w : World) (h : DkS w B db F s) (hy : Byt w ba b) (hb : b.length ≤ 140737488351232) (hn : nm.length ≤ 140737488351232) (ht : tn.length ≤ 140737488351232) (hw : s.writes ≤ 4611686018427387904) :
    Calls Tryz.prog 15 #[.pointer (some ⟨db, 0, none⟩), .agg #[.int .i64 d, .int .i64 on, .string ⟨nm.toArray⟩, .string ⟨tn.toArray⟩, .slice ba b.length bc, .int .i64 n, .int .i64 keep, .slice fa fn fc]] w fun r w' => DoP9 w w' B db F (doD s d nm tn b n) r := by
  obtain ⟨w0, hw0⟩ : ∃ q, w.alloc (.cells #[.int .i64 d, .int .i64 on, .string ⟨nm.toArray⟩, .string ⟨tn.toArray⟩, .slice ba b.length bc, .int .i64 n, .int .i64 keep, .slice fa fn fc] 36) = q := ⟨_, rfl⟩
  have b0 : Below w.heap.size w w0 := by rw [← hw0]; exact (Below.refl _ _).alloc (Nat.le_refl _) _
  have blk : w0.heap[w.heap.size]? = some (.cells #[.int .i64 d, .int .i64 on, .string ⟨nm.toArray⟩, .string ⟨tn.toArray⟩, .slice ba b.length bc, .int .i64 n, .int .i64 keep, .slice fa fn fc] 36 (0, 0)) := by rw [← hw0]; exact heap_alloc_new w _
  have q0 : w0.cell? ⟨w.heap.size, 0, none⟩ = some (.int .i64 d) := by rw [cell_of_row' blk]; rfl
  have q2 : w0.cell? ⟨w.heap.size, 2, none⟩ = some (.string ⟨nm.toArray⟩) := by rw [cell_of_row' blk]; rfl
  have q3 : w0.cell? ⟨w.heap.size, 3, none⟩ = some (.string ⟨tn.toArray⟩) := by rw [cell_of_row' blk]; rfl
  have q4 : w0.cell? ⟨w.heap.size, 4, none⟩ = some (.slice ba b.length bc) := by rw [cell_of_row' blk]; rfl
  have q5 : w0.cell? ⟨w.heap.size, 5, none⟩ = some (.int .i64 n) := by rw [cell_of_row' blk]; rfl
  have FL := Lib.hid h.fl
  have D0 := Lib.hid (h.below b0); have W0 := Lib.hid hw0; have B0 := Lib.hid b0; have HB := Lib.hid h.bw; have Y0 := Lib.hid (hy.below b0)
  clear h hy b0 blk hw0
  unfold doD
  by_cases e1 : d = 1
  · subst e1
    rw [if_pos rfl]
    have CC := Lib.hid (Copy_calls ba bc b w0.drew (Y0.out.drewN 1) (by omega))
    have AC := Lib.hid (fun (a5 : Option Addr) (c5 : Nat) (w5 : World) (y5 : Byt w5 a5 b) (hc5 : b.length ≤ c5) (hb5 : Below w0.drew.heap.size w0.drew w5) => Append_dk B db F s nm b a5 c5 w5 (D0.out.below (bel_undr hb5)).dk y5 hc5 hn hw)
    have blt : w.heap.size < w0.heap.size := World.block_lt_of_cell? _ _ q0
    have KC := Lib.hid (fun (w5 : World) (hb5 : Below w0.drew.heap.size w0.drew w5) => show w5.cell? ⟨w.heap.size, 2, none⟩ = some (.string ⟨nm.toArray⟩) ∧ w5.cell? ⟨w.heap.size, 4, none⟩ = some (.slice ba b.length bc) from ⟨((bel_undr hb5).cell (p := ⟨w.heap.size, 2, none⟩) blt).trans q2, ((bel_undr hb5).cell (p := ⟨w.heap.size, 4, none⟩) blt).trans q4⟩)
    have KF := Lib.hid (fun (w5 w6 : World) (hb5 : Below w0.drew.heap.size w0.drew w5) (q : Int × DS) (h6 : DkTo w5 w6 B db F q.2) => show w6.cell? ⟨w.heap.size, 2, none⟩ = some (.string ⟨nm.toArray⟩) ∧ w6.cell? ⟨w.heap.size, 4, none⟩ = some (.slice ba b.length bc) from by
      obtain ⟨F', -, u6', -⟩ := h6
      obtain ⟨x2, x4⟩ := KC.out w5 hb5
      have nf : ¬ F w.heap.size := fun hf => by have := (FL.out _ hf).2; omega
      exact ⟨u6'.cell' x2 nf, u6'.cell' x4 nf⟩)
    have ST := Lib.hid (fun (w5 w6 : World) (hb5 : Below w0.drew.heap.size w0.drew w5) (h6 : DkTo w5 w6 B db F (s.append nm b).2) => (((D0.out.below (bel_undr hb5)).step h6).pre D0.out.bw (bel_undr hb5)).pre HB.out B0.out)
    go_enter Tryz.func15, Tryz.ntmps15
    go_wp2_with fail
    rw [W0.out]
    go_wp2_with fail
    go_region_held3 (fun w' => w'.cell? ⟨w.heap.size, 2, none⟩ = some (.string ⟨nm.toArray⟩) ∧ w'.cell? ⟨w.heap.size, 4, none⟩ = some (.slice ba b.length bc))
      (first
        | go_keep)
      (first
        | (go_at_call 33; refine CC.out.mono ?_; rintro r w5 ⟨v5, rfl, ho5, hb5⟩; obtain ⟨a5, c5, rfl, -, hc5, y5, -, -⟩ := own_val ho5; obtain ⟨x2, x4⟩ := KC.out w5 hb5; clear ho5)
        | (go_at_call 26; refine (AC.out a5 c5 w5 y5 hc5 hb5).mono ?_; rintro r w6 ⟨rfl, h6⟩; obtain ⟨z2, z4⟩ := KF.out w5 w6 hb5 _ h6))
    all_goals
      have FIN := Lib.hid (ST.out _ _ hb5 h6)
      clear h6
      go_wp2
      go_ret2
      exact ⟨rfl, FIN.out⟩
  · have t1 : (d == 1) = false := beq_eq_false_iff_ne.2 e1
    by_cases e2 : d = 2
    · subst e2
      rw [if_neg (by decide), if_pos rfl]
      have AC := Lib.hid (Cut_dk B db F s nm n w0 D0.out.dk hn hw)
      go_enter Tryz.func15, Tryz.ntmps15
      go_wp2_with fail
      rw [W0.out]
      refine AC.out.mono ?_
      rintro r w6 ⟨rfl, h6⟩
      have ST := Lib.hid ((D0.out.step h6).pre HB.out B0.out)
      clear h6 AC
      go_wp2
      go_ret2
      exact ⟨rfl, ST.out⟩
    · have t2 : (d == 2) = false := beq_eq_false_iff_ne.2 e2
      by_cases e3 : d = 3
      · subst e3
        rw [if_neg (by decide), if_neg (by decide), if_pos rfl]
        have AC := Lib.hid (Rename_dk B db F s nm tn w0 D0.out.dk hn ht hw)
        go_enter Tryz.func15, Tryz.ntmps15
        go_wp2_with fail
        rw [W0.out]
        refine AC.out.mono ?_
        rintro r w6 ⟨rfl, h6⟩
        have ST := Lib.hid ((D0.out.step h6).pre HB.out B0.out)
        clear h6 AC
        go_wp2
        go_ret2
        exact ⟨rfl, ST.out⟩
      · have t3 : (d == 3) = false := beq_eq_false_iff_ne.2 e3
        by_cases e4 : d = 4
        · subst e4
          rw [if_neg (by decide), if_neg (by decide), if_neg (by decide), if_pos rfl]
          have AC := Lib.hid (Remove_dk B db F s nm w0 D0.out.dk hn hw)
          go_enter Tryz.func15, Tryz.ntmps15
          go_wp2_with fail
          rw [W0.out]
          refine AC.out.mono ?_
          rintro r w6 ⟨rfl, h6⟩
          have ST := Lib.hid ((D0.out.step h6).pre HB.out B0.out)
          clear h6 AC
          go_wp2
          go_ret2
          exact ⟨rfl, ST.out⟩
        · have t4 : (d == 4) = false := beq_eq_false_iff_ne.2 e4
          rw [if_neg e1, if_neg e2, if_neg e3, if_neg e4]
          have ST : Hid (DkStep w w0 B db F s) := by
            refine DkStep.pre HB.out B0.out ?_
            exact ⟨F, D0.out, Upd.refl _ _, Below.refl _ _, fun i hi => .inl hi⟩
          go_enter Tryz.func15, Tryz.ntmps15
          go_wp2
          rw [W0.out]
          go_ret2
          exact ⟨rfl, ST.out⟩
end Go.Proofs.YtcmllfnhdodbdaaGreatDoor
namespace Go.Proofs.YtcmllfnhdodbdaaGreatDoor
set_option linter.unusedVariables false
set_option linter.unusedSimpArgs false
open Go.RowKit Go.Maps
/-- Ops stand at a. -/
def Ops9 (w : World) (a : Option Addr) (ops : List O9) : Prop :=
  ∀ i (h : i < ops.length), (ops[i]).At w ∧ ∃ b o, a = some ⟨b, o, none⟩ ∧
    w.cell? ⟨b, o + i * 8, none⟩ = some (.int .i64 ops[i].d) ∧ w.cell? ⟨b, o + i * 8 + 1, none⟩ = some (.int .i64 ops[i].on) ∧ w.cell? ⟨b, o + i * 8 + 2, none⟩ = some (.string ⟨ops[i].nm.toArray⟩) ∧ w.cell? ⟨b, o + i * 8 + 3, none⟩ = some (.string ⟨ops[i].tn.toArray⟩) ∧
    w.cell? ⟨b, o + i * 8 + 4, none⟩ = some (.slice ops[i].ba ops[i].b.length ops[i].bc) ∧ w.cell? ⟨b, o + i * 8 + 5, none⟩ = some (.int .i64 ops[i].n) ∧ w.cell? ⟨b, o + i * 8 + 6, none⟩ = some (.int .i64 ops[i].keep) ∧ w.cell? ⟨b, o + i * 8 + 7, none⟩ = some (.slice ops[i].fa ops[i].fl.length ops[i].fc)
theorem Ops9.below {w w' : World} {a : Option Addr} {ops : List O9} (h : Ops9 w a ops) (hb : Below w.heap.size w w') : Ops9 w' a ops := by
  intro i hi
  obtain ⟨ha, b, o, e, h0, h1, h2, h3, h4, h5, h6, h7⟩ := h i hi
  have hl : b < w.heap.size := World.block_lt_of_cell? w _ h0
  have k : ∀ j v, w.cell? ⟨b, o + i * 8 + j, none⟩ = some v → w'.cell? ⟨b, o + i * 8 + j, none⟩ = some v := fun j v hv => by rw [hb.cell (p := ⟨b, o + i * 8 + j, none⟩) hl]; exact hv
  exact ⟨ha.below hb, b, o, e, k 0 _ h0, k 1 _ h1, k 2 _ h2, k 3 _ h3, k 4 _ h4, k 5 _ h5, k 6 _ h6, k 7 _ h7⟩
def Q9 (w : World) (ob : Nat) (d on n keep : Int) (nm tn b : List UInt8) (ba fa : Option Addr) (bc fc fn : Nat) : Prop :=
  w.cell? ⟨ob, 0, none⟩ = some (.int .i64 d) ∧ w.cell? ⟨ob, 1, none⟩ = some (.int .i64 on) ∧ w.cell? ⟨ob, 2, none⟩ = some (.string ⟨nm.toArray⟩) ∧ w.cell? ⟨ob, 3, none⟩ = some (.string ⟨tn.toArray⟩) ∧ w.cell? ⟨ob, 4, none⟩ = some (.slice ba b.length bc) ∧ w.cell? ⟨ob, 5, none⟩ = some (.int .i64 n) ∧ w.cell? ⟨ob, 6, none⟩ = some (.int .i64 keep) ∧ w.cell? ⟨ob, 7, none⟩ = some (.slice fa fn fc)
theorem q9_of {w : World} {ob : Nat} {d on n keep : Int} {nm tn b : List UInt8} {ba fa : Option Addr} {bc fc fn : Nat} {fr : Nat × Nat} (h : w.heap[ob]? = some (.cells #[.int .i64 d, .int .i64 on, .string ⟨nm.toArray⟩, .string ⟨tn.toArray⟩, .slice ba b.length bc, .int .i64 n, .int .i64 keep, .slice fa fn fc] 36 fr)) : Q9 w ob d on n keep nm tn b ba fa bc fc fn :=
  ⟨by rw [cell_of_row' h]; rfl, by rw [cell_of_row' h]; rfl, by rw [cell_of_row' h]; rfl, by rw [cell_of_row' h]; rfl, by rw [cell_of_row' h]; rfl, by rw [cell_of_row' h]; rfl, by rw [cell_of_row' h]; rfl, by rw [cell_of_row' h]; rfl⟩
/-- Behind a write, in a round. -/
structure MvP (w0 wx : World) (B db : Nat) (s2 : DS) (F : Nat → Prop) (ob Bd : Nat) (cs : Array Value) (a7 : Option Addr) (C : Con) : Prop where
  dk : DkS wx B db F s2
  fil : FilB wx Bd a7 C
  blk : wx.heap[ob]? = some (.cells cs 36 (0, 0))
  bel : Below B w0 wx
  dbl : db < Bd
  obd : ob ≠ db
theorem MvP.below {w0 wx w' : World} {B db : Nat} {s2 : DS} {F : Nat → Prop} {ob Bd : Nat} {cs : Array Value} {a7 : Option Addr} {C : Con} (h : MvP w0 wx B db s2 F ob Bd cs a7 C) (hb : Below wx.heap.size wx w') : MvP w0 w' B db s2 F ob Bd cs a7 C :=
  ⟨h.dk.below hb, h.fil.below hb, (hb.block _ (lt_of_block h.blk)).trans h.blk, h.bel.trans (hb.mono h.dk.bw), h.dbl, h.obd⟩
theorem MvP.files {w0 wx w' : World} {B db : Nat} {s2 s3 : DS} {F : Nat → Prop} {ob Bd : Nat} {cs : Array Value} {a7 : Option Addr} {C : Con} (h : MvP w0 wx B db s2 F ob Bd cs a7 C) (hd : DkS w' B db F s3) (hu : Upd (fun i => i = db) wx w') (hb : Below B wx w') : MvP w0 w' B db s3 F ob Bd cs a7 C :=
  ⟨hd, h.fil.upd hu (fun k hk => by rw [hk]; exact h.dbl), (hu.block _ (lt_of_block h.blk) (fun e => h.obd e)).trans h.blk, h.bel.trans hb, h.dbl, h.obd⟩
end Go.Proofs.YtcmllfnhdodbdaaGreatDoor
