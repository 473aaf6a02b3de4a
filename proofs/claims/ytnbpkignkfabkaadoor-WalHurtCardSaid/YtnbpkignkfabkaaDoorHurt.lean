/- posternlaw10.WalHurt. -/
import Derived.Test.YtnbpkignkfabkaaDoorWorks10
import Derived.Test.YtnbpkignkfabkaaDoorLong
import Derived.Test.YtnbpkignkfabkaaDoorStep
import Derived.Deep.CutBlock
import Derived.Deep.DeepCutAuto
namespace Go.Proofs.YtnbpkignkfabkaaDoor
set_option linter.unusedVariables false
set_option linter.unusedSimpArgs false
open Go.RowKit Go.Maps
/-- The disk behind the records xs. -/
def hS (room : Nat) (nm : List UInt8) (xs : List (List UInt8)) : DS := if xs = [] then DS.new room else S1 room nm (flw xs) 0 0 false xs.length
theorem hS_nil (room : Nat) (nm : List UInt8) : hS room nm [] = DS.new room := rfl
theorem hS_cons {room : Nat} {nm : List UInt8} {xs : List (List UInt8)} (h : xs ≠ []) : hS room nm xs = S1 room nm (flw xs) 0 0 false xs.length := if_neg h
theorem hS_writes (room : Nat) (nm : List UInt8) (xs : List (List UInt8)) : (hS room nm xs).writes = xs.length := by
  unfold hS
  split
  · rename_i h; rw [h]; rfl
  · rfl
theorem hS_app {room : Nat} {nm x : List UInt8} {xs : List (List UInt8)} (h : nmOk nm = true) (hx : x.length ≤ 16777216) (hb : flen xs + (x.length + 13) ≤ room) : walA (hS room nm xs) nm (flen xs) false x = (0, flen (xs ++ [x]), false, hS room nm (xs ++ [x])) := by
  rw [hS_cons (xs := xs ++ [x]) (by simp), flen_snoc, flw_snoc]
  by_cases e : xs = []
  · subst e
    rw [hS_nil, ds_new, walA_new h hx (by simp [flen] at hb; omega)]
    rfl
  · rw [hS_cons e, walA_one h hx (by rw [flw_len]; exact hb), List.length_append]
    rfl
theorem flen_sum (xs : List (List UInt8)) : flen xs = (xs.map List.length).sum + 13 * xs.length := by
  induction xs with
  | nil => rfl
  | cons x xs ih => simp [flen] at ih ⊢; omega
/-- One byte of the records changed: damage. -/
theorem recOf_hurt_fl : ∀ (xs : List (List UInt8)) (i : Nat) (y : UInt8), (∀ x ∈ xs, x.length ≤ 16777216) → i < (flw xs).length → y ≠ 0 → (recOf (bent (flw xs) i y)).2.2 = 101
  | [], i, y, _, hi, _ => by simp [flw] at hi
  | x :: xs, i, y, h, hi, hy => by
    rw [flw_cons] at hi ⊢
    have hx : x.length ≤ 16777216 := h x (by simp)
    by_cases c : i < (frm x).length
    · rw [bent_left _ _ _ _ c, recOf_bent x _ i y hx c hy]
    · have c' : (frm x).length ≤ i := by omega
      rw [bent_right _ _ _ _ c', recOf_frm x _ hx]
      exact recOf_hurt_fl xs (i - (frm x).length) y (fun z hz => h z (List.mem_cons_of_mem _ hz)) (by rw [List.length_append] at hi; omega) hy
theorem load_one {room : Nat} {nm l : List UInt8} (h1 : 1 ≤ room) (h2 : room ≤ 268435456) (hn : nmOk nm = true) (hl : l.length ≤ room) : loadR (room : Int) [(nm, l)] = (0, some (S1 room nm l 0 0 false 0)) := by
  unfold loadR
  rw [if_neg (by omega), if_neg (by simp), Int.toNat_natCast]
  have e : ldC room [(nm, l)] [] = some [(nm, l)] := by
    unfold ldC
    rw [if_neg]
    · simp [ldC, setC, delC, insC]
    · rintro (h | h | h)
      · simp [hasC] at h
      · rw [hn] at h; cases h
      · have : room < 0 + l.length := h
        omega
  rw [e]
  rfl
theorem load_s {w w' : World} {room : Nat} {nm l : List UInt8} {r : Ending} (h1 : 1 ≤ room) (h2 : room ≤ 268435456) (hn : nmOk nm = true) (hl : l.length ≤ room) (h : LoadP w w' (room : Int) [(nm, l)] r) : ∃ db F, r = .returned (.tuple #[.pointer (some ⟨db, 0, none⟩), .int .i64 0]) ∧ DkS w' w.heap.size db F (S1 room nm l 0 0 false 0) ∧ Below w.heap.size w w' := by
  unfold LoadP at h
  rw [load_one h1 h2 hn hl] at h
  obtain ⟨db, g1, g2, g3⟩ := h
  exact ⟨db, _, g1, ⟨g2.cut, fun i hi => hi.2, g3.size⟩, g3⟩
theorem Fil.one (w : World) (nm l : List UInt8) (ba : Option Addr) (bc : Nat) (h : Byt w ba l) (hc : l.length ≤ bc) : Fil (w.alloc (.cells #[.string ⟨nm.toArray⟩, .slice ba l.length bc] 47)) (some ⟨w.heap.size, 0, none⟩) [(nm, l)] := by
  intro i hi
  obtain rfl : i = 0 := by simp at hi; exact hi
  refine ⟨_, 0, ba, bc, rfl, ?_, ?_, hc, h.alloc _⟩
  · rw [cell_of_row' (heap_alloc_new w _)]; rfl
  · rw [cell_of_row' (heap_alloc_new w _)]; rfl
/-- In the loop. -/
structure HuS (w0 wr : World) (B db lb : Nat) (rows xs : List (List UInt8)) (sp : Nat) (F : Nat → Prop) : Prop where
  dk : DkS wr B db F (hS 4194304 X10 xs)
  lg : Lg wr lb db X10 (flen xs) false
  lbB : B ≤ lb
  nf : ¬ F lb
  bel : Below B w0 wr
  pre : xs = rows.take xs.length
  le : xs.length ≤ rows.length ∧ xs.length ≤ 60
  sum : (xs.map List.length).sum = sp ∧ sp ≤ 524288
/-- Behind the loop. -/
def HuE (w0 wr : World) (B db : Nat) (rows : List (List UInt8)) : Prop :=
  ∃ (xs : List (List UInt8)) (F : Nat → Prop), DkS wr B db F (hS 4194304 X10 xs) ∧ Below B w0 wr ∧ (∀ x ∈ xs, x.length ≤ 524288) ∧ flen xs ≤ 525068 ∧ xs.length ≤ 60 ∧ (xs = [] → rows = [] ∨ ∃ x r, rows = x :: r ∧ 524288 < x.length)
theorem le_sum_mem : ∀ {l : List Nat} {a : Nat}, a ∈ l → a ≤ l.sum
  | x :: l, a, h => by
    rcases List.mem_cons.1 h with rfl | h
    · simp
    · have := le_sum_mem h
      simp; omega
theorem HuS.out {w0 wr : World} {B db lb : Nat} {rows xs : List (List UInt8)} {sp : Nat} {F : Nat → Prop} (h : HuS w0 wr B db lb rows xs sp F) (he : xs = [] → rows = [] ∨ ∃ x r, rows = x :: r ∧ 524288 < x.length) : HuE w0 wr B db rows := by
  refine ⟨xs, F, h.dk, h.bel, ?_, ?_, h.le.2, he⟩
  · intro x hx
    have := le_sum_mem (List.mem_map.2 ⟨x, hx, rfl⟩ : x.length ∈ xs.map List.length)
    have := h.sum
    omega
  · rw [flen_sum]
    have := h.sum
    have := h.le
    omega
set_option maxRecDepth 100000 in
set_option maxHeartbeats 8000000 in
theorem WalHurt_calls (w : World) (a : Option Addr) (cap : Nat) (rows : List (List UInt8)) (Af : Nat → Option Addr) (Cf : Nat → Nat) (pa pb : Int) (hr : Rd2 w a rows Af Cf) (hl : rows.length ≤ 140737488355328) (d : (-9223372036854775808 ≤ pa ∧ pa ≤ 9223372036854775807) ∧ (-9223372036854775808 ≤ pb ∧ pb ≤ 9223372036854775807)) (ht : Tab w) (hg : 0 < w.heap.size) :
    Calls Tryd.prog 6 #[.agg #[.slice a rows.length cap, .int .i64 pa, .int .i64 pb]] w fun r w' => r = .returned (.bool true) ∧ Below w.heap.size w w' := by
  obtain ⟨w0, hw0⟩ : ∃ q, w.alloc (.cells #[.slice a rows.length cap, .int .i64 pa, .int .i64 pb] 57) = q := ⟨_, rfl⟩
  have b0 : Below w.heap.size w w0 := by rw [← hw0]; exact (Below.refl _ _).alloc (Nat.le_refl _) _
  have blk : w0.heap[w.heap.size]? = some (.cells #[.slice a rows.length cap, .int .i64 pa, .int .i64 pb] 57 (0, 0)) := by rw [← hw0]; exact heap_alloc_new w _
  have s0 : w.heap.size < w0.heap.size := lt_of_block blk
  have CP := Lib.hid (fun (w' : World) (hb : Below w0.heap.size w0 w') => show w'.cell? ⟨w.heap.size, 0, none⟩ = some (.slice a rows.length cap) ∧ w'.cell? ⟨w.heap.size, 1, none⟩ = some (.int .i64 pa) ∧ w'.cell? ⟨w.heap.size, 2, none⟩ = some (.int .i64 pb) from by
    have h9 := (hb.block _ s0).trans blk
    exact ⟨by rw [cell_of_row' h9]; rfl, by rw [cell_of_row' h9]; rfl, by rw [cell_of_row' h9]; rfl⟩)
  have TB := Lib.hid (ht.bel b0 hg); have HG : Hid (0 < w0.heap.size) := Nat.lt_of_lt_of_le hg b0.size
  have RD := Lib.hid (hr.below b0)
  have NC := Lib.hid (NewK_calls 4194304 w0)
  have W0 := Lib.hid hw0; have B0 := Lib.hid b0
  obtain ⟨⟨d1, d2⟩, d3, d4⟩ := d
  clear hr ht hg b0 blk hw0
  go_enter Tryd.func6, Tryd.ntmps6
  go_wp2_with fail
  rw [W0.out]
  refine NC.out.mono ?_
  rintro r w1 hr
  obtain ⟨db, F1, rfl, dd1, b1⟩ := new_s (room := 4194304) (by decide) (by decide) hr
  have D1 := Lib.hid dd1; have B1 := Lib.hid b1
  clear dd1 b1 hr NC
  have WK := Lib.hid (works10_calls w1 (TB.out.bel B1.out HG.out) (Nat.lt_of_lt_of_le HG.out D1.out.bw))
  go_wp2_with (go_at_call 9; refine (num10_calls _ _).mono ?_; rintro r wx ⟨rfl, rfl⟩)
  refine WK.out.mono ?_
  rintro r w2 ⟨rfl, b2⟩
  have D2 := Lib.hid (D1.out.below b2)
  have B2 := Lib.hid (B1.out.trans (b2.mono D1.out.bw))
  clear b2 WK
  have O2 := Open_s X10 D2.out (TB.out.bel B2.out HG.out) HG.out (by decide) (Nat.zero_le _)
  rw [ds_new, open_new x10_ok] at O2
  have O2H := Lib.hid O2
  clear O2
  go_wp2_with fail
  refine O2H.out.mono ?_
  rintro r w3 ⟨F3, dd3, u3', b3, f3, lb, a3, c3, Af3, Cf3, rfl, l3, g3, n3, -, -⟩
  have LP : Hid (HuS w0 w3 w0.heap.size db lb rows [] 0 F3) := ⟨dd3, l3, Nat.le_trans D2.out.bw g3, n3, B2.out.trans b3, rfl, ⟨Nat.zero_le _, Nat.zero_le _⟩, rfl, Nat.zero_le _⟩
  clear dd3 u3' b3 f3 l3 g3 n3 O2H
  go_upto_block 0 with (go_at_call 9; refine (num10_calls _ _).mono ?_; rintro r wx ⟨rfl, rfl⟩)
  go_cut [] (fun wr => HuE w0 wr w0.heap.size db rows)
  case first =>
    go_wp2
    go_loopw [8, 9] (fun vs vi wr => ∃ (xs : List (List UInt8)) (sp : Nat) (F : Nat → Prop), vs = .int .i64 sp ∧ vi = .int .i64 xs.length ∧ HuS w0 wr w0.heap.size db lb rows xs sp F) (fun _ vi _ => rows.length - (intOf vi).toNat)
    case atStart => exact ⟨[], 0, F3, rfl, rfl, LP.out⟩
    case round =>
      obtain ⟨xs, sp, F, rfl, rfl, hh⟩ := hrel
      have HH := Lib.hid hh
      obtain ⟨q0, q1, q2⟩ := CP.out wr hh.bel
      obtain ⟨hle1, hle2⟩ := hh.le
      obtain ⟨i, hi⟩ : ∃ i, xs.length = i := ⟨_, rfl⟩
      rw [hi] at hle1 hle2 ⊢
      have HI := Lib.hid hi
      have SP : sp ≤ 524288 := hh.sum.2
      have R := Lib.hid (RD.out.below hh.bel)
      clear hh hi q1 q2
      by_cases c1 : i < rows.length
      · have t1 : decide ((i : Int) < (rows.length : Int)) = true := decide_eq_true (by omega)
        have t1' : decide (i < rows.length) = true := decide_eq_true c1
        by_cases c2 : i < 60
        · have t2 : decide ((i : Int) < 60) = true := decide_eq_true (by omega)
          have t2' : decide (i < 60) = true := decide_eq_true c2
          obtain ⟨ab, ao, rfl, hcell⟩ := R.out.cell i c1
          have hby := R.out.byt i c1
          have hsh := R.out.short i c1
          have DRP : Hid (rows.take (i + 1) = rows.take i ++ [rows[i]]) := List.take_succ_eq_append_getElem c1
          have RI : Hid (xs = [] → ∃ r, rows = rows[i] :: r) := fun he => by
            have h0 : i = 0 := by have := HI.out; rw [he] at this; simpa using this.symm
            subst h0
            exact ⟨rows.drop 1, by have h9 := List.drop_eq_getElem_cons (i := 0) c1; rw [List.drop_zero] at h9; exact h9⟩
          obtain ⟨x, hx⟩ : ∃ x, rows[i] = x := ⟨_, rfl⟩
          rw [hx] at hcell hby hsh DRP RI
          have YB := Lib.hid hby
          clear hby hx
          by_cases c3 : 524288 < sp + x.length
          · have t3 : decide ((524288 : Int) < (sp : Int) + (x.length : Int)) = true := decide_eq_true (by omega)
            have t3' : decide (524288 < sp + x.length) = true := decide_eq_true c3
            have FIN : Hid (HuE w0 wr w0.heap.size db rows) := HH.out.out (fun he => by
              obtain ⟨r, hr⟩ := RI.out he
              refine .inr ⟨x, r, hr, ?_⟩
              have h9 := HH.out.sum.1
              rw [he] at h9
              simp at h9
              omega)
            go_wp2
            go_meet
            case rel => exact FIN.out
          · have t3 : decide ((524288 : Int) < (sp : Int) + (x.length : Int)) = false := decide_eq_false (by omega)
            have t3' : decide (524288 < sp + x.length) = false := decide_eq_false c3
            have CC := Lib.hid (Copy_calls (Af i) (Cf i) x wr YB.out hsh)
            go_wp2_with fail
            refine CC.out.mono ?_
            rintro r w5 ⟨v5, rfl, ho5, hb5⟩
            obtain ⟨a5, c5, rfl, -, -, y5, -, -⟩ := own_val ho5
            have BEL5 := Lib.hid (HH.out.bel.trans (hb5.mono HH.out.dk.bw))
            have hfl : flen xs + (x.length + 13) ≤ 4194304 := by
              rw [flen_sum]
              have := HH.out.sum
              have := HI.out
              omega
            have AC := WalAppend_s x a5 c5 (HH.out.dk.below hb5) (HH.out.lg.below hb5) HH.out.lbB HH.out.nf (TB.out.bel BEL5.out HG.out) HG.out y5 hsh (by decide) (by rw [hS_writes]; have := HI.out; omega) (by omega)
            rw [hS_app x10_ok (by omega) hfl] at AC
            have ACH := Lib.hid AC
            clear AC ho5 hb5 y5 CC hfl
            go_wp2_with fail
            refine ACH.out.mono ?_
            rintro r w6 ⟨rfl, F6, g6, l6, n6, u6', b6, f6⟩
            have LS : (xs ++ [x]).length = i + 1 := by rw [List.length_append, List.length_singleton, HI.out]
            have NX : Hid (HuS w0 w6 w0.heap.size db lb rows (xs ++ [x]) (sp + x.length) F6) := by
              refine ⟨g6, l6, HH.out.lbB, n6, BEL5.out.trans b6, ?_, ?_, ?_, by omega⟩
              · rw [LS, DRP.out, ← HI.out, ← HH.out.pre]
              · rw [LS]; omega
              · have := HH.out.sum.1
                simp
                omega
            have LSH := Lib.hid LS
            clear g6 l6 n6 u6' b6 f6 LS ACH
            go_wp2_with (go_at_call 9; refine (num10_calls _ _).mono ?_; rintro r wx ⟨rfl, rfl⟩)
            go_roundw
            case rel => exact ⟨xs ++ [x], sp + x.length, F6, by go_num, by rw [LSH.out]; go_num, NX.out⟩
            case measure => simp [intOf]; omega
        · have t2 : decide ((i : Int) < 60) = false := decide_eq_false (by omega)
          have t2' : decide (i < 60) = false := decide_eq_false c2
          have FIN : Hid (HuE w0 wr w0.heap.size db rows) := HH.out.out (fun he => by
            have := HI.out; rw [he] at this; simp at this; omega)
          go_wp2
          go_meet
          case rel => exact FIN.out
      · have t1 : decide ((i : Int) < (rows.length : Int)) = false := decide_eq_false (by omega)
        have t1' : decide (i < rows.length) = false := decide_eq_false c1
        have FIN : Hid (HuE w0 wr w0.heap.size db rows) := HH.out.out (fun he => by
          have := HI.out; rw [he] at this; simp at this
          exact .inl (List.eq_nil_of_length_eq_zero (by omega)))
        go_wp2
        go_meet
        case rel => exact FIN.out
  case rest =>
    obtain ⟨wA, rfl⟩ : ∃ q, q = wc := ⟨_, rfl⟩
    obtain ⟨xs, F, hd, hb, hsm, hfl, h60, hnil⟩ := hcut
    have D := Lib.hid hd; have BA := Lib.hid hb; have SM := Lib.hid hsm; have NIL := Lib.hid hnil
    have RC0 := Read_dk X10 hd.dk (by decide)
    clear hd hb hsm hnil
    cases hxs : xs with
    | nil =>
      subst hxs
      rw [hS_nil, ds_new, (may_new x10_ok 0 0).2, readB_new x10_ok] at RC0
      have RC := Lib.hid RC0
      clear RC0
      go_wp2_with fail
      refine RC.out.mono ?_
      rintro r w5 ⟨v5, rfl, ho5, hd5, hu5⟩
      obtain ⟨a5, c5, rfl, -, -, -, -, -⟩ := own_val ho5
      have B5 := Lib.hid (BA.out.trans (D.out.read (by rw [hS_nil]; exact hd5) hu5).2.2)
      obtain ⟨q0, q1, q2⟩ := CP.out w5 B5.out
      have R := Lib.hid (RD.out.below B5.out)
      clear ho5 hd5 hu5 q1 q2 RC
      rcases NIL.out trivial with hrw | ⟨x, r, hrw, hx⟩
      · have t1 : ((rows.length : Int) == 0) = true := by rw [hrw]; rfl
        clear hrw
        go_wp2_with (go_at_call 9; refine (num10_calls _ _).mono ?_; rintro r wx ⟨rfl, rfl⟩)
        go_ret
        exact ⟨rfl, B0.out.trans (B5.out.mono B0.out.size)⟩
      · have hlen : 0 < rows.length := by rw [hrw]; simp
        have t1 : ((rows.length : Int) == 0) = false := beq_eq_false_iff_ne.2 (by omega)
        have hx0 : rows[0] = x := by simp [hrw]
        obtain ⟨ab, ao, rfl, hcell⟩ := R.out.cell 0 hlen
        rw [hx0, Nat.add_zero] at hcell
        have t2 : decide ((524288 : Int) < (x.length : Int)) = true := decide_eq_true (by omega)
        have t2' : decide (524288 < x.length) = true := decide_eq_true hx
        have i1 : (0 : Int) < (rows.length : Int) := by omega
        clear hrw hx0
        go_wp2_with (go_at_call 9; refine (num10_calls _ _).mono ?_; rintro r wx ⟨rfl, rfl⟩)
        go_ret
        exact ⟨rfl, B0.out.trans (B5.out.mono B0.out.size)⟩
    | cons z zs =>
      have hne : xs ≠ [] := by rw [hxs]; simp
      have hpos : 13 ≤ flen xs := by rw [hxs]; simp [flen]; omega
      clear hxs
      rw [hS_cons hne, may_one x10_ok, readB_one x10_ok] at RC0
      have FL : (flw xs).length = flen xs := flw_len xs
      have HNE := Lib.hid hne
      obtain ⟨L, hL⟩ : ∃ l, flw xs = l := ⟨_, rfl⟩
      rw [hL] at RC0 FL
      have HLL := Lib.hid hL
      have RC := Lib.hid RC0
      have Lp : 13 ≤ L.length := by omega
      have Lq : L.length ≤ 525068 := by omega
      clear RC0 hL hne hpos FL
      go_wp2_with fail
      refine RC.out.mono ?_
      rintro r w5 ⟨v5, rfl, ho5, hd5, hu5⟩
      obtain ⟨g, c5, rfl⟩ := ho5.shape (by omega)
      have hcap := own_le ho5
      obtain ⟨j, hj, hjl⟩ : ∃ j : Nat, pa % (L.length : Int) = j ∧ j < L.length := ⟨(pa % (L.length : Int)).toNat, by have := Int.emod_nonneg pa (show (L.length : Int) ≠ 0 by omega); omega, by have := Int.emod_nonneg pa (show (L.length : Int) ≠ 0 by omega); have := Int.emod_lt_of_pos pa (show (0 : Int) < L.length by omega); omega⟩
      obtain ⟨m, hm, hml⟩ : ∃ m : Nat, pb % 255 = m ∧ m < 255 := ⟨(pb % 255).toNat, by omega, by omega⟩
      have W10 := fun wx => Within_calls pa L.length wx (by omega) (by omega) d1 d2
      rw [hj] at W10
      have W1 := Lib.hid W10
      have W20 := fun wx => Within_calls pb 255 wx (by omega) (by omega) d3 d4
      rw [hm] at W20
      have W2 := Lib.hid W20
      have c23 : w5.cell? ⟨g, j, none⟩ = some (.int .u8 (L[j].toNat : Int)) := by rw [ho5.cellAt j (by omega)]; simp [bys, hjl]
      have f23 := ho5.frozenAt j (by omega)
      have B5 := Lib.hid (BA.out.trans (D.out.read (by rw [hS_cons HNE.out, HLL.out]; exact hd5) hu5).2.2)
      obtain ⟨q0, q1, q2⟩ := CP.out w5 B5.out
      have tz : ((L.length : Int) == 0) = false := beq_eq_false_iff_ne.2 (by omega)
      have O5 := Lib.hid ho5
      have GGE : Hid (wA.heap.size ≤ g) := (ho5.lt g rfl).1
      clear ho5 hd5 hu5 RC W10 W20 hj hm
      go_upto_region 19 with (first | (go_at_call 9; refine (num10_calls _ _).mono ?_; rintro r wx ⟨rfl, rfl⟩) | (go_at_call 22; refine (W1.out _).mono ?_; rintro r wx ⟨rfl, rfl⟩))
      have i1 : (j : Int) < (L.length : Int) := by omega
      have SET : Hid (Own (w5.setCell ⟨g, j, none⟩ (.int .u8 ((L[j] ^^^ UInt8.ofNat (1 + m)).toNat : Int))) wA.heap.size 5 1 (.slice (some ⟨g, 0, none⟩) L.length c5) L.length (bys (bent L j (UInt8.ofNat (1 + m))))) := by
        have h := O5.out.set j (.int .u8 ((L[j] ^^^ UInt8.ofNat (1 + m)).toNat : Int))
        rw [bys_set] at h
        show Own _ _ _ _ _ _ _
        rw [bent, show L.getD j 0 = L[j] by simp [List.getD, hjl]]
        exact h
      have BEL : Hid (Below w0.heap.size w0 (w5.setCell ⟨g, j, none⟩ (.int .u8 ((L[j] ^^^ UInt8.ofNat (1 + m)).toNat : Int)))) := B5.out.setCell (by show _ ≤ g; exact Nat.le_trans D.out.bw GGE.out) _
      have X8 : Hid (bits BinOp.xor IntKind.u8 (L[j].toNat : Int) (IntKind.u8.wrap (IntKind.i64.wrap (1 + (m : Int)))) = ((L[j] ^^^ UInt8.ofNat (1 + m)).toNat : Int)) := xor8 _ m hml
      go_cut [] (fun wx => Own wx wA.heap.size 5 1 (.slice (some ⟨g, 0, none⟩) L.length c5) L.length (bys (bent L j (UInt8.ofNat (1 + m)))) ∧ Below w0.heap.size w0 wx)
      case first =>
        go_region_with (first | (go_at_call 22; refine (W2.out _).mono ?_; rintro r wx ⟨rfl, rfl⟩))
        all_goals go_wp2_with fail
        all_goals go_meet
        all_goals
          rw [X8.out]
          exact ⟨SET.out.below (bel_drewN (Below.refl _ _) 1), bel_drew BEL.out⟩
      case rest =>
        obtain ⟨wB, rfl⟩ : ∃ q, q = wc := ⟨_, rfl⟩
        obtain ⟨hoB, hbB⟩ := hcut
        have yne : UInt8.ofNat (1 + m) ≠ 0 := by
          intro h
          have h1 := congrArg UInt8.toNat h
          rw [UInt8.toNat_ofNat', Nat.mod_eq_of_lt (by omega)] at h1
          simp at h1
        have HURT := recOf_hurt_fl xs j (UInt8.ofNat (1 + m)) (fun x hx => by have := SM.out x hx; omega) (by rw [HLL.out]; exact hjl) yne
        rw [HLL.out] at HURT
        have lbt := bent_length L j (UInt8.ofNat (1 + m))
        obtain ⟨bt, hbt⟩ : ∃ l, bent L j (UInt8.ofNat (1 + m)) = l := ⟨_, rfl⟩
        rw [hbt] at hoB HURT lbt
        have YT : Byt wB (some ⟨g, 0, none⟩) bt := by
          rw [← lbt] at hoB
          exact (Own.byt hoB).1
        have gl : g < wB.heap.size := (hoB.lt g rfl).2
        obtain ⟨w6, hw6⟩ : ∃ q, wB.alloc (.cells #[.string ⟨#[120]⟩, .slice (some ⟨g, 0, none⟩) L.length c5] 47) = q := ⟨_, rfl⟩
        have B6 : Below wB.heap.size wB w6 := by rw [← hw6]; exact (Below.refl _ _).alloc (Nat.le_refl _) _
        have FI : Fil w6 (some ⟨wB.heap.size, 0, none⟩) [(X10, bt)] := by
          rw [← hw6, ← lbt]
          exact Fil.one wB X10 bt (some ⟨g, 0, none⟩) c5 YT (by omega)
        have LC := Lib.hid (Load_calls 4194304 [(X10, bt)] (some ⟨wB.heap.size, 0, none⟩) 1 w6 FI (by intro p hp; rw [List.mem_singleton] at hp; subst hp; exact ⟨show 1 ≤ 140737488351232 by decide, show bt.length ≤ 140737488355328 by omega⟩) (show 1 ≤ 140737488355328 by decide))
        have W6 := Lib.hid hw6; have BB := Lib.hid hbB
        have B6H := Lib.hid (BB.out.trans (B6.mono (Nat.le_trans D.out.bw (by
          have h9 := GGE.out; omega))))
        have Y6 := Lib.hid (YT.below B6)
        have G6 := Lib.hid (Nat.lt_of_lt_of_le gl B6.size)
        have HU := Lib.hid HURT; have LT := Lib.hid lbt
        clear hoB hbB FI YT gl hw6 hbt HURT B6 yne lbt
        go_wp2_with fail
        rw [W6.out]
        refine LC.out.mono ?_
        rintro r w7 hr
        obtain ⟨db2, G2, rfl, d7, b7⟩ := load_s (room := 4194304) (by decide) (by decide) x10_ok (by have := LT.out; omega) hr
        have D7 := Lib.hid d7; have B7 := Lib.hid b7
        have Z6 := Lib.hid (show w0.heap.size ≤ w6.heap.size from B6H.out.size)
        have TB7 := Lib.hid ((TB.out.bel B6H.out HG.out).bel B7.out (Nat.lt_of_lt_of_le HG.out Z6.out))
        clear d7 b7 hr LC
        have O8 := Open_s X10 D7.out TB7.out (Nat.lt_of_lt_of_le HG.out Z6.out) (by decide) (Nat.zero_le _)
        rw [open_hurt x10_ok 0 0 0 HU.out] at O8
        have O8H := Lib.hid O8
        clear O8
        go_wp2_with (go_at_call 9; refine (num10_calls _ _).mono ?_; rintro r wx ⟨rfl, rfl⟩)
        refine O8H.out.mono ?_
        rintro r w8 ⟨F8, d8, u8', b8, f8, rfl⟩
        have D8 := Lib.hid d8; have B8 := Lib.hid (B7.out.trans b8)
        clear d8 u8' b8 f8 O8H
        have R8 := Read_dk X10 D8.out.dk (by decide)
        rw [may_one x10_ok, readB_one x10_ok] at R8
        have R8H := Lib.hid R8
        clear R8
        go_wp2_with fail
        refine R8H.out.mono ?_
        rintro r w9 ⟨v9, rfl, ho9, d9, u9'⟩
        obtain ⟨a9, c9, rfl, -, -, y9, -, -⟩ := own_val ho9
        obtain ⟨d9', -, b9⟩ := D8.out.read d9 u9'
        have D9 := Lib.hid d9'; have B9 := Lib.hid (B8.out.trans b9)
        have y10 : Byt w9 (some ⟨g, 0, none⟩) bt := Y6.out.below B9.out
        have x1 : (convert 35 9 (.slice a9 bt.length c9)).run Tryd.prog w9 = .ok (.string ⟨bt.toArray⟩) w9 := conv_bytes Tryd.underlying35 Tryd.underlying5 Tryd.underlying9 y9
        have x2 : (convert 35 9 (.slice (some ⟨g, 0, none⟩) L.length c5)).run Tryd.prog w9 = .ok (.string ⟨bt.toArray⟩) w9 := by
          have h9 := conv_bytes (P := Tryd.prog) (cap := c5) Tryd.underlying35 Tryd.underlying5 Tryd.underlying9 y10
          rw [LT.out] at h9
          exact h9
        have WR := Lib.hid (Writes_dk D9.out.dk)
        clear ho9 y9 y10 d9 d9' b9 u9' R8H
        go_wp2_with (go_at_call 9; refine (num10_calls _ _).mono ?_; rintro r wx ⟨rfl, rfl⟩)
        refine WR.out.mono ?_
        rintro r w10 ⟨rfl, h10⟩
        have FIN := Lib.hid (show Below w.heap.size w w10 from by
          obtain ⟨F10, g10, u10, b10, -⟩ := D9.out.step h10
          have h11 : Below w6.heap.size w6 w10 := B9.out.trans b10
          exact B0.out.trans ((B6H.out.trans (h11.mono Z6.out)).mono B0.out.size))
        clear h10 WR
        go_wp2
        go_ret
        exact ⟨rfl, FIN.out⟩
end Go.Proofs.YtnbpkignkfabkaaDoor
