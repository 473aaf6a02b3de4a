/- posternlaw10.WalTorn. -/
import Derived.Test.YtnbpkignkfabkaaDoorWalK
import Derived.Test.YtnbpkignkfabkaaDoorLong
import Derived.Test.YtnbpkignkfabkaaDoorStep
import Derived.Deep.CutBlock
import Derived.Deep.DeepCutAuto
import Derived.BigQuiet
namespace Go.Proofs.YtnbpkignkfabkaaDoor
set_option linter.unusedVariables false
set_option linter.unusedSimpArgs false
open Go.RowKit Go.Maps
def LOG : List UInt8 := [108, 111, 103]
def MORE : List UInt8 := [109, 111, 114, 101]
theorem log_ok : nmOk LOG = true := by rfl
/-- A disk, its one file's records and a torn one; the row of what was appended. -/
structure TnQ (w0 wr : World) (B db : Nat) (rows : List (List UInt8)) (Af : Nat → Option Addr) (Cf : Nat → Nat) (v : Value) (k : Nat) (has : Bool) (l t : List UInt8) (arm keep : Int) (off : Bool) (n : Nat) (F : Nat → Prop) : Prop where
  dk : DkS wr B db F (UD 4194304 LOG has l arm keep off n)
  wn : Wn wr B v k rows Af Cf F
  bel : Below B w0 wr
  eq : l = flw (rows.take k) ++ t
  hh : has = false → l = []
  tt : t = [] ∨ recOf t = ([], 0, 30)
  tl : t.length ≤ 600000
  fl : flen (rows.take k) ≤ 600000
  sm : ∀ x ∈ rows.take k, x.length ≤ 524288
  kl : k ≤ 200
  ar : 0 ≤ arm
section
variable {w0 wr w' : World} {B db k n : Nat} {rows : List (List UInt8)} {Af : Nat → Option Addr} {Cf : Nat → Nat} {v : Value} {has off : Bool} {l t : List UInt8} {arm keep : Int} {F : Nat → Prop}
theorem TnQ.step (h : TnQ w0 wr B db rows Af Cf v k has l t arm keep off n F) {arm' keep' : Int} {off' : Bool} (hs : DkStep wr w' B db F (UD 4194304 LOG has l arm' keep' off' n)) (ha : 0 ≤ arm') : ∃ F', TnQ w0 w' B db rows Af Cf v k has l t arm' keep' off' n F' ∧ Upd F wr w' ∧ (∀ i, F' i → F i ∨ wr.heap.size ≤ i) := by
  obtain ⟨F', h1, h2, h3, h4⟩ := hs
  exact ⟨F', ⟨h1, h.wn.step h2 h4, h.bel.trans h3, h.eq, h.hh, h.tt, h.tl, h.fl, h.sm, h.kl, ha⟩, h2, h4⟩
theorem TnQ.below (h : TnQ w0 wr B db rows Af Cf v k has l t arm keep off n F) (hb : Below wr.heap.size wr w') : TnQ w0 w' B db rows Af Cf v k has l t arm keep off n F :=
  ⟨h.dk.below hb, h.wn.below hb, h.bel.trans (hb.mono h.dk.bw), h.eq, h.hh, h.tt, h.tl, h.fl, h.sm, h.kl, h.ar⟩
theorem TnQ.recs (h : TnQ w0 wr B db rows Af Cf v k has l t arm keep off n F) : recOf l = (rows.take k, flen (rows.take k), if t = [] then 0 else 30) := by
  rw [h.eq, recOf_fl _ _ (fun x hx => by have := h.sm x hx; omega)]
  rcases h.tt with e | e
  · subst e
    rw [recOf_nil]
    simp
  · rw [e, if_neg (by rintro rfl; rw [recOf_nil] at e; cases e)]
    simp
/-- What an Open makes of it. -/
theorem TnQ.opened (h : TnQ w0 wr B db rows Af Cf v k has l t 0 keep false n F) : ∃ has' n', openR (UD 4194304 LOG has l 0 keep false n) LOG = (0, some (rows.take k, flen (rows.take k)), UD 4194304 LOG has' (flw (rows.take k)) 0 keep false n') ∧ (has' = false → flw (rows.take k) = []) ∧ n' ≤ n + 1 := by
  have hr := h.recs
  by_cases e : t = []
  · rw [if_pos e] at hr
    have el : l = flw (rows.take k) := by rw [h.eq, e, List.append_nil]
    have h9 := h.hh
    refine ⟨has, n, ?_, fun he => by rw [← el]; exact h9 he, by omega⟩
    rw [UD_openOk log_ok h9 hr, el]
  · rw [if_neg e] at hr
    obtain rfl : has = true := UD_torn h.hh hr
    refine ⟨true, n + 1, ?_, fun he => by (cases he), by omega⟩
    rw [UD_openTorn log_ok hr (by decide) (by decide), h.eq, ← flw_len, List.take_left]
    rfl
end
/-- In the loop, ahead of the torn one. -/
structure TnA (w0 wr : World) (B db lb : Nat) (rows : List (List UInt8)) (Af : Nat → Option Addr) (Cf : Nat → Nat) (m : Nat) (keep : Int) (i sp : Nat) (v : Value) (has : Bool) (F : Nat → Prop) : Prop where
  q : TnQ w0 wr B db rows Af Cf v i has (flw (rows.take i)) [] ((m : Int) - i) keep false i F
  lg : Lg wr lb db LOG (flen (rows.take i)) false
  nf : ¬ F lb
  lt : i < m
  sum : ((rows.take i).map List.length).sum = sp ∧ sp ≤ 524288
def TnX (w0 wr : World) (B db : Nat) (rows : List (List UInt8)) (Af : Nat → Option Addr) (Cf : Nat → Nat) (v : Value) : Prop :=
  ∃ F k has l t arm keep off n, TnQ w0 wr B db rows Af Cf v k has l t arm keep off n F ∧ n ≤ 250
theorem TnQ.offq {w0 wr : World} {B db k n : Nat} {rows : List (List UInt8)} {Af : Nat → Option Addr} {Cf : Nat → Nat} {v : Value} {has off : Bool} {l t : List UInt8} {arm keep : Int} {F : Nat → Prop} (h : TnQ w0 wr B db rows Af Cf v k has l t arm keep off n F) : Calls Tryd.prog 23 #[.pointer (some ⟨db, 0, none⟩)] wr fun r w' => r = .returned (.bool off) ∧ ∃ F', TnQ w0 w' B db rows Af Cf v k has l t arm keep off n F' ∧ Upd F wr w' ∧ (∀ i, F' i → F i ∨ wr.heap.size ≤ i) :=
  h.dk.offq.mono fun _ _ hr => ⟨hr.1, h.step hr.2 h.ar⟩
theorem TnA.offq {w0 wr : World} {B db lb : Nat} {rows : List (List UInt8)} {Af : Nat → Option Addr} {Cf : Nat → Nat} {m : Nat} {keep : Int} {i sp : Nat} {v : Value} {has : Bool} {F : Nat → Prop} (h : TnA w0 wr B db lb rows Af Cf m keep i sp v has F) : Calls Tryd.prog 23 #[.pointer (some ⟨db, 0, none⟩)] wr fun r w' => r = .returned (.bool false) ∧ ∃ F', TnA w0 w' B db lb rows Af Cf m keep i sp v has F' :=
  h.q.offq.mono fun _ _ ⟨h1, F', h2, h3, h4⟩ => ⟨h1, F', h2, h.lg.upd h3 h.nf, fun hf => (h4 lb hf).elim h.nf (fun h9 => by have := h.lg.lt; omega), h.lt, h.sum⟩
/-- One more went through. -/
theorem TnA.next {w0 wr w5 w6 w7 : World} {B db lb : Nat} {rows : List (List UInt8)} {Af : Nat → Option Addr} {Cf : Nat → Nat} {m : Nat} {keep : Int} {i sp : Nat} {v v7 : Value} {has : Bool} {F F6 : Nat → Prop} {o : Obj} (h : TnA w0 wr B db lb rows Af Cf m keep i sp v has F) (hi : i < rows.length) (hi2 : i < 200) (hm : i + 1 < m) (hm2 : m ≤ 40) (hsp : sp + rows[i].length ≤ 524288) (hb5 : Below wr.heap.size wr w5)
    (d6 : DkS w6 B db F6 (UD 4194304 LOG true (flw (rows.take i) ++ frm rows[i]) (decA ((m : Int) - i)) keep false (i + 1))) (l6 : Lg w6 lb db LOG (flen (rows.take i) + (rows[i].length + 13)) false) (n6 : ¬ F6 lb) (u6 : Upd (fun j => F j ∨ j = lb) w5 w6) (b6 : Below B w5 w6) (f6 : ∀ j, F6 j → F j ∨ w5.heap.size ≤ j)
    (ho7 : Own w7 B 35 1 v7 (i + 1) (svs rows Af Cf i ++ [.slice (Af i) rows[i].length (Cf i)])) (hg7 : (w6.alloc o).grownBy w7 v.ownBlock) (hv7 : v7.ownBlock = v.ownBlock ∨ v7.ownBlock = some (w6.alloc o).heap.size) (hnl : v.ownBlock ≠ some lb) :
    TnA w0 w7 B db lb rows Af Cf m keep (i + 1) (sp + rows[i].length) v7 true F6 := by
  have et : rows.take (i + 1) = rows.take i ++ [rows[i]] := List.take_succ_eq_append_getElem hi
  have wn6 := (h.q.wn.below hb5).wal (h.lg.below hb5) u6 f6
  obtain ⟨d7, u7, b7⟩ := d6.push (o := o) wn6 hg7
  have sm : ((rows.take (i + 1)).map List.length).sum = sp + rows[i].length := by rw [et, List.map_append, List.sum_append, h.sum.1]; simp
  have fl : flen (rows.take (i + 1)) ≤ 600000 := by
    rw [flen_sum, sm, List.length_take]; omega
  refine ⟨⟨?_, wn6.push hi (fun j hj => (d6.fl j hj).2) ho7 hv7, ((h.q.bel.trans (hb5.mono h.q.dk.bw)).trans b6).trans b7, by rw [List.append_nil], fun e => by (cases e), .inl rfl, by simp, fl, ?_, by omega, by omega⟩, ?_, n6, hm, sm, hsp⟩
  · rw [et, flw_snoc]
    have e : decA ((m : Int) - i) = (m : Int) - (i + 1 : Nat) := by unfold decA; rw [if_pos (by omega)]; omega
    rw [← e]
    exact d7
  · intro x hx
    have := le_sum_mem (List.mem_map.2 ⟨x, hx, rfl⟩ : x.length ∈ (rows.take (i + 1)).map List.length)
    omega
  · rw [et, flen_snoc]
    exact l6.upd u7 (fun e => hnl e)
/-- A disk and a row of what was appended. -/
structure TnR (w0 wr : World) (B db : Nat) (rows : List (List UInt8)) (Af : Nat → Option Addr) (Cf : Nat → Nat) (v : Value) (k : Nat) (s : DS) (F : Nat → Prop) : Prop where
  dk : DkS wr B db F s
  wn : Wn wr B v k rows Af Cf F
  bel : Below B w0 wr
theorem TnR.step {w0 wr w' : World} {B db k : Nat} {rows : List (List UInt8)} {Af : Nat → Option Addr} {Cf : Nat → Nat} {v : Value} {s s' : DS} {F F' : Nat → Prop} (h : TnR w0 wr B db rows Af Cf v k s F) (h1 : DkS w' B db F' s') (h2 : Upd F wr w') (h3 : Below B wr w') (h4 : ∀ i, F' i → F i ∨ wr.heap.size ≤ i) : TnR w0 w' B db rows Af Cf v k s' F' := ⟨h1, h.wn.step h2 h4, h.bel.trans h3⟩
theorem TnR.wal {w0 wr w' : World} {B db k lb n : Nat} {nm : List UInt8} {o : Bool} {rows : List (List UInt8)} {Af : Nat → Option Addr} {Cf : Nat → Nat} {v : Value} {s s' : DS} {F F' : Nat → Prop} (h : TnR w0 wr B db rows Af Cf v k s F) (hl : Lg wr lb db nm n o) (h1 : DkS w' B db F' s') (h2 : Upd (fun i => F i ∨ i = lb) wr w') (h3 : Below B wr w') (h4 : ∀ i, F' i → F i ∨ wr.heap.size ≤ i) : TnR w0 w' B db rows Af Cf v k s' F' := ⟨h1, h.wn.wal hl h2 h4, h.bel.trans h3⟩
/-- The torn one. -/
theorem TnA.tear {w0 wr w6 : World} {B db lb : Nat} {rows : List (List UInt8)} {Af : Nat → Option Addr} {Cf : Nat → Nat} {m : Nat} {keep : Int} {i sp : Nat} {v : Value} {has : Bool} {F F6 : Nat → Prop} (h : TnA w0 wr B db lb rows Af Cf m keep i sp v has F) (hi : i < rows.length) (hi2 : i < 200) (hsp : sp + rows[i].length ≤ 524288)
    (hr : TnR w0 w6 B db rows Af Cf v i (UD 4194304 LOG (has || decide (0 < keep)) (flw (rows.take i) ++ keptB (frm rows[i]) keep) 0 keep true (i + 1)) F6) (hk : keep < rows[i].length + 13) :
    TnQ w0 w6 B db rows Af Cf v i (has || decide (0 < keep)) (flw (rows.take i) ++ keptB (frm rows[i]) keep) (keptB (frm rows[i]) keep) 0 keep true (i + 1) F6 := by
  have hkl : (keptB (frm rows[i]) keep).length ≤ rows[i].length + 13 := by
    unfold keptB
    rw [List.length_take, frm_length]
    omega
  refine ⟨hr.dk, hr.wn, hr.bel, rfl, ?_, ?_, by omega, h.q.fl, h.q.sm, h.q.kl, by decide⟩
  · intro he
    have e1 : has = false := by cases has <;> simp_all
    have e2 : ¬ 0 < keep := by cases has <;> simp_all
    have e3 := h.q.hh e1
    rw [e3]
    unfold keptB
    rw [show (max 0 (min keep ((frm rows[i]).length : Int))).toNat = 0 by omega]
    rfl
  · by_cases c : 0 < keep
    · right
      obtain ⟨kk, hkk⟩ : ∃ kk : Nat, keep = kk := ⟨keep.toNat, by omega⟩
      rw [hkk, keptB_nat _ _ (by rw [frm_length]; omega)]
      exact recOf_torn _ _ (by omega) (by rw [frm_length]; omega) (by omega)
    · left
      unfold keptB
      rw [show (max 0 (min keep ((frm rows[i]).length : Int))).toNat = 0 by omega]
      rfl
/-- .. all of which is kept. -/
theorem TnA.torn {w0 wr w6 w7 : World} {B db lb : Nat} {rows : List (List UInt8)} {Af : Nat → Option Addr} {Cf : Nat → Nat} {m : Nat} {keep : Int} {i sp : Nat} {v v7 : Value} {has : Bool} {F F6 : Nat → Prop} {o : Obj} (h : TnA w0 wr B db lb rows Af Cf m keep i sp v has F) (hi : i < rows.length) (hi2 : i < 200) (hsp : sp + rows[i].length ≤ 524288)
    (hr : TnR w0 w6 B db rows Af Cf v i (UD 4194304 LOG (has || decide (0 < keep)) (flw (rows.take i) ++ keptB (frm rows[i]) keep) 0 keep true (i + 1)) F6) (hk : rows[i].length + 13 ≤ keep)
    (ho7 : Own w7 B 35 1 v7 (i + 1) (svs rows Af Cf i ++ [.slice (Af i) rows[i].length (Cf i)])) (hg7 : (w6.alloc o).grownBy w7 v.ownBlock) (hv7 : v7.ownBlock = v.ownBlock ∨ v7.ownBlock = some (w6.alloc o).heap.size) :
    TnQ w0 w7 B db rows Af Cf v7 (i + 1) true (flw (rows.take (i + 1))) [] 0 keep true (i + 1) F6 := by
  have et : rows.take (i + 1) = rows.take i ++ [rows[i]] := List.take_succ_eq_append_getElem hi
  obtain ⟨d7, u7, b7⟩ := hr.dk.push (o := o) hr.wn hg7
  have sm : ((rows.take (i + 1)).map List.length).sum = sp + rows[i].length := by rw [et, List.map_append, List.sum_append, h.sum.1]; simp
  have fl : flen (rows.take (i + 1)) ≤ 600000 := by
    rw [flen_sum, sm, List.length_take]; omega
  refine ⟨?_, hr.wn.push hi (fun j hj => (hr.dk.fl j hj).2) ho7 hv7, hr.bel.trans b7, by rw [List.append_nil], fun e => by (cases e), .inl rfl, by simp, fl, ?_, by omega, by decide⟩
  · rw [et, flw_snoc]
    have e1 : keptB (frm rows[i]) keep = frm rows[i] := by
      unfold keptB
      rw [List.take_of_length_le]
      rw [frm_length]; omega
    have e2 : (has || decide (0 < keep)) = true := by rw [decide_eq_true (show 0 < keep by omega), Bool.or_true]
    rw [e1, e2] at d7
    exact d7
  · intro x hx
    have := le_sum_mem (List.mem_map.2 ⟨x, hx, rfl⟩ : x.length ∈ (rows.take (i + 1)).map List.length)
    omega
theorem walA_off' (s : DS) (nm x : List UInt8) (n : Nat) : walA s nm n true x = (102, n, true, s) := by
  unfold walA
  rw [if_pos rfl]
set_option maxRecDepth 100000 in
set_option maxHeartbeats 8000000 in
theorem WalTorn_calls (w : World) (a : Option Addr) (cap : Nat) (rows : List (List UInt8)) (Af : Nat → Option Addr) (Cf : Nat → Nat) (pn pk pt pj : Int) (hr : Rd2 w a rows Af Cf) (hl : rows.length ≤ 140737488355328) (d1 : -9223372036854775808 ≤ pn) (d2 : pn ≤ 9223372036854775807) (ht : Tab w) (hg : 0 < w.heap.size) :
    Calls Tryd.prog 5 #[.agg #[.slice a rows.length cap, .int .i64 pn, .int .i64 pk, .int .i64 pt, .int .i64 pj]] w fun r w' => r = .returned (.bool true) ∧ Below w.heap.size w w' := by
  obtain ⟨w0, hw0⟩ : ∃ q, w.alloc (.cells #[.slice a rows.length cap, .int .i64 pn, .int .i64 pk, .int .i64 pt, .int .i64 pj] 53) = q := ⟨_, rfl⟩
  have b0 : Below w.heap.size w w0 := by rw [← hw0]; exact (Below.refl _ _).alloc (Nat.le_refl _) _
  have blk : w0.heap[w.heap.size]? = some (.cells #[.slice a rows.length cap, .int .i64 pn, .int .i64 pk, .int .i64 pt, .int .i64 pj] 53 (0, 0)) := by rw [← hw0]; exact heap_alloc_new w _
  have s0 : w.heap.size < w0.heap.size := lt_of_block blk
  have CP := Lib.hid (fun (w' : World) (hb : Below w0.heap.size w0 w') => show w'.cell? ⟨w.heap.size, 0, none⟩ = some (.slice a rows.length cap) ∧ w'.cell? ⟨w.heap.size, 1, none⟩ = some (.int .i64 pn) ∧ w'.cell? ⟨w.heap.size, 2, none⟩ = some (.int .i64 pk) ∧ w'.cell? ⟨w.heap.size, 3, none⟩ = some (.int .i64 pt) ∧ w'.cell? ⟨w.heap.size, 4, none⟩ = some (.int .i64 pj) from by
    have h9 := (hb.block _ s0).trans blk
    exact ⟨by rw [cell_of_row' h9]; rfl, by rw [cell_of_row' h9]; rfl, by rw [cell_of_row' h9]; rfl, by rw [cell_of_row' h9]; rfl, by rw [cell_of_row' h9]; rfl⟩)
  have TB := Lib.hid (ht.bel b0 hg); have HG : Hid (0 < w0.heap.size) := Nat.lt_of_lt_of_le hg b0.size
  have RD := Lib.hid (hr.below b0)
  have NC := Lib.hid (NewK_calls 4194304 w0)
  have W0 := Lib.hid hw0; have B0 := Lib.hid b0
  obtain ⟨m, hm, hml⟩ : ∃ m : Nat, pn % 40 = m ∧ m < 40 := ⟨(pn % 40).toNat, by omega, by omega⟩
  have W10 := fun wx => Within_calls pn 40 wx (by omega) (by omega) d1 d2
  rw [hm] at W10
  have W1 := Lib.hid W10
  clear hr ht hg b0 blk hw0 hm W10 d1 d2
  go_enter Tryd.func5, Tryd.ntmps5
  go_wp2_with fail
  rw [W0.out]
  refine NC.out.mono ?_
  rintro r w1 hr
  obtain ⟨db, F1, rfl, dd1, b1⟩ := new_s (room := 4194304) (by decide) (by decide) hr
  have D1 := Lib.hid dd1; have B1 := Lib.hid b1
  clear dd1 b1 hr NC
  have WK := Lib.hid (works10_calls w1 (TB.out.bel B1.out HG.out) (Nat.lt_of_lt_of_le HG.out D1.out.bw))
  go_wp2_with (go_at_call 9; refine (num10_calls _ _).mono ?_; rintro r wx ⟨rfl, rfl⟩)
  refine WK.out.mono ?_
  rintro r w2 ⟨rfl, b2⟩
  have D2 := Lib.hid (D1.out.below b2)
  have B2 := Lib.hid (B1.out.trans (b2.mono D1.out.bw))
  clear b2 WK
  have O2 := Open_s LOG D2.out (TB.out.bel B2.out HG.out) HG.out (by decide) (Nat.zero_le _)
  rw [ds_new, open_new log_ok] at O2
  have O2H := Lib.hid O2
  clear O2
  go_wp2_with fail
  refine O2H.out.mono ?_
  rintro r w3 ⟨F3, dd3, u3', b3, f3, lb, a3, c3, Af3, Cf3, rfl, l3, g3, n3, -, -⟩
  have D3 := Lib.hid (show DkS w3 w0.heap.size db F3 (UD 4194304 LOG false [] 0 0 false 0) from dd3); have B3 := Lib.hid (B2.out.trans b3); have L3 := Lib.hid l3; have N3 := Lib.hid n3
  have LBB := Lib.hid (Nat.le_trans D2.out.bw g3)
  obtain ⟨q0, q1, q2, q3, q4⟩ := CP.out w3 B3.out
  have A4 := Lib.hid (D3.out.arm (1 + (m : Int)) pk (by omega))
  clear dd3 u3' b3 f3 l3 g3 n3 O2H q3 q4
  go_wp2_with (first | (go_at_call 9; refine (num10_calls _ _).mono ?_; rintro r wx ⟨rfl, rfl⟩) | (go_at_call 22; refine (W1.out _).mono ?_; rintro r wx ⟨rfl, rfl⟩))
  refine A4.out.mono ?_
  rintro r w4 ⟨rfl, F4, d4, u4', b4, f4⟩
  have IA : Hid (TnA w0 w4 w0.heap.size db lb rows Af Cf (m + 1) pk 0 0 (.slice none 0 0) false F4) := by
    have e : max 0 (1 + (m : Int)) = (((m + 1 : Nat) : Int) - ((0 : Nat) : Int)) := by omega
    refine ⟨⟨?_, Wn.nil _ _ _ _ _ _, B3.out.trans b4, rfl, fun _ => rfl, .inl rfl, by simp, by simp [flen], by simp, by omega, by omega⟩, L3.out.upd u4' N3.out, ?_, by omega, rfl, by omega⟩
    · rw [← e]
      exact d4
    · intro hf
      rcases f4 lb hf with h9 | h9
      · exact N3.out h9
      · have := L3.out.lt; omega
  clear d4 u4' b4 f4 A4 D1 B1 D2 B2 D3 B3 L3 N3 q0 q1 q2
  go_upto_block 0 with fail
  go_cut [8] (fun v8 wr => TnX w0 wr w0.heap.size db rows Af Cf v8)
  case first =>
    go_wp2
    go_loopw [8, 9, 11] (fun v8 vs vi wr => ∃ (i sp : Nat), vs = .int .i64 sp ∧ vi = .int .i64 i ∧ ((∃ has F, TnA w0 wr w0.heap.size db lb rows Af Cf (m + 1) pk i sp v8 has F ∧ i ≤ rows.length) ∨ (∃ F k has l t n, TnQ w0 wr w0.heap.size db rows Af Cf v8 k has l t 0 pk true n F ∧ n ≤ 250))) (fun _ _ vi _ => rows.length - (intOf vi).toNat)
    case atStart => exact ⟨0, 0, rfl, rfl, .inl ⟨false, F4, IA.out, Nat.zero_le _⟩⟩
    case round =>
      obtain ⟨i, sp, rfl, rfl, ⟨has, F, hh, hi⟩ | ⟨F, k, has, l, t, n, hh, hn⟩⟩ := hrel
      · have HA := Lib.hid hh
        have II : i ≤ 250 := by have := hh.q.kl; omega
        obtain ⟨q0, -, -, -, -⟩ := CP.out wr hh.q.bel
        have R := Lib.hid (RD.out.below hh.q.bel)
        have EX : Hid (TnX w0 wr w0.heap.size db rows Af Cf u8) := ⟨F, i, has, _, _, _, _, _, _, hh.q, II⟩
        have OC := Lib.hid hh.offq
        clear hh
        by_cases c1 : i < rows.length
        · have t1 : decide ((i : Int) < (rows.length : Int)) = true := decide_eq_true (by omega)
          have t1' : decide (i < rows.length) = true := decide_eq_true c1
          by_cases c2 : i < 200
          · have t2 : decide ((i : Int) < 200) = true := decide_eq_true (by omega)
            have t2' : decide (i < 200) = true := decide_eq_true c2
            go_wp2_with fail
            refine OC.out.mono ?_
            rintro r w5 ⟨rfl, F5, h5⟩
            have H5 := Lib.hid h5
            obtain ⟨q0, -, q2, -, -⟩ := CP.out w5 h5.q.bel
            have R5 := Lib.hid (RD.out.below h5.q.bel)
            have SP : sp ≤ 524288 := h5.sum.2
            have IM : i < m + 1 := h5.lt
            clear h5
            obtain ⟨ab, ao, rfl, hcell⟩ := R5.out.cell i c1
            have hby := R5.out.byt i c1
            have hsh := R5.out.short i c1
            obtain ⟨x, hx⟩ : ∃ x, rows[i] = x := ⟨_, rfl⟩
            rw [hx] at hcell hby hsh
            have HX := Lib.hid hx
            have YB := Lib.hid hby
            clear hby hx OC EX R
            by_cases c3 : 524288 < sp + x.length
            · have t3 : decide ((524288 : Int) < (sp : Int) + (x.length : Int)) = true := decide_eq_true (by omega)
              have t3' : decide (524288 < sp + x.length) = true := decide_eq_true c3
              have EX : Hid (TnX w0 w5 w0.heap.size db rows Af Cf u8) := ⟨F5, i, has, _, _, _, _, _, _, H5.out.q, II⟩
              go_wp2
              go_meet
              case rel => exact EX.out
            · have t3 : decide ((524288 : Int) < (sp : Int) + (x.length : Int)) = false := decide_eq_false (by omega)
              have t3' : decide (524288 < sp + x.length) = false := decide_eq_false c3
              have CC := Lib.hid (Copy_calls (Af i) (Cf i) x w5 YB.out hsh)
              go_wp2_with fail
              refine CC.out.mono ?_
              rintro r w6 ⟨v6, rfl, ho6, hb6⟩
              obtain ⟨a6, c6, rfl, -, -, y6, -, -⟩ := own_val ho6
              have B6 := Lib.hid hb6
              have BEL6 := Lib.hid (H5.out.q.bel.trans (hb6.mono H5.out.q.dk.bw))
              have hfl : flen (rows.take i) + (x.length + 13) ≤ 4194304 := by
                have := H5.out.q.fl
                omega
              have AC := WalAppend_s x a6 c6 (H5.out.q.dk.below hb6) (H5.out.lg.below hb6) LBB.out H5.out.nf (TB.out.bel BEL6.out HG.out) HG.out y6 hsh (by decide) (show i ≤ 4611686018427387904 by omega) (by omega)
              have LG6 := Lib.hid (H5.out.lg.below hb6)
              clear ho6 hb6 y6 CC
              by_cases c4 : i + 1 < m + 1
              · rw [UD_walA log_ok H5.out.q.hh (by omega) (by rw [flw_len]; exact hfl) (by omega) (by omega)] at AC
                have ACH := Lib.hid AC
                have t4 : decide ((i : Int) + 1 < 1 + (m : Int)) = true := decide_eq_true (by omega)
                clear AC hfl
                go_wp2_with fail
                refine ACH.out.mono ?_
                rintro r w7 ⟨rfl, F7, g7, l7, n7, u7, b7, f7⟩
                have B7 := Lib.hid (BEL6.out.trans b7)
                have WN7 := Lib.hid ((H5.out.q.wn.below B6.out).wal LG6.out u7 f7)
                obtain ⟨q0, -, q2, -, -⟩ := CP.out w7 B7.out
                obtain ⟨ab', ao', e, hc7⟩ := (RD.out.below B7.out).cell i c1
                cases e
                rw [HX.out] at hc7
                have G7 := Lib.hid g7; have L7 := Lib.hid l7; have N7 := Lib.hid n7; have U7 := Lib.hid u7; have BB7 := Lib.hid b7; have F7H := Lib.hid f7
                have N1 : Hid (i + 1 ≤ maxLen) := by show _ ≤ _; unfold maxLen; omega
                have N2 : Hid ((i + 1) * 24 ≤ 140737488355328) := by show _ ≤ _; omega
                have N3 : Hid (w0.heap.size ≤ (w7.alloc (.cells #[.slice (Af i) x.length (Cf i)] 35)).heap.size) := by
                  show _ ≤ _
                  rw [World.size_alloc]
                  exact Nat.le_trans B7.out.size (Nat.le_succ _)
                have NL : Hid (u8.ownBlock ≠ some lb) := (H5.out.q.wn.own.not_ty H5.out.lg (by decide))
                clear g7 l7 n7 u7 b7 f7 ACH
                go_wp2_with (first | (go_at_call 9; refine (num10_calls _ _).mono ?_; rintro r wx ⟨rfl, rfl⟩) | (at_builtin; refine wpList_append rfl (.tmp 106) (.tmp 112) 22 22 rfl w0.heap.size 35 (.slice none 0 0) 1 24 Tryd.underlying22 infoRow rfl (v := u8) (n := i) (xs := svs rows Af Cf i) (WN7.out.own.alloc _) rfl (xv := .slice (some ⟨w7.heap.size, 0, none⟩) 1 1) (m := 1) (news := [.slice (Af i) x.length (Cf i)]) (Src_new Tryd.underlying22 (heap_alloc_new w7 _) rfl) rfl N1.out N2.out N3.out ?_))
                rintro v9 w9 ho9 hg9 - hv9
                have NX : Hid (TnA w0 w9 w0.heap.size db lb rows Af Cf (m + 1) pk (i + 1) (sp + x.length) v9 true F7) := by
                  have h9 := H5.out.next (w5 := w6) (w6 := w7) (w7 := w9) (v7 := v9) (F6 := F7) (o := .cells #[.slice (Af i) x.length (Cf i)] 35) c1 c2 c4 (by omega) (by rw [HX.out]; omega) B6.out
                  rw [HX.out] at h9
                  exact h9 G7.out L7.out N7.out U7.out BB7.out F7H.out ho9 hg9 (by rw [World.size_alloc]; exact hv9) NL.out
                clear ho9 hg9 hv9
                go_wp2
                go_roundw
                case rel => exact ⟨i + 1, sp + x.length, by go_num, by go_num, .inl ⟨true, F7, NX.out, by omega⟩⟩
                case measure => simp [intOf]; omega
              · have em : (((m + 1 : Nat) : Int) - (i : Int)) = 1 := by omega
                have hw1 := UD_walA1 (room := 4194304) (nm := LOG) (l := flw (rows.take i)) (has := has) (keep := pk) (wr := i) (x := x) log_ok H5.out.q.hh (by omega) (by rw [flw_len]; exact hfl) (flen (rows.take i))
                rw [em, hw1] at AC
                have ACH := Lib.hid AC
                have t4 : decide ((i : Int) + 1 < 1 + (m : Int)) = false := decide_eq_false (by omega)
                clear AC hfl em hw1
                go_wp2_with fail
                refine ACH.out.mono ?_
                rintro r w7 ⟨rfl, F7, g7, l7, n7, u7, b7, f7⟩
                have R7 := Lib.hid ((TnR.mk (H5.out.q.dk.below B6.out) (H5.out.q.wn.below B6.out) BEL6.out).wal LG6.out g7 u7 b7 f7)
                have L7 := Lib.hid l7; have N7 := Lib.hid n7
                have OF7 := Lib.hid (show Calls Tryd.prog 23 #[.pointer (some ⟨db, 0, none⟩)] w7 fun r w' => r = .returned (.bool true) ∧ DkStep w7 w' w0.heap.size db F7 _ from g7.offq)
                clear g7 l7 n7 u7 b7 f7 ACH
                go_wp2_with (go_at_call 9; refine (num10_calls _ _).mono ?_; rintro r wx ⟨rfl, rfl⟩)
                refine OF7.out.mono ?_
                rintro r w8 ⟨rfl, F8, g8, u8', b8, f8⟩
                have R8 := Lib.hid (R7.out.step g8 u8' b8 f8)
                have L8 := Lib.hid (L7.out.upd u8' N7.out)
                have N8 : Hid (¬ F8 lb) := fun hf => (f8 lb hf).elim N7.out (fun h9 => by have := L7.out.lt; omega)
                have AN := WalAppend_s [] none 0 R8.out.dk L8.out LBB.out N8.out (TB.out.bel R8.out.bel HG.out) HG.out (Byt.nil _ _) (by decide) (by decide) (show i + 1 ≤ 4611686018427387904 by omega) (by have := H5.out.q.fl; omega)
                rw [walA_off'] at AN
                have ANH := Lib.hid AN
                clear g8 u8' b8 f8 OF7 AN
                go_wp2_with fail
                refine ANH.out.mono ?_
                rintro r w9 ⟨rfl, F9, g9, l9, n9, u9', b9, f9⟩
                have R9 := Lib.hid (R8.out.wal L8.out g9 u9' b9 f9)
                obtain ⟨q0, -, q2, -, -⟩ := CP.out w9 R9.out.bel
                obtain ⟨ab', ao', e, hc9⟩ := (RD.out.below R9.out.bel).cell i c1
                cases e
                rw [HX.out] at hc9
                clear g9 l9 n9 u9' b9 f9 ANH
                by_cases c5 : (x.length : Int) + 13 ≤ pk
                · have t5 : decide ((x.length : Int) + 13 ≤ pk) = true := decide_eq_true c5
                  go_wp2_with (go_at_call 9; refine (num10_calls _ _).mono ?_; rintro r wx ⟨rfl, rfl⟩)
                  go_quiet (fail)
                  obtain ⟨wD, hwD⟩ : ∃ q, w9.drewN nq = q := ⟨_, rfl⟩
                  rw [hwD]
                  have BD : Below w9.heap.size w9 wD := by rw [← hwD]; exact bel_drewN (Below.refl _ _) nq
                  have RDD := Lib.hid (TnR.mk (R9.out.dk.below BD) (R9.out.wn.below BD) (R9.out.bel.trans (BD.mono R9.out.dk.bw)))
                  clear q0 q2 hc9 BD hwD
                  obtain ⟨q0, -, q2, -, -⟩ := CP.out wD RDD.out.bel
                  obtain ⟨ab', ao', e, hcD⟩ := (RD.out.below RDD.out.bel).cell i c1
                  cases e
                  rw [HX.out] at hcD
                  have N1 : Hid (i + 1 ≤ maxLen) := by show _ ≤ _; unfold maxLen; omega
                  have N2 : Hid ((i + 1) * 24 ≤ 140737488355328) := by show _ ≤ _; omega
                  have N3 : Hid (w0.heap.size ≤ (wD.alloc (.cells #[.slice (Af i) x.length (Cf i)] 35)).heap.size) := by
                    show _ ≤ _
                    rw [World.size_alloc]
                    exact Nat.le_trans RDD.out.bel.size (Nat.le_succ _)
                  go_wp2_with (at_builtin; refine wpList_append rfl (.tmp 138) (.tmp 144) 22 22 rfl w0.heap.size 35 (.slice none 0 0) 1 24 Tryd.underlying22 infoRow rfl (v := u8) (n := i) (xs := svs rows Af Cf i) (RDD.out.wn.own.alloc _) rfl (xv := .slice (some ⟨wD.heap.size, 0, none⟩) 1 1) (m := 1) (news := [.slice (Af i) x.length (Cf i)]) (Src_new Tryd.underlying22 (heap_alloc_new wD _) rfl) rfl N1.out N2.out N3.out ?_)
                  rintro vE wE hoE hgE - hvE
                  have NX : Hid (TnQ w0 wE w0.heap.size db rows Af Cf vE (i + 1) true (flw (rows.take (i + 1))) [] 0 pk true (i + 1) F9) := by
                    have h9 := H5.out.torn (w6 := wD) (w7 := wE) (v7 := vE) (F6 := F9) (o := .cells #[.slice (Af i) x.length (Cf i)] 35) c1 c2 (by rw [HX.out]; omega)
                    rw [HX.out] at h9
                    exact h9 RDD.out (by omega) hoE hgE (by rw [World.size_alloc]; exact hvE)
                  clear hoE hgE hvE
                  go_wp2
                  go_roundw
                  case rel => exact ⟨i + 1, sp + x.length, by go_num, by go_num, .inr ⟨F9, i + 1, true, _, _, i + 1, NX.out, by omega⟩⟩
                  case measure => simp [intOf]; omega
                · have t5 : decide ((x.length : Int) + 13 ≤ pk) = false := decide_eq_false c5
                  have QX : Hid (∃ t, TnQ w0 w9 w0.heap.size db rows Af Cf u8 i (has || decide (0 < pk)) (flw (rows.take i) ++ keptB (frm x) pk) t 0 pk true (i + 1) F9) := by
                    have h9 := H5.out.tear (w6 := w9) (F6 := F9) c1 c2 (by rw [HX.out]; omega)
                    rw [HX.out] at h9
                    exact ⟨_, h9 R9.out (by omega)⟩
                  go_wp2_with (go_at_call 9; refine (num10_calls _ _).mono ?_; rintro r wx ⟨rfl, rfl⟩)
                  go_quiet (fail)
                  have NX : Hid (∃ t, TnQ w0 (w9.drewN nq) w0.heap.size db rows Af Cf u8 i (has || decide (0 < pk)) (flw (rows.take i) ++ keptB (frm x) pk) t 0 pk true (i + 1) F9) := by
                    obtain ⟨t, h9⟩ := QX.out
                    exact ⟨t, h9.below (bel_drewN (Below.refl _ _) nq)⟩
                  clear q0 q2 hc9
                  go_wp2
                  go_roundw
                  case rel =>
                    obtain ⟨t, h9⟩ := NX.out
                    exact ⟨i + 1, sp + x.length, by go_num, by go_num, .inr ⟨F9, i, _, _, t, i + 1, h9, by omega⟩⟩
                  case measure => simp [intOf]; omega
          · have t2 : decide ((i : Int) < 200) = false := decide_eq_false (by omega)
            have t2' : decide (i < 200) = false := decide_eq_false c2
            go_wp2
            go_meet
            case rel => exact EX.out
        · have t1 : decide ((i : Int) < (rows.length : Int)) = false := decide_eq_false (by omega)
          have t1' : decide (i < rows.length) = false := decide_eq_false c1
          go_wp2
          go_meet
          case rel => exact EX.out
      · have HQ := Lib.hid hh
        obtain ⟨q0, -, -, -, -⟩ := CP.out wr hh.bel
        have EX : Hid (TnX w0 wr w0.heap.size db rows Af Cf u8) := ⟨F, k, has, l, t, _, _, _, n, hh, hn⟩
        have OC := Lib.hid hh.offq
        clear hh
        by_cases c1 : i < rows.length
        · have t1 : decide ((i : Int) < (rows.length : Int)) = true := decide_eq_true (by omega)
          have t1' : decide (i < rows.length) = true := decide_eq_true c1
          by_cases c2 : i < 200
          · have t2 : decide ((i : Int) < 200) = true := decide_eq_true (by omega)
            have t2' : decide (i < 200) = true := decide_eq_true c2
            go_wp2_with fail
            refine OC.out.mono ?_
            rintro r w5 ⟨rfl, F5, h5, -, -⟩
            have EX5 : Hid (TnX w0 w5 w0.heap.size db rows Af Cf u8) := ⟨F5, k, has, l, t, _, _, _, n, h5, hn⟩
            clear h5
            go_wp2
            go_meet
            case rel => exact EX5.out
          · have t2 : decide ((i : Int) < 200) = false := decide_eq_false (by omega)
            have t2' : decide (i < 200) = false := decide_eq_false c2
            go_wp2
            go_meet
            case rel => exact EX.out
        · have t1 : decide ((i : Int) < (rows.length : Int)) = false := decide_eq_false (by omega)
          have t1' : decide (i < rows.length) = false := decide_eq_false c1
          go_wp2
          go_meet
          case rel => exact EX.out
  case rest =>
    obtain ⟨wA, rfl⟩ : ∃ q, q = wc := ⟨_, rfl⟩
    obtain ⟨F, k, has, l, t, arm, keep, off, n, hq, hn⟩ := hcut
    have QA := Lib.hid hq
    have A1 := Lib.hid (hq.dk.arm 0 0 (by decide))
    clear hq
    go_wp2_with fail
    refine A1.out.mono ?_
    rintro r w5 ⟨rfl, st5⟩
    obtain ⟨F5, h5, -, -⟩ := QA.out.step (arm' := 0) (keep' := 0) (off' := off) st5 (by decide)
    have Q5 := Lib.hid h5
    have A2 := Lib.hid (h5.dk.on)
    clear h5 st5 A1 QA
    go_wp2_with fail
    refine A2.out.mono ?_
    rintro r w6 ⟨rfl, st6⟩
    obtain ⟨F6, h6, -, -⟩ := Q5.out.step (arm' := 0) (keep' := 0) (off' := false) st6 (by decide)
    have Q6 := Lib.hid h6
    obtain ⟨-, -, -, q3, q4⟩ := CP.out w6 h6.bel
    have A3 := Lib.hid (h6.dk.arm 1 pj (by decide))
    clear h6 st6 A2 Q5
    go_upto_if 152 with fail
    go_cut [] (fun wr => ∃ F has l t n, TnQ w0 wr w0.heap.size db rows Af Cf u8 k has l t 0 0 false n F ∧ n ≤ 251)
    case first =>
      by_cases c : pt = 0
      · have t1 : (pt != 0) = false := by rw [c]; rfl
        go_wp2
        go_meet
        case rel => exact ⟨F6, has, l, t, n, Q6.out, by omega⟩
      · have t1 : (pt != 0) = true := bne_iff_ne.2 c
        go_wp2_with fail
        refine A3.out.mono ?_
        rintro r w7 ⟨rfl, st7⟩
        obtain ⟨F7, h7, -, -⟩ := Q6.out.step (arm' := 1) (keep' := pj) (off' := false) st7 (by decide)
        have Q7 := Lib.hid h7
        have O7 := Open_s LOG h7.dk (TB.out.bel h7.bel HG.out) HG.out (by decide) (show n ≤ 4611686018427387904 by omega)
        have hr := h7.recs
        clear st7 A3
        by_cases e : t = []
        · rw [if_pos e] at hr
          rw [UD_openOk log_ok h7.hh hr] at O7
          have O7H := Lib.hid O7
          clear O7 h7 hr e
          go_wp2_with fail
          refine O7H.out.mono ?_
          rintro r w8 ⟨F8, d8, u8', b8, f8, lb8, a8, c8, Af8, Cf8, rfl, -, -, -, -, -⟩
          obtain ⟨F8, h8, -, -⟩ := Q7.out.step (arm' := 1) (keep' := pj) (off' := false) ⟨F8, d8, u8', b8, f8⟩ (by decide)
          have OF := Lib.hid h8.offq
          clear d8 u8' b8 f8 h8 O7H
          go_wp2_with fail
          refine OF.out.mono ?_
          rintro r w9 ⟨rfl, F9, h9, -, -⟩
          have Q9 := Lib.hid h9
          have A9 := Lib.hid (h9.dk.arm 0 0 (by decide))
          clear h9 OF
          go_wp2_with fail
          refine A9.out.mono ?_
          rintro r wa ⟨rfl, sta⟩
          obtain ⟨Fa, ha, -, -⟩ := Q9.out.step (arm' := 0) (keep' := 0) (off' := false) sta (by decide)
          have Qa := Lib.hid ha
          have Aa := Lib.hid ha.dk.on
          clear ha sta A9
          go_wp2_with fail
          refine Aa.out.mono ?_
          rintro r wb ⟨rfl, stb⟩
          obtain ⟨Fb, hb, -, -⟩ := Qa.out.step (arm' := 0) (keep' := 0) (off' := false) stb (by decide)
          have Qb := Lib.hid hb
          clear hb stb Aa
          go_wp2
          go_meet
          case rel => exact ⟨Fb, has, l, t, n, Qb.out, by omega⟩
        · rw [if_neg e] at hr
          obtain rfl : has = true := UD_torn h7.hh hr
          rw [UD_openTear log_ok hr] at O7
          have O7H := Lib.hid O7
          clear O7 h7 hr e
          go_wp2_with fail
          refine O7H.out.mono ?_
          rintro r w8 ⟨F8, d8, u8', b8, f8, rfl⟩
          have Q8 : Hid (∃ l t, TnQ w0 w8 w0.heap.size db rows Af Cf u8 k true l t 0 pj true (n + 1) F8) := by
            by_cases c : 0 < pj
            · refine ⟨flw (rows.take k), [], ?_, Q7.out.wn.step u8' f8, Q7.out.bel.trans b8, by rw [List.append_nil], fun h => by (cases h), .inl rfl, by simp, Q7.out.fl, Q7.out.sm, Q7.out.kl, by decide⟩
              have d9 := d8
              rw [if_pos c, Q7.out.eq, ← flw_len, List.take_left] at d9
              exact d9
            · refine ⟨l, t, ?_, Q7.out.wn.step u8' f8, Q7.out.bel.trans b8, Q7.out.eq, fun h => by (cases h), Q7.out.tt, Q7.out.tl, Q7.out.fl, Q7.out.sm, Q7.out.kl, by decide⟩
              have d9 := d8
              rw [if_neg c] at d9
              exact d9
          obtain ⟨l8, t8, h8⟩ := Q8.out
          have OF := Lib.hid h8.offq
          clear d8 u8' b8 f8 h8 O7H Q8
          go_wp2_with fail
          refine OF.out.mono ?_
          rintro r w9 ⟨rfl, F9, h9, -, -⟩
          have Q9 := Lib.hid h9
          have A9 := Lib.hid (h9.dk.arm 0 0 (by decide))
          clear h9 OF
          go_wp2_with (go_at_call 9; refine (num10_calls _ _).mono ?_; rintro r wx ⟨rfl, rfl⟩)
          refine A9.out.mono ?_
          rintro r wa ⟨rfl, sta⟩
          obtain ⟨Fa, ha, -, -⟩ := Q9.out.step (arm' := 0) (keep' := 0) (off' := true) sta (by decide)
          have Qa := Lib.hid ha
          have Aa := Lib.hid ha.dk.on
          clear ha sta A9
          go_wp2_with fail
          refine Aa.out.mono ?_
          rintro r wb ⟨rfl, stb⟩
          obtain ⟨Fb, hb, -, -⟩ := Qa.out.step (arm' := 0) (keep' := 0) (off' := false) stb (by decide)
          have Qb := Lib.hid hb
          clear hb stb Aa
          go_wp2
          go_meet
          case rel => exact ⟨Fb, true, l8, t8, n + 1, Qb.out, by omega⟩
    case rest =>
      obtain ⟨wC, rfl⟩ : ∃ q, q = wc := ⟨_, rfl⟩
      obtain ⟨F, has, l, t, n, hq, hn⟩ := hcut
      clear q3 q4 Q6 A3
      obtain ⟨xs, hxs⟩ : ∃ q, rows.take k = q := ⟨_, rfl⟩
      have hk : k = xs.length := by rw [← hxs, List.length_take]; have := hq.wn.le; omega
      subst hk
      obtain ⟨has', n', e1, hh1, hn1⟩ := hq.opened
      have HFL := hq.fl
      have HSM := hq.sm
      have KL := hq.kl
      have O1 := Open_s LOG hq.dk (TB.out.bel hq.bel HG.out) HG.out (by decide) (show n ≤ 4611686018427387904 by omega)
      rw [hxs] at e1 hh1 HFL HSM
      rw [e1] at O1
      have O1H := Lib.hid O1; have HH1 := Lib.hid hh1; have XSH := Lib.hid hxs; have SM := Lib.hid HSM
      have Q0 := Lib.hid (TnR.mk hq.dk hq.wn hq.bel)
      clear O1 e1 hh1 hq hxs HSM
      go_wp2_with fail
      refine O1H.out.mono ?_
      rintro r w5 ⟨F5, d5, u5', b5, f5, lb5, a5, c5, Af5, Cf5, rfl, l5, g5, n5, rd5, -⟩
      have R5 := Lib.hid (Q0.out.step d5 u5' b5 f5)
      have L5 := Lib.hid l5; have N5 := Lib.hid n5; have LB5 := Lib.hid (Nat.le_trans Q0.out.dk.bw g5)
      have rin5 := (RD.out.below R5.out.bel)
      obtain ⟨aw, cw, hv, rdw⟩ := R5.out.wn.rd rin5.by2
      rw [XSH.out] at rdw
      subst hv
      have RC := Lib.hid (rows10_calls a5 aw c5 cw xs xs Af5 Af Cf5 Cf w5 rd5 rdw (by omega))
      clear d5 u5' b5 f5 l5 g5 n5 rd5 rin5 rdw O1H
      go_wp2_with (go_at_call 9; refine (num10_calls _ _).mono ?_; rintro r wx ⟨rfl, rfl⟩)
      refine RC.out.mono ?_
      rintro r w6 ⟨rfl, b6⟩
      have R6 := Lib.hid (TnR.mk (R5.out.dk.below b6) (R5.out.wn.below b6) (R5.out.bel.trans (b6.mono R5.out.dk.bw)))
      have L6 := Lib.hid (L5.out.below b6)
      have BA : Below w6.heap.size w6 (w6.alloc (.cells (bys MORE).toArray 5 (4, 5))) := (Below.refl _ _).alloc (Nat.le_refl _) _
      have A7 := WalAppend_s MORE (some ⟨w6.heap.size, 0, none⟩) 4 (R6.out.dk.below BA) (L6.out.below BA) LB5.out N5.out ((TB.out.bel R6.out.bel HG.out).below BA) HG.out (Byt.lit w6 MORE (4, 5)) (by decide) (by decide) (show n' ≤ 4611686018427387904 by omega) (by omega)
      rw [UD_walA log_ok HH1.out (by decide) (show (flw xs).length + (4 + 13) ≤ 4194304 by rw [flw_len]; omega) (by decide) (by decide)] at A7
      have A7H := Lib.hid A7
      have R6a := Lib.hid (TnR.mk (R6.out.dk.below BA) (R6.out.wn.below BA) (R6.out.bel.trans (BA.mono R6.out.dk.bw)))
      have L6a := Lib.hid (L6.out.below BA)
      have kc := fun (w : World) (C : Array Value) (n c : Nat) => Lib.run_convert_bytes_const (P := Tryd.prog) w 35 5 C n c Tryd.underlying35 Tryd.underlying5
      clear A7 BA b6 RC
      go_wp2_with fail
      refine A7H.out.mono ?_
      rintro r w7 ⟨rfl, F7, d7, l7, n7, u7', b7, f7⟩
      have R7 := Lib.hid (R6a.out.wal L6a.out d7 u7' b7 f7)
      have L7 := Lib.hid l7; have N7 := Lib.hid n7
      obtain ⟨ys, hys⟩ : ∃ q, xs ++ [MORE] = q := ⟨_, rfl⟩
      have hyl : ys.length = xs.length + 1 := by rw [← hys]; simp
      have rec8 : recOf (flw xs ++ frm MORE) = (ys, flen ys, 0) := by
        rw [← flw_snoc, hys]
        refine recOf_flw ys ?_
        rw [← hys]
        intro z hz
        rcases List.mem_append.1 hz with hz | hz
        · have := SM.out z hz; omega
        · rw [List.mem_singleton] at hz; rw [hz]; decide
      have O8 := Open_s LOG d7 (TB.out.bel R7.out.bel HG.out) HG.out (by decide) (show n' + 1 ≤ 4611686018427387904 by omega)
      rw [UD_openOk log_ok (fun h => by cases h) rec8] at O8
      have O8H := Lib.hid O8
      have YL := Lib.hid hyl; have YS := Lib.hid hys
      clear O8 d7 l7 n7 u7' b7 f7 rec8 A7H hyl hys
      go_wp2_with fail
      refine O8H.out.mono ?_
      rintro r w8 ⟨F8, d8, u8', b8, f8, lb8, a8, c8, Af8, Cf8, rfl, -, -, -, rd8, rg8⟩
      have R8 := Lib.hid (R7.out.step d8 u8' b8 f8)
      have L8 := Lib.hid (L7.out.upd u8' N7.out)
      have RD8 := Lib.hid rd8; have RG8 := Lib.hid rg8; have HW78 := Lib.hid u8'.size
      obtain ⟨wE, hwE⟩ : ∃ q, w8.alloc (.cells #[.int .u8 109, .int .u8 111, .int .u8 114, .int .u8 101] 5 (4, 5)) = q := ⟨_, rfl⟩
      have BE : Below w8.heap.size w8 wE := by rw [← hwE]; exact (Below.refl _ _).alloc (Nat.le_refl _) _
      have YE : Byt wE (some ⟨w8.heap.size, 0, none⟩) MORE := by rw [← hwE]; exact Byt.lit w8 MORE (4, 5)
      have RE := Lib.hid (TnR.mk (R8.out.dk.below BE) (R8.out.wn.below BE) (R8.out.bel.trans (BE.mono R8.out.dk.bw)))
      have LE := Lib.hid (L8.out.below BE)
      have RDE := Lib.hid (rd8.below BE)
      have YEH := Lib.hid YE; have BEH := Lib.hid BE; have WE := Lib.hid hwE
      have SE : Hid (Src Tryd.prog 1 22 (.slice (some ⟨w8.heap.size + 1, 0, none⟩) 1 1) 1 [.slice (some ⟨w8.heap.size, 0, none⟩) 4 4] (wE.alloc (.cells #[.slice (some ⟨w8.heap.size, 0, none⟩) 4 4] 35))) := by
        have h : Src Tryd.prog 1 22 (.slice (some ⟨wE.heap.size, 0, none⟩) 1 1) 1 [.slice (some ⟨w8.heap.size, 0, none⟩) 4 4] (wE.alloc (.cells #[.slice (some ⟨w8.heap.size, 0, none⟩) 4 4] 35)) := Src_new Tryd.underlying22 (heap_alloc_new wE _) rfl
        rw [show wE.heap.size = w8.heap.size + 1 by rw [← hwE, World.size_alloc]] at h
        exact h
      have N1 : Hid (xs.length + 1 ≤ maxLen) := by show _ ≤ _; unfold maxLen; omega
      have N2 : Hid ((xs.length + 1) * 24 ≤ 140737488355328) := by show _ ≤ _; omega
      have N3 : Hid (w0.heap.size ≤ (wE.alloc (.cells #[.slice (some ⟨w8.heap.size, 0, none⟩) 4 4] 35)).heap.size) := by
        show _ ≤ _
        rw [World.size_alloc]
        exact Nat.le_trans RE.out.bel.size (Nat.le_succ _)
      clear d8 u8' b8 f8 rd8 rg8 BE YE hwE O8H
      go_wp2_with (first | (go_at_call 9; refine (num10_calls _ _).mono ?_; rintro r wx ⟨rfl, rfl⟩) | (at_builtin; go_loud (rw [WE.out]); go_loud (refine wpList_want (by rfl) ?_); dsimp only; go_loud (refine wpList_append2 rfl (.tmp 222) (.tmp 225) 22 22 rfl w0.heap.size 35 (.slice none 0 0) 1 24 Tryd.underlying22 infoRow rfl (v := .slice aw xs.length cw) (n := xs.length) (xs := svs rows Af Cf xs.length) (RE.out.wn.own.alloc _) rfl (xv := .slice (some ⟨w8.heap.size + 1, 0, none⟩) 1 1) (m := 1) (news := [.slice (some ⟨w8.heap.size, 0, none⟩) 4 4]) SE.out rfl N1.out N2.out N3.out ?_)))
      rintro v9 w9 ho9 hg9 hv9 hp9
      obtain ⟨d9, u9, b9⟩ := RE.out.dk.push (o := .cells #[.slice (some ⟨w8.heap.size, 0, none⟩) 4 4] 35) RE.out.wn hg9
      have WS := RE.out.wn.snoc (x := MORE) (o := .cells #[.slice (some ⟨w8.heap.size, 0, none⟩) 4 4] 35) (fun i hi => (RE.out.dk.fl i hi).2) ho9 (by rw [World.size_alloc]; exact hv9)
      have B9 := Lib.hid (RE.out.bel.trans b9)
      have rin9 := RD.out.below B9.out
      have wl : ∀ g, Value.ownBlock (.slice aw xs.length cw) = some g → g < w7.heap.size := fun g hg => (R7.out.wn.own.lt g hg).2
      have hW78 : w7.heap.size ≤ w8.heap.size := HW78.out
      have YM : Byt w9 (some ⟨w8.heap.size, 0, none⟩) MORE := YEH.out.upd u9 (fun ad ha _ hs => by
        cases ha
        have := wl _ hs
        simp only at this
        omega)
      have by9 := rin9.by2.snoc xs.length RE.out.wn.le MORE (some ⟨w8.heap.size, 0, none⟩) 4 YM (by decide) (by decide)
      rw [XSH.out, YS.out] at by9
      rw [XSH.out, YS.out] at WS
      obtain ⟨a9, c9, hv, rd9⟩ := WS.rd by9
      rw [← YL.out, List.take_of_length_le (Nat.le_refl _)] at rd9
      rw [← YL.out] at hv
      subst hv
      have rd89 : Rd2 w9 a8 ys Af8 Cf8 := RDE.out.upd RG8.out u9 (fun i hs hz => by have := wl i hs; omega)
      have RC9 := Lib.hid (rows10_calls a8 a9 c8 c9 ys ys Af8 _ Cf8 _ w9 rd89 rd9 (by have := YL.out; omega))
      have WO : Own w9 w0.heap.size 35 1 (.slice aw xs.length cw) xs.length (svs rows Af Cf xs.length) := Own.preN (n := xs.length) ((RE.out.wn.own).alloc _) (by omega) hp9
      have WN9 : Wn w9 w0.heap.size (.slice aw xs.length cw) xs.length rows Af Cf F8 := ⟨WO, RE.out.wn.nf, RE.out.wn.le⟩
      obtain ⟨ax, cx, hvx, rdx⟩ := WN9.rd rin9.by2
      cases hvx
      rw [XSH.out] at rdx
      have RDX := Lib.hid rdx
      have L9 := Lib.hid (LE.out.upd u9 (fun e => (RE.out.wn.own.not_ty LE.out (by decide)) e))
      clear ho9 hg9 hv9 hp9 d9 u9 b9 WS rin9 wl YM by9 rd9 rd89 WO WN9 rdx hW78
      go_wp2_with fail
      refine RC9.out.mono ?_
      rintro r w10 ⟨rfl, b10⟩
      have LX := Lib.hid (L9.out.below b10)
      have SZC := Lib.hid (WalSize_calls lb5 db LOG (flen xs + 17) false w10 LX.out)
      have SIC := Lib.hid (size10_calls aw cw xs Af Cf w10 (RDX.out.below b10) (by omega))
      have BX := Lib.hid (B9.out.trans (b10.mono B9.out.size))
      have W17 : IntKind.i64.wrap ((flen xs : Int) + 17) = (flen xs : Int) + 17 := IntWalk.i64_in _ (by omega)
      have W17' : wrap64 ((flen xs : Int) + 17) = (flen xs : Int) + 17 := by unfold wrap64; omega
      clear b10 RC9
      go_wp2_with (first | (go_at_call 17; refine SZC.out.mono ?_; rintro r wx ⟨rfl, rfl⟩) | (go_at_call 18; refine SIC.out.mono ?_; rintro r wz ⟨rfl, bz⟩))
      go_ret
      exact ⟨by first | rfl | simp, B0.out.trans ((BX.out.trans (bz.mono BX.out.size)).mono B0.out.size)⟩
end Go.Proofs.YtnbpkignkfabkaaDoor
