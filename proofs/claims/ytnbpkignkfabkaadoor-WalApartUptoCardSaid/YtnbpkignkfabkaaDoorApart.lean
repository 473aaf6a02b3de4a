/- posternlaw10.WalApart. -/
import Derived.Test.YtnbpkignkfabkaaDoorTorn
import Derived.Test.YtnbpkignkfabkaaDoorWalTwo
namespace Go.Proofs.YtnbpkignkfabkaaDoor
set_option linter.unusedVariables false
set_option linter.unusedSimpArgs false
open Go.RowKit Go.Maps
def NA : List UInt8 := [97]
def NB : List UInt8 := [98]
def TORN : List UInt8 := [116, 111, 114, 110]
theorem na_ok : nmOk NA = true := by rfl
theorem nb_ok : nmOk NB = true := by rfl
/-- Bools stand at a. -/
def Bol (w : World) (a : Option Addr) (ts : List Bool) : Prop := ∀ i (h : i < ts.length), ∃ b o, a = some ⟨b, o, none⟩ ∧ w.cell? ⟨b, o + i, none⟩ = some (.bool ts[i])
theorem Bol.below {w w' : World} {a : Option Addr} {ts : List Bool} (h : Bol w a ts) (hb : Below w.heap.size w w') : Bol w' a ts := by
  intro i hi
  obtain ⟨b, o, e, hc⟩ := h i hi
  exact ⟨b, o, e, by rw [hb.cell (p := ⟨b, o + i, none⟩) (World.block_lt_of_cell? w _ hc)]; exact hc⟩
/-- Two logs in one disk; the rows that were appended to each. -/
structure ApS (w0 wr : World) (B db : Nat) (n1 n2 : List UInt8) (la lb : Nat) (ra : List (List UInt8)) (Aa : Nat → Option Addr) (Ca : Nat → Nat) (va : Value) (ia : Nat) (rb : List (List UInt8)) (Ab_ : Nat → Option Addr) (Cb : Nat → Nat) (vb : Value) (ib : Nat) (c m sp : Nat) (s : DS) (n : Nat) (F : Nat → Prop) : Prop where
  dk : DkS wr B db F s
  ab : ∃ keep, Ab n1 n2 s (flw (ra.take ia)) (flw (rb.take ib)) 0 keep false n
  l1 : Lg wr la db n1 (flen (ra.take ia)) false
  l2 : Lg wr lb db n2 (flen (rb.take ib)) false
  nf1 : ¬ F la
  nf2 : ¬ F lb
  ne : la ≠ lb
  g1 : B ≤ la
  g2 : B ≤ lb
  w1 : Wn wr B va ia ra Aa Ca F
  w2 : Wn wr B vb ib rb Ab_ Cb F
  nv : ∀ g, va.ownBlock = some g → vb.ownBlock ≠ some g
  bel : Below B w0 wr
  sum : ((ra.take ia).map List.length).sum + ((rb.take ib).map List.length).sum = sp
  spl : sp ≤ 524288
  cnt : ia + ib ≤ c
  cl : c ≤ 101
  nn : n ≤ m
section
variable {w0 wr w' : World} {B db la lb ia ib c m sp n : Nat} {n1 n2 : List UInt8} {ra rb : List (List UInt8)} {Aa Ab_ : Nat → Option Addr} {Ca Cb : Nat → Nat} {va vb : Value} {s s' : DS} {F F' : Nat → Prop}
theorem ApS.symm (h : ApS w0 wr B db n1 n2 la lb ra Aa Ca va ia rb Ab_ Cb vb ib c m sp s n F) : ApS w0 wr B db n2 n1 lb la rb Ab_ Cb vb ib ra Aa Ca va ia c m sp s n F := by
  obtain ⟨keep, h9⟩ := h.ab
  exact ⟨h.dk, ⟨keep, h9.symm⟩, h.l2, h.l1, h.nf2, h.nf1, fun e => h.ne e.symm, h.g2, h.g1, h.w2, h.w1, fun g e1 e2 => h.nv g e2 e1, h.bel, by have := h.sum; omega, h.spl, by have := h.cnt; omega, h.cl, h.nn⟩
theorem ApS.below (h : ApS w0 wr B db n1 n2 la lb ra Aa Ca va ia rb Ab_ Cb vb ib c m sp s n F) (hb : Below wr.heap.size wr w') : ApS w0 w' B db n1 n2 la lb ra Aa Ca va ia rb Ab_ Cb vb ib c m sp s n F :=
  ⟨h.dk.below hb, h.ab, h.l1.below hb, h.l2.below hb, h.nf1, h.nf2, h.ne, h.g1, h.g2, h.w1.below hb, h.w2.below hb, h.nv, h.bel.trans (hb.mono h.dk.bw), h.sum, h.spl, h.cnt, h.cl, h.nn⟩
theorem ApS.cs (h : ApS w0 wr B db n1 n2 la lb ra Aa Ca va ia rb Ab_ Cb vb ib c m sp s n F) {c' m' : Nat} (hc : c ≤ c') (hc2 : c' ≤ 101) (hm : m ≤ m') : ApS w0 wr B db n1 n2 la lb ra Aa Ca va ia rb Ab_ Cb vb ib c' m' sp s n F :=
  ⟨h.dk, h.ab, h.l1, h.l2, h.nf1, h.nf2, h.ne, h.g1, h.g2, h.w1, h.w2, h.nv, h.bel, h.sum, h.spl, Nat.le_trans h.cnt hc, hc2, Nat.le_trans h.nn hm⟩
theorem ApS.fl (h : ApS w0 wr B db n1 n2 la lb ra Aa Ca va ia rb Ab_ Cb vb ib c m sp s n F) : flen (ra.take ia) + flen (rb.take ib) ≤ 530000 ∧ (∀ x ∈ ra.take ia, x.length ≤ 524288) ∧ flen (ra.take ia) = ((ra.take ia).map List.length).sum + 13 * (ra.take ia).length := by
  have h1 := h.sum; have h2 := h.spl; have h3 := h.cnt; have h4 := h.cl
  have e1 : (ra.take ia).length ≤ ia := by rw [List.length_take]; omega
  have e2 : (rb.take ib).length ≤ ib := by rw [List.length_take]; omega
  have f1 := flen_sum (ra.take ia)
  have f2 := flen_sum (rb.take ib)
  refine ⟨by omega, ?_, by omega⟩
  intro x hx
  have := le_sum_mem (List.mem_map.2 ⟨x, hx, rfl⟩ : x.length ∈ (ra.take ia).map List.length)
  omega
/-- A disk that changes beside the rows. -/
theorem ApS.step (h : ApS w0 wr B db n1 n2 la lb ra Aa Ca va ia rb Ab_ Cb vb ib c m sp s n F) (h1 : DkS w' B db F' s') (h2 : Upd F wr w') (h3 : Below B wr w') (h4 : ∀ i, F' i → F i ∨ wr.heap.size ≤ i) :
    Lg w' la db n1 (flen (ra.take ia)) false ∧ Lg w' lb db n2 (flen (rb.take ib)) false ∧ ¬ F' la ∧ ¬ F' lb ∧ Wn w' B va ia ra Aa Ca F' ∧ Wn w' B vb ib rb Ab_ Cb F' ∧ Below B w0 w' :=
  ⟨h.l1.upd h2 h.nf1, h.l2.upd h2 h.nf2, fun hf => (h4 _ hf).elim h.nf1 (fun h9 => by have := h.l1.lt; omega), fun hf => (h4 _ hf).elim h.nf2 (fun h9 => by have := h.l2.lt; omega), h.w1.step h2 h4, h.w2.step h2 h4, h.bel.trans h3⟩
/-- The first one is opened anew. -/
theorem ApS.reopen {w8 : World} {F8 : Nat → Prop} {s8 : DS} {la8 n8 m8 : Nat} {keep : Int} (h : ApS w0 wr B db n1 n2 la lb ra Aa Ca va ia rb Ab_ Cb vb ib c m sp s n F) (d8 : DkS w8 B db F8 s8) (ab8 : Ab n1 n2 s8 (flw (ra.take ia)) (flw (rb.take ib)) 0 keep false n8) (l8 : Lg w8 la8 db n1 (flen (ra.take ia)) false) (l2 : Lg w8 lb db n2 (flen (rb.take ib)) false)
    (nf1 : ¬ F8 la8) (nf2 : ¬ F8 lb) (ne : la8 ≠ lb) (g1 : B ≤ la8) (w1 : Wn w8 B va ia ra Aa Ca F8) (w2 : Wn w8 B vb ib rb Ab_ Cb F8) (bel : Below B w0 w8) (hn : n8 ≤ m8) : ApS w0 w8 B db n1 n2 la8 lb ra Aa Ca va ia rb Ab_ Cb vb ib c m8 sp s8 n8 F8 :=
  ⟨d8, ⟨keep, ab8⟩, l8, l2, nf1, nf2, ne, g1, h.g2, w1, w2, h.nv, bel, h.sum, h.spl, h.cnt, h.cl, hn⟩
theorem ApS.again {w7 w8 : World} {F7 F8 : Nat → Prop} {s7 s8 : DS} {la8 n8 : Nat} {keep : Int} {xs ys : List (List UInt8)} (h : ApS w0 wr B db n1 n2 la lb ra Aa Ca va xs.length rb Ab_ Cb vb ys.length c m sp s n F) (hx : ra.take xs.length = xs) (hy : rb.take ys.length = ys)
    (d7 : DkS w7 B db F7 s7) (w17 : Wn w7 B va xs.length ra Aa Ca F7) (w27 : Wn w7 B vb ys.length rb Ab_ Cb F7) (l27 : Lg w7 lb db n2 (flen ys) false) (n27 : ¬ F7 lb) (b7 : Below B w0 w7)
    (d8 : DkS w8 B db F8 s8) (ab8 : Ab n1 n2 s8 (flw xs) (flw ys) 0 keep false n8) (l8 : Lg w8 la8 db n1 (flen xs) false) (nf : ¬ F8 la8) (g8 : w7.heap.size ≤ la8) (u8 : Upd F7 w7 w8) (b8 : Below B w7 w8) (f8 : ∀ i, F8 i → F7 i ∨ w7.heap.size ≤ i) (hn : n8 ≤ n + 1 + 1) :
    ApS w0 w8 B db n1 n2 la8 lb ra Aa Ca va xs.length rb Ab_ Cb vb ys.length c (m + 2) sp s8 n8 F8 := by
  have lt := l27.lt
  refine h.reopen d8 (by rw [hx, hy]; exact ab8) (by rw [hx]; exact l8) (by rw [hy]; exact l27.upd u8 n27) nf ?_ ?_ (Nat.le_trans d7.bw g8) (w17.step u8 f8) (w27.step u8 f8) (b7.trans b8) ?_
  · intro hf
    rcases f8 _ hf with h9 | h9
    · exact n27 h9
    · omega
  · omega
  · have := h.nn; omega
/-- One more goes in. -/
theorem ApS.push {w5 w6 w7 : World} {v7 : Value} {o : Obj} {keep : Int} {F6 : Nat → Prop} (h : ApS w0 wr B db n1 n2 la lb ra Aa Ca va ia rb Ab_ Cb vb ib c m sp s n F) (hi : ia < ra.length) (hc : c < 101) (hsp : sp + ra[ia].length ≤ 524288) (hb5 : Below wr.heap.size wr w5)
    (d6 : DkS w6 B db F6 s') (a6 : Ab n1 n2 s' (flw (ra.take ia) ++ frm ra[ia]) (flw (rb.take ib)) 0 keep false (n + 1)) (l6 : Lg w6 la db n1 (flen (ra.take ia) + (ra[ia].length + 13)) false) (n6 : ¬ F6 la) (u6 : Upd (fun j => F j ∨ j = la) w5 w6) (b6 : Below B w5 w6) (f6 : ∀ j, F6 j → F j ∨ w5.heap.size ≤ j)
    (ho7 : Own w7 B 35 1 v7 (ia + 1) (svs ra Aa Ca ia ++ [.slice (Aa ia) ra[ia].length (Ca ia)])) (hg7 : (w6.alloc o).grownBy w7 va.ownBlock) (hv7 : v7.ownBlock = va.ownBlock ∨ v7.ownBlock = some (w6.alloc o).heap.size) :
    ApS w0 w7 B db n1 n2 la lb ra Aa Ca v7 (ia + 1) rb Ab_ Cb vb ib (c + 1) (m + 1) (sp + ra[ia].length) s' (n + 1) F6 := by
  have et : ra.take (ia + 1) = ra.take ia ++ [ra[ia]] := List.take_succ_eq_append_getElem hi
  have h5 := h.below hb5
  have wa6 := h5.w1.wal h5.l1 u6 f6
  have wb6 := h5.w2.wal h5.l1 u6 f6
  have l26 : Lg w6 lb db n2 (flen (rb.take ib)) false := h5.l2.upd u6 (fun e => e.elim h.nf2 (fun e => h.ne e.symm))
  obtain ⟨d7, u7, b7⟩ := d6.push (o := o) wa6 hg7
  have nl1 : va.ownBlock ≠ some la := wa6.own.not_ty l6 (by decide)
  have nl2 : va.ownBlock ≠ some lb := wa6.own.not_ty l26 (by decide)
  refine ⟨d7, ⟨keep, ?_⟩, ?_, l26.upd u7 (fun e => nl2 e), n6, ?_, h.ne, h.g1, h.g2, wa6.push hi (fun j hj => (d6.fl j hj).2) ho7 hv7, ?_, ?_, ((h.bel.trans (hb5.mono h.dk.bw)).trans b6).trans b7, ?_, hsp, ?_, hc, ?_⟩
  · rw [et, flw_snoc]; exact a6
  · rw [et, flen_snoc]; exact l6.upd u7 (fun e => nl1 e)
  · intro hf
    rcases f6 _ hf with h9 | h9
    · exact h.nf2 h9
    · have := h5.l2.lt; omega
  · refine ⟨wb6.own.upd u7 (fun j hj e => h.nv j e hj), wb6.nf, wb6.le⟩
  · intro g hg e
    rcases hv7 with h9 | h9
    · exact h.nv g (by rw [← h9]; exact hg) e
    · rw [h9] at hg
      injection hg with hg
      have := (wb6.own.lt g e).2
      rw [World.size_alloc] at hg
      omega
  · have e9 : ([ra[ia]].map List.length).sum = ra[ia].length := by simp
    rw [et, List.map_append, List.sum_append, e9]
    have := h.sum
    omega
  · have := h.cnt; omega
  · have := h.nn; omega
end
theorem recOf_tornk (x : List UInt8) (keep : Int) (hx : x.length ≤ 16777216) (h0 : 0 ≤ keep) (hk : keep < (frm x).length) : keptB (frm x) keep = [] ∨ recOf (keptB (frm x) keep) = ([], 0, 30) := by
  obtain ⟨kk, hkk⟩ : ∃ kk : Nat, keep = kk := ⟨keep.toNat, by omega⟩
  subst hkk
  rw [keptB_nat _ _ (by omega)]
  by_cases c : kk = 0
  · left; rw [c]; rfl
  · right; exact recOf_torn _ _ hx (by omega) (by omega)
/-- Behind the loop. -/
def ApE (w0 wr : World) (B db lb : Nat) (ra : List (List UInt8)) (Aa : Nat → Option Addr) (Ca : Nat → Nat) (rb : List (List UInt8)) (Ab_ : Nat → Option Addr) (Cb : Nat → Nat) (va vb : Value) : Prop :=
  ∃ la ia ib c m sp s n F, ApS w0 wr B db NA NB la lb ra Aa Ca va ia rb Ab_ Cb vb ib c m sp s n F ∧ m ≤ 1000
/-- In a round. -/
def ApM (w0 wr : World) (B db la lb : Nat) (ra : List (List UInt8)) (Aa : Nat → Option Addr) (Ca : Nat → Nat) (rb : List (List UInt8)) (Ab_ : Nat → Option Addr) (Cb : Nat → Nat) (va vb : Value) (c m sp : Nat) : Prop :=
  ∃ ia ib s n F, ApS w0 wr B db NA NB la lb ra Aa Ca va ia rb Ab_ Cb vb ib c m sp s n F
set_option maxRecDepth 100000 in
set_option maxHeartbeats 8000000 in
theorem WalApart_calls (w : World) (pa pb pt : Option Addr) (ka kb kt : Nat) (ra : List (List UInt8)) (Aa : Nat → Option Addr) (Ca : Nat → Nat) (rb : List (List UInt8)) (Ab_ : Nat → Option Addr) (Cb : Nat → Nat) (ts : List Bool) (hra : Rd2 w pa ra Aa Ca) (hrb : Rd2 w pb rb Ab_ Cb) (htt : Bol w pt ts) (hla : ra.length ≤ 140737488355328) (hlb : rb.length ≤ 140737488355328) (hlt : ts.length ≤ 140737488355328) (ht : Tab w) (hg : 0 < w.heap.size) :
    Calls Tryd.prog 3 #[.agg #[.slice pa ra.length ka, .slice pb rb.length kb, .slice pt ts.length kt]] w fun r w' => r = .returned (.bool true) ∧ Below w.heap.size w w' := by
  obtain ⟨w0, hw0⟩ : ∃ q, w.alloc (.cells #[.slice pa ra.length ka, .slice pb rb.length kb, .slice pt ts.length kt] 25) = q := ⟨_, rfl⟩
  have b0 : Below w.heap.size w w0 := by rw [← hw0]; exact (Below.refl _ _).alloc (Nat.le_refl _) _
  have blk : w0.heap[w.heap.size]? = some (.cells #[.slice pa ra.length ka, .slice pb rb.length kb, .slice pt ts.length kt] 25 (0, 0)) := by rw [← hw0]; exact heap_alloc_new w _
  have s0 : w.heap.size < w0.heap.size := lt_of_block blk
  have CP := Lib.hid (fun (w' : World) (hb : Below w0.heap.size w0 w') => show w'.cell? ⟨w.heap.size, 0, none⟩ = some (.slice pa ra.length ka) ∧ w'.cell? ⟨w.heap.size, 1, none⟩ = some (.slice pb rb.length kb) ∧ w'.cell? ⟨w.heap.size, 2, none⟩ = some (.slice pt ts.length kt) from by
    have h9 := (hb.block _ s0).trans blk
    exact ⟨by rw [cell_of_row' h9]; rfl, by rw [cell_of_row' h9]; rfl, by rw [cell_of_row' h9]; rfl⟩)
  have TB := Lib.hid (ht.bel b0 hg); have HG : Hid (0 < w0.heap.size) := Nat.lt_of_lt_of_le hg b0.size
  have RA := Lib.hid (hra.below b0); have RB := Lib.hid (hrb.below b0); have BT := Lib.hid (htt.below b0)
  have NC := Lib.hid (NewK_calls 4194304 w0)
  have W0 := Lib.hid hw0; have B0 := Lib.hid b0
  clear hra hrb htt ht hg b0 blk hw0
  go_enter Tryd.func3, Tryd.ntmps3
  go_wp2_with fail
  rw [W0.out]
  refine NC.out.mono ?_
  rintro r w1 hr
  obtain ⟨db, F1, rfl, dd1, b1⟩ := new_s (room := 4194304) (by decide) (by decide) hr
  have D1 := Lib.hid dd1; have B1 := Lib.hid b1
  clear dd1 b1 hr NC
  have WK := Lib.hid (works10_calls w1 (TB.out.bel B1.out HG.out) (Nat.lt_of_lt_of_le HG.out D1.out.bw))
  go_wp2_with (go_at_call 9; refine (num10_calls _ _).mono ?_; rintro r wx ⟨rfl, rfl⟩)
  refine WK.out.mono ?_
  rintro r w2 ⟨rfl, b2⟩
  have D2 := Lib.hid (D1.out.below b2)
  have B2 := Lib.hid (B1.out.trans (b2.mono D1.out.bw))
  clear b2 WK
  have O2 := Open_s NA D2.out (TB.out.bel B2.out HG.out) HG.out (by decide) (Nat.zero_le _)
  rw [ds_new, open_new na_ok] at O2
  have O2H := Lib.hid O2
  clear O2
  go_wp2_with fail
  refine O2H.out.mono ?_
  rintro r w3 ⟨F3, dd3, u3', b3, f3, la, a3, c3, Af3, Cf3, rfl, l3, g3, n3, -, -⟩
  have LBA := Lib.hid (Nat.le_trans D2.out.bw g3)
  have D3 := Lib.hid dd3; have B3 := Lib.hid (B2.out.trans b3); have L3 := Lib.hid l3; have N3 := Lib.hid n3
  have O3 := Open_s NB dd3 (TB.out.bel B3.out HG.out) HG.out (by decide) (Nat.zero_le _)
  rw [open_new nb_ok] at O3
  have O3H := Lib.hid O3
  clear O3 dd3 u3' b3 f3 l3 g3 n3 O2H
  go_wp2_with fail
  refine O3H.out.mono ?_
  rintro r w4 ⟨F4, dd4, u4', b4, f4, lb, a4, c4, Af4, Cf4, rfl, l4, g4, n4, -, -⟩
  have IA : Hid (ApS w0 w4 w0.heap.size db NA NB la lb ra Aa Ca (.slice none 0 0) 0 rb Ab_ Cb (.slice none 0 0) 0 0 0 0 ⟨4194304, [], 0, 0, false, 0⟩ 0 F4) :=
    ⟨dd4, ⟨0, Ab.new NA NB⟩, L3.out.upd u4' N3.out, l4, fun hf => (f4 _ hf).elim N3.out (fun h9 => by have := L3.out.lt; omega), n4, by have := L3.out.lt; omega, LBA.out, Nat.le_trans D3.out.bw g4, Wn.nil _ _ _ _ _ _, Wn.nil _ _ _ _ _ _, (fun g h => by cases h), B3.out.trans b4, rfl, by omega, by omega, by omega, by omega⟩
  clear dd4 u4' b4 f4 l4 g4 n4 O3H D1 B1 D2 B2 D3 B3 L3 N3 LBA
  go_upto_block 0 with (go_at_call 9; refine (num10_calls _ _).mono ?_; rintro r wx ⟨rfl, rfl⟩)
  go_cut [11, 12] (fun v11 v12 wr => ApE w0 wr w0.heap.size db lb ra Aa Ca rb Ab_ Cb v11 v12)
  case first =>
    go_wp2
    go_loopw [5, 11, 12, 13, 14] (fun v5 v11 v12 vs vi wr => ∃ (la i sp : Nat), v5 = .pointer (some ⟨la, 0, none⟩) ∧ vs = .int .i64 sp ∧ vi = .int .i64 i ∧ i ≤ ts.length ∧ i ≤ 100 ∧ ApM w0 wr w0.heap.size db la lb ra Aa Ca rb Ab_ Cb v11 v12 i (4 * i) sp) (fun _ _ _ _ vi _ => ts.length - (intOf vi).toNat)
    case atStart => exact ⟨la, 0, 0, rfl, rfl, rfl, Nat.zero_le _, Nat.zero_le _, 0, 0, _, _, _, IA.out⟩
    case round =>
      clear IA
      obtain ⟨la, i, sp, rfl, rfl, rfl, hi, hi2, ia, ib, s, n, F, hh⟩ := hrel
      obtain ⟨q0, q1, q2⟩ := CP.out wr hh.bel
      have BR := Lib.hid (BT.out.below hh.bel)
      have HA := Lib.hid hh
      clear hh
      by_cases c1 : i < ts.length
      · have t1 : decide ((i : Int) < (ts.length : Int)) = true := decide_eq_true (by omega)
        have t1' : decide (i < ts.length) = true := decide_eq_true c1
        by_cases c2 : i < 100
        · have t2 : decide ((i : Int) < 100) = true := decide_eq_true (by omega)
          have t2' : decide (i < 100) = true := decide_eq_true c2
          obtain ⟨tb, to_, rfl, tcell⟩ := BR.out i c1
          obtain ⟨t, ht⟩ : ∃ t, ts[i] = t := ⟨_, rfl⟩
          rw [ht] at tcell
          have HT := Lib.hid ht
          clear ht
          obtain ⟨a11, k11, hv11, -, -, -⟩ := HA.out.w1.own.shape'
          subst hv11
          obtain ⟨P, hP⟩ : ∃ P : Bool, decide (t = true ∧ ia < ra.length) = P := ⟨_, rfl⟩
          have PH := Lib.hid hP
          clear hP
          go_upto_region 13 with fail
          go_cut [92] (fun c wx => c = .bool P ∧ wr = wx)
          case first =>
            cases t with
            | false =>
              have e : P = false := by rw [← PH.out]; simp
              subst e
              go_wp2
              go_meet
              case rel => exact ⟨rfl, rfl⟩
            | true =>
              by_cases c3 : ia < ra.length
              · have e : P = true := by rw [← PH.out]; simp [c3]
                subst e
                have t3 : decide ((ia : Int) < (ra.length : Int)) = true := decide_eq_true (by omega)
                have t3' : decide (ia < ra.length) = true := decide_eq_true c3
                go_wp2
                go_meet
                case rel => exact ⟨by first | rfl | simp [c3], rfl⟩
              · have e : P = false := by rw [← PH.out]; simp [c3]
                subst e
                have t3 : decide ((ia : Int) < (ra.length : Int)) = false := decide_eq_false (by omega)
                have t3' : decide (ia < ra.length) = false := decide_eq_false c3
                go_wp2
                go_meet
                case rel => exact ⟨by first | rfl | simp [c3], rfl⟩
          case rest =>
            obtain ⟨rfl, rfl⟩ := hcut
            clear q0 q1 q2 tcell
            go_upto_if 92 with fail
            go_cut [11, 13] (fun v11 vs wx => ∃ sp : Nat, vs = .int .i64 sp ∧ ApM w0 wx w0.heap.size db la lb ra Aa Ca rb Ab_ Cb v11 u12 (i + t.toNat) (4 * i + t.toNat) sp)
            case first =>
              cases P with
              | false =>
                go_wp2
                go_meet
                case rel => exact ⟨sp, rfl, ia, ib, s, n, F, HA.out.cs (by omega) (by cases t <;> simp <;> omega) (by omega)⟩
              | true =>
                obtain ⟨tt, c3⟩ : t = true ∧ ia < ra.length := of_decide_eq_true PH.out
                subst tt
                have SP : sp ≤ 524288 := HA.out.spl
                have RAr := RA.out.below HA.out.bel
                obtain ⟨ab, ao, rfl, hcell⟩ := RAr.cell ia c3
                have hby := RAr.byt ia c3
                have hsh := RAr.short ia c3
                obtain ⟨x, hx⟩ : ∃ x, ra[ia] = x := ⟨_, rfl⟩
                rw [hx] at hcell hby hsh
                obtain ⟨q0, -, -⟩ := CP.out wr HA.out.bel
                have HX := Lib.hid hx; have YB := Lib.hid hby
                clear hby hx RAr
                by_cases c4 : 524288 < sp + x.length
                · have t4 : decide ((524288 : Int) < (sp : Int) + (x.length : Int)) = true := decide_eq_true (by omega)
                  have t4' : decide (524288 < sp + x.length) = true := decide_eq_true c4
                  go_wp2
                  go_meet
                  case rel => exact ⟨la, ia, ib, _, _, _, _, _, _, HA.out, by omega⟩
                · have t4 : decide ((524288 : Int) < (sp : Int) + (x.length : Int)) = false := decide_eq_false (by omega)
                  have t4' : decide (524288 < sp + x.length) = false := decide_eq_false c4
                  have CC := Lib.hid (Copy_calls (Aa ia) (Ca ia) x wr YB.out hsh)
                  go_wp2_with fail
                  refine CC.out.mono ?_
                  rintro r w6 ⟨v6, rfl, ho6, hb6⟩
                  obtain ⟨a6, c6, rfl, -, -, y6, -, -⟩ := own_val ho6
                  have H6 := HA.out.below hb6
                  have B6 := Lib.hid hb6
                  obtain ⟨keep, ab6⟩ := H6.ab
                  obtain ⟨fl6, -, -⟩ := H6.fl
                  have nn6 := H6.nn
                  obtain ⟨s7, e7, ab7⟩ := ab6.walA (x := x) na_ok (by decide) (by omega) (by rw [flw_len, flw_len]; omega) (by decide) (by decide) (flen (ra.take ia))
                  rw [show decA 0 = 0 from rfl] at ab7
                  have AC := WalAppend_s x a6 c6 H6.dk H6.l1 H6.g1 H6.nf1 (TB.out.bel H6.bel HG.out) HG.out y6 hsh (by decide) (show s.writes ≤ 4611686018427387904 by rw [ab6.wr]; omega) (by omega)
                  rw [e7] at AC
                  have ACH := Lib.hid AC; have H6H := Lib.hid H6; have AB7 := Lib.hid ab7
                  clear ho6 hb6 y6 CC AC H6 ab6 ab7 e7 fl6 nn6
                  go_wp2_with fail
                  refine ACH.out.mono ?_
                  rintro r w7 ⟨rfl, F7, g7, l7, n7, u7, b7, f7⟩
                  have WN7 := Lib.hid (H6H.out.w1.wal H6H.out.l1 u7 f7)
                  have B7 := H6H.out.bel.trans b7
                  have G7 := Lib.hid g7; have L7 := Lib.hid l7; have N7 := Lib.hid n7; have U7 := Lib.hid u7; have BB7 := Lib.hid b7; have F7H := Lib.hid f7
                  have ial := HA.out.cnt
                  have N1 : Hid (ia + 1 ≤ maxLen) := by show _ ≤ _; unfold maxLen; omega
                  have N2 : Hid ((ia + 1) * 24 ≤ 140737488355328) := by show _ ≤ _; omega
                  have N3 : Hid (w0.heap.size ≤ (w7.alloc (.cells #[.slice (Aa ia) x.length (Ca ia)] 35)).heap.size) := by
                    show _ ≤ _
                    rw [World.size_alloc]
                    exact Nat.le_trans B7.size (Nat.le_succ _)
                  clear g7 l7 n7 u7 b7 f7 ACH B7 ial
                  go_wp2_with (first | (go_at_call 9; refine (num10_calls _ _).mono ?_; rintro r wx ⟨rfl, rfl⟩) | (at_builtin; refine wpList_append rfl (.tmp 111) (.tmp 113) 22 22 rfl w0.heap.size 35 (.slice none 0 0) 1 24 Tryd.underlying22 infoRow rfl (v := .slice a11 ia k11) (n := ia) (xs := svs ra Aa Ca ia) (WN7.out.own.alloc _) rfl (xv := .slice (some ⟨w7.heap.size, 0, none⟩) 1 1) (m := 1) (news := [.slice (Aa ia) x.length (Ca ia)]) (Src_new Tryd.underlying22 (heap_alloc_new w7 _) rfl) rfl N1.out N2.out N3.out ?_))
                  rintro v9 w9 ho9 hg9 - hv9
                  have NX : Hid (ApS w0 w9 w0.heap.size db NA NB la lb ra Aa Ca v9 (ia + 1) rb Ab_ Cb u12 ib (i + 1) (4 * i + 1) (sp + x.length) s7 (n + 1) F7) := by
                    have h9 := HA.out.push (w5 := w6) (w6 := w7) (w7 := w9) (v7 := v9) (F6 := F7) (s' := s7) (keep := keep) (o := .cells #[.slice (Aa ia) x.length (Ca ia)] 35) c3 (by omega) (by rw [HX.out]; omega) B6.out G7.out
                    rw [HX.out] at h9
                    exact h9 AB7.out L7.out N7.out U7.out BB7.out F7H.out ho9 hg9 (by rw [World.size_alloc]; exact hv9)
                  clear ho9 hg9 hv9
                  go_wp2
                  go_meet
                  case rel => exact ⟨sp + x.length, by go_num, ia + 1, ib, s7, n + 1, F7, NX.out⟩
            case rest =>
              clear HA PH BR
              obtain ⟨wB, rfl⟩ : ∃ q, q = wc := ⟨_, rfl⟩
              obtain ⟨sp, rfl, ia, ib, s, n, F, hh⟩ := hcut
              obtain ⟨-, -, q2⟩ := CP.out wB hh.bel
              obtain ⟨-, q1, -⟩ := CP.out wB hh.bel
              obtain ⟨tb', to', e, tcell⟩ := (BT.out.below hh.bel) i c1
              cases e
              rw [HT.out] at tcell
              have HA := Lib.hid hh
              obtain ⟨a12, k12, hv12, -, -, -⟩ := hh.w2.own.shape'
              subst hv12
              clear hh
              obtain ⟨P, hP⟩ : ∃ P : Bool, decide (t = false ∧ ib < rb.length) = P := ⟨_, rfl⟩
              have PH := Lib.hid hP
              clear hP
              go_upto_region 20 with fail
              go_cut [128] (fun c wx => c = .bool P ∧ wB = wx)
              case first =>
                cases t with
                | true =>
                  have e : P = false := by rw [← PH.out]; simp
                  subst e
                  go_wp2
                  go_meet
                  case rel => exact ⟨rfl, rfl⟩
                | false =>
                by_cases c3 : ib < rb.length
                · have e : P = true := by rw [← PH.out]; simp [c3]
                  subst e
                  have t3 : decide ((ib : Int) < (rb.length : Int)) = true := decide_eq_true (by omega)
                  have t3' : decide (ib < rb.length) = true := decide_eq_true c3
                  go_wp2
                  go_meet
                  case rel => exact ⟨by first | rfl | simp [c3], rfl⟩
                · have e : P = false := by rw [← PH.out]; simp [c3]
                  subst e
                  have t3 : decide ((ib : Int) < (rb.length : Int)) = false := decide_eq_false (by omega)
                  have t3' : decide (ib < rb.length) = false := decide_eq_false c3
                  go_wp2
                  go_meet
                  case rel => exact ⟨by first | rfl | simp [c3], rfl⟩
              case rest =>
                obtain ⟨rfl, rfl⟩ := hcut
                clear q1 q2 tcell
                go_upto_if 128 with fail
                go_cut [12, 13] (fun v12 vs wx => ∃ sp : Nat, vs = .int .i64 sp ∧ ApM w0 wx w0.heap.size db la lb ra Aa Ca rb Ab_ Cb u11 v12 (i + 1) (4 * i + 1) sp)
                case first =>
                  cases P with
                  | false =>
                    go_wp2
                    go_meet
                    case rel => exact ⟨sp, rfl, ia, ib, s, n, F, HA.out.cs (by cases t <;> simp <;> omega) (by omega) (by cases t <;> simp <;> omega)⟩
                  | true =>
                    obtain ⟨tt, c3⟩ : t = false ∧ ib < rb.length := of_decide_eq_true PH.out
                    subst tt
                    have HA := Lib.hid (HA.out.cs (c' := i) (m' := 4 * i) (Nat.le_refl _) (by omega) (Nat.le_refl _))
                    have SP : sp ≤ 524288 := HA.out.spl
                    have RBr := RB.out.below HA.out.bel
                    obtain ⟨ab, ao, rfl, hcell⟩ := RBr.cell ib c3
                    have hby := RBr.byt ib c3
                    have hsh := RBr.short ib c3
                    obtain ⟨x, hx⟩ : ∃ x, rb[ib] = x := ⟨_, rfl⟩
                    rw [hx] at hcell hby hsh
                    obtain ⟨-, q1, -⟩ := CP.out wB HA.out.bel
                    have HX := Lib.hid hx; have YB := Lib.hid hby
                    clear hby hx RBr
                    by_cases c4 : 524288 < sp + x.length
                    · have t4 : decide ((524288 : Int) < (sp : Int) + (x.length : Int)) = true := decide_eq_true (by omega)
                      have t4' : decide (524288 < sp + x.length) = true := decide_eq_true c4
                      go_wp2
                      go_meet
                      case rel => exact ⟨la, ia, ib, _, _, _, _, _, _, HA.out, by omega⟩
                    · have t4 : decide ((524288 : Int) < (sp : Int) + (x.length : Int)) = false := decide_eq_false (by omega)
                      have t4' : decide (524288 < sp + x.length) = false := decide_eq_false c4
                      have CC := Lib.hid (Copy_calls (Ab_ ib) (Cb ib) x wB YB.out hsh)
                      go_wp2_with fail
                      refine CC.out.mono ?_
                      rintro r w6 ⟨v6, rfl, ho6, hb6⟩
                      obtain ⟨a6, c6, rfl, -, -, y6, -, -⟩ := own_val ho6
                      have H6 := HA.out.symm.below hb6
                      have B6 := Lib.hid hb6
                      obtain ⟨keep, ab6⟩ := H6.ab
                      obtain ⟨fl6, -, -⟩ := H6.fl
                      have nn6 := H6.nn
                      obtain ⟨s7, e7, ab7⟩ := ab6.walA (x := x) nb_ok (by decide) (by omega) (by rw [flw_len, flw_len]; omega) (by decide) (by decide) (flen (rb.take ib))
                      rw [show decA 0 = 0 from rfl] at ab7
                      have AC := WalAppend_s x a6 c6 H6.dk H6.l1 H6.g1 H6.nf1 (TB.out.bel H6.bel HG.out) HG.out y6 hsh (by decide) (show s.writes ≤ 4611686018427387904 by rw [ab6.wr]; omega) (by omega)
                      rw [e7] at AC
                      have ACH := Lib.hid AC; have H6H := Lib.hid H6; have AB7 := Lib.hid ab7
                      clear ho6 hb6 y6 CC AC H6 ab6 ab7 e7 fl6 nn6
                      go_wp2_with fail
                      refine ACH.out.mono ?_
                      rintro r w7 ⟨rfl, F7, g7, l7, n7, u7, b7, f7⟩
                      have WN7 := Lib.hid (H6H.out.w1.wal H6H.out.l1 u7 f7)
                      have B7 := H6H.out.bel.trans b7
                      have G7 := Lib.hid g7; have L7 := Lib.hid l7; have N7 := Lib.hid n7; have U7 := Lib.hid u7; have BB7 := Lib.hid b7; have F7H := Lib.hid f7
                      have ial := HA.out.cnt
                      have N1 : Hid (ib + 1 ≤ maxLen) := by show _ ≤ _; unfold maxLen; omega
                      have N2 : Hid ((ib + 1) * 24 ≤ 140737488355328) := by show _ ≤ _; omega
                      have N3 : Hid (w0.heap.size ≤ (w7.alloc (.cells #[.slice (Ab_ ib) x.length (Cb ib)] 35)).heap.size) := by
                        show _ ≤ _
                        rw [World.size_alloc]
                        exact Nat.le_trans B7.size (Nat.le_succ _)
                      clear g7 l7 n7 u7 b7 f7 ACH B7 ial
                      go_wp2_with (first | (go_at_call 9; refine (num10_calls _ _).mono ?_; rintro r wx ⟨rfl, rfl⟩) | (at_builtin; refine wpList_append rfl (.tmp 147) (.tmp 149) 22 22 rfl w0.heap.size 35 (.slice none 0 0) 1 24 Tryd.underlying22 infoRow rfl (v := .slice a12 ib k12) (n := ib) (xs := svs rb Ab_ Cb ib) (WN7.out.own.alloc _) rfl (xv := .slice (some ⟨w7.heap.size, 0, none⟩) 1 1) (m := 1) (news := [.slice (Ab_ ib) x.length (Cb ib)]) (Src_new Tryd.underlying22 (heap_alloc_new w7 _) rfl) rfl N1.out N2.out N3.out ?_))
                      rintro v9 w9 ho9 hg9 - hv9
                      have NX : Hid (ApS w0 w9 w0.heap.size db NA NB la lb ra Aa Ca u11 ia rb Ab_ Cb v9 (ib + 1) (i + 1) (4 * i + 1) (sp + x.length) s7 (n + 1) F7) := by
                        have h9 := HA.out.symm.push (w5 := w6) (w6 := w7) (w7 := w9) (v7 := v9) (F6 := F7) (s' := s7) (keep := keep) (o := .cells #[.slice (Ab_ ib) x.length (Cb ib)] 35) c3 (by omega) (by rw [HX.out]; omega) B6.out G7.out
                        rw [HX.out] at h9
                        exact (h9 AB7.out L7.out N7.out U7.out BB7.out F7H.out ho9 hg9 (by rw [World.size_alloc]; exact hv9)).symm
                      clear ho9 hg9 hv9
                      go_wp2
                      go_meet
                      case rel => exact ⟨sp + x.length, by go_num, ia, ib + 1, s7, n + 1, F7, NX.out⟩
                case rest =>
                  clear HA PH
                  obtain ⟨wD, rfl⟩ : ∃ q, q = wc := ⟨_, rfl⟩
                  obtain ⟨sp, rfl, ia, ib, s, n, F, hh⟩ := hcut
                  obtain ⟨xs, hxs⟩ : ∃ q, ra.take ia = q := ⟨_, rfl⟩
                  have hk : ia = xs.length := by rw [← hxs, List.length_take]; have := hh.w1.le; omega
                  subst hk
                  obtain ⟨ys, hys⟩ : ∃ q, rb.take ib = q := ⟨_, rfl⟩
                  have hk : ib = ys.length := by rw [← hys, List.length_take]; have := hh.w2.le; omega
                  subst hk
                  have HA := Lib.hid hh; have XSH := Lib.hid hxs; have YSH := Lib.hid hys
                  obtain ⟨fle, smx, -⟩ := hh.fl
                  rw [hxs] at fle smx
                  rw [hys] at fle
                  have SMX := Lib.hid smx
                  obtain ⟨a11, k11, hv11, -, -, -⟩ := hh.w1.own.shape'
                  obtain ⟨a12, k12, hv12, -, -, -⟩ := hh.w2.own.shape'
                  subst hv11 hv12
                  have XL : xs.length ≤ 200 := by have := hh.cnt; omega
                  have YL : ys.length ≤ 200 := by have := hh.cnt; omega
                  have NN : n ≤ 1000 := by have := hh.nn; omega
                  clear hh hxs hys smx
                  by_cases c7 : (i : Int) % 7 = 3
                  · have t7 : ((i : Int) % 7 == 3) = true := beq_iff_eq.2 c7
                    have A1 := Lib.hid (HA.out.dk.arm 1 ((i : Int) % 5) (by decide))
                    clear c7
                    go_wp2_with fail
                    refine A1.out.mono ?_
                    rintro r w5 ⟨rfl, F5, d5, u5', b5, f5⟩
                    obtain ⟨keep, ab⟩ := HA.out.ab
                    have ab5 := ab.arm 1 ((i : Int) % 5)
                    rw [show max 0 (1 : Int) = 1 from rfl] at ab5
                    obtain ⟨l15, l25, n15, n25, w15, w25, bel5⟩ := HA.out.step d5 u5' b5 f5
                    have BA : Below w5.heap.size w5 (w5.alloc (.cells (bys TORN).toArray 5 (4, 5))) := (Below.refl _ _).alloc (Nat.le_refl _) _
                    rw [XSH.out, YSH.out] at ab5
                    rw [XSH.out] at l15
                    rw [YSH.out] at l25
                    obtain ⟨s6, e6, ab6⟩ := ab5.walA1 (x := TORN) na_ok (by decide) (by decide) (by rw [flw_len, flw_len]; show _ + (4 + 13) ≤ _; omega) (flen xs)
                    have A6 := WalAppend_s TORN (some ⟨w5.heap.size, 0, none⟩) 4 (d5.below BA) (l15.below BA) HA.out.g1 n15 ((TB.out.bel bel5 HG.out).below BA) HG.out (Byt.lit w5 TORN (4, 5)) (by decide) (by decide) (by rw [ab5.wr]; omega) (by omega)
                    rw [e6] at A6
                    have A6H := Lib.hid A6; have AB6 := Lib.hid ab6; have BAH := Lib.hid BA
                    have D5 := Lib.hid d5; have L15 := Lib.hid l15; have L25 := Lib.hid l25; have N25 := Lib.hid n25; have W15 := Lib.hid w15; have W25 := Lib.hid w25; have BEL5 := Lib.hid bel5
                    have kc := fun (w : World) (C : Array Value) (n c : Nat) => Lib.run_convert_bytes_const (P := Tryd.prog) w 35 5 C n c Tryd.underlying35 Tryd.underlying5
                    clear A6 ab6 BA d5 u5' b5 f5 ab ab5 l15 l25 n15 n25 w15 w25 bel5 e6 A1
                    go_wp2_with fail
                    refine A6H.out.mono ?_
                    rintro r w6 ⟨rfl, F6, d6, -, n6, u6', b6, f6⟩
                    have W16 := Lib.hid ((W15.out.below BAH.out).wal (L15.out.below BAH.out) u6' f6)
                    have W26 := Lib.hid ((W25.out.below BAH.out).wal (L15.out.below BAH.out) u6' f6)
                    have L26 := Lib.hid ((L25.out.below BAH.out).upd u6' (fun e => e.elim N25.out (fun e => HA.out.ne e.symm)))
                    have N26 : Hid (¬ F6 lb) := fun hf => (f6 _ hf).elim N25.out (fun h9 => by have := (L25.out.below BAH.out).lt; omega)
                    have BEL6 := Lib.hid ((BEL5.out.trans (BAH.out.mono D5.out.bw)).trans b6)
                    have A7 := Lib.hid d6.on
                    clear d6 n6 u6' b6 f6 A6H
                    go_wp2_with fail
                    refine A7.out.mono ?_
                    rintro r w7 ⟨rfl, F7, d7, u7', b7, f7⟩
                    have W17 := Lib.hid (W16.out.step u7' f7)
                    have W27 := Lib.hid (W26.out.step u7' f7)
                    have L27 := Lib.hid (L26.out.upd u7' N26.out)
                    have N27 : Hid (¬ F7 lb) := fun hf => (f7 _ hf).elim N26.out (fun h9 => by have := L26.out.lt; omega)
                    have BEL7 := Lib.hid (BEL6.out.trans b7)
                    have ab7 := AB6.out.on
                    obtain ⟨s8, n8, e8, ab8, hn8⟩ := ab7.opened (xs := xs) (t := keptB (frm TORN) ((i : Int) % 5)) na_ok (by decide) rfl (recOf_tornk TORN ((i : Int) % 5) (by decide) (by omega) (by rw [frm_length]; show _ < ((4 + 13 : Nat) : Int); omega)) (fun x hx => by have := SMX.out x hx; omega)
                    have O8 := Open_s NA d7 (TB.out.bel BEL7.out HG.out) HG.out (by decide) (by rw [ab7.wr]; omega)
                    rw [e8] at O8
                    have O8H := Lib.hid O8; have AB8 := Lib.hid ab8; have D7 := Lib.hid d7
                    clear O8 ab7 ab8 e8 d7 u7' b7 f7 A7
                    go_wp2_with fail
                    refine O8H.out.mono ?_
                    rintro r w8 ⟨F8, d8, u8', b8, f8, la8, a8, c8, Af8, Cf8, rfl, l8, g8, n8', rd8, -⟩
                    have H8 := Lib.hid (ApS.again HA.out XSH.out YSH.out D7.out W17.out W27.out L27.out N27.out BEL7.out d8 AB8.out l8 n8' g8 u8' b8 f8 hn8)
                    have rin8 := (RA.out.below H8.out.bel)
                    obtain ⟨aw, cw, hv, rdw⟩ := H8.out.w1.rd rin8.by2
                    cases hv
                    rw [XSH.out] at rdw
                    have RC := Lib.hid (rows10_calls a8 a11 c8 k11 xs xs Af8 Aa Cf8 Ca w8 rd8 rdw (by omega))
                    clear d8 u8' b8 f8 l8 g8 n8' rd8 rin8 rdw O8H hn8
                    go_wp2_with (go_at_call 9; refine (num10_calls _ _).mono ?_; rintro r wx ⟨rfl, rfl⟩)
                    refine RC.out.mono ?_
                    rintro r w9 ⟨rfl, b9⟩
                    have HE := Lib.hid (H8.out.below b9)
                    clear b9 RC
                    have l1e := HE.out.l1
                    have l2e := HE.out.l2
                    obtain ⟨aw, cw, hv, rdw⟩ := HE.out.w1.rd (RA.out.below HE.out.bel).by2
                    cases hv
                    obtain ⟨aw, cw, hv, rdv⟩ := HE.out.w2.rd (RB.out.below HE.out.bel).by2
                    cases hv
                    rw [XSH.out] at l1e rdw
                    rw [YSH.out] at l2e rdv
                    have SZ1 := Lib.hid (WalSize_calls la8 db NA (flen xs) false w9 l1e)
                    have SI1 := Lib.hid (size10_calls a11 k11 xs Aa Ca w9 rdw (by omega))
                    have L2E := Lib.hid l2e; have RDV := Lib.hid rdv
                    clear l1e l2e rdw rdv
                    go_wp2_with fail
                    refine SZ1.out.mono ?_
                    rintro r wx ⟨rfl, rfl⟩
                    go_wp2_with fail
                    refine SI1.out.mono ?_
                    rintro r wz ⟨rfl, bz⟩
                    have BZ := Lib.hid bz
                    have SZ2 := Lib.hid (WalSize_calls lb db NB (flen ys) false wz (L2E.out.below bz))
                    have SI2 := Lib.hid (size10_calls a12 k12 ys Ab_ Cb wz (RDV.out.below bz) (by omega))
                    clear bz SZ1 SI1
                    go_wp2_with fail
                    refine SZ2.out.mono ?_
                    rintro r wx ⟨rfl, rfl⟩
                    go_wp2_with fail
                    refine SI2.out.mono ?_
                    rintro r wy ⟨rfl, bv⟩
                    have HZ := Lib.hid ((HE.out.below BZ.out).below bv)
                    clear bv SZ2 SI2
                    go_wp2
                    go_roundw
                    case rel => exact ⟨la8, i + 1, sp, rfl, rfl, by go_num, by omega, by omega, xs.length, ys.length, _, _, _, HZ.out.cs (Nat.le_refl _) (by omega) (by omega)⟩
                    case measure => simp [intOf]; omega
                  · have t7 : ((i : Int) % 7 == 3) = false := beq_eq_false_iff_ne.2 c7
                    have HE := HA
                    clear c7
                    have l1e := HE.out.l1
                    have l2e := HE.out.l2
                    obtain ⟨aw, cw, hv, rdw⟩ := HE.out.w1.rd (RA.out.below HE.out.bel).by2
                    cases hv
                    obtain ⟨aw, cw, hv, rdv⟩ := HE.out.w2.rd (RB.out.below HE.out.bel).by2
                    cases hv
                    rw [XSH.out] at l1e rdw
                    rw [YSH.out] at l2e rdv
                    have SZ1 := Lib.hid (WalSize_calls la db NA (flen xs) false wD l1e)
                    have SI1 := Lib.hid (size10_calls a11 k11 xs Aa Ca wD rdw (by omega))
                    have L2E := Lib.hid l2e; have RDV := Lib.hid rdv
                    clear l1e l2e rdw rdv
                    go_wp2_with fail
                    refine SZ1.out.mono ?_
                    rintro r wx ⟨rfl, rfl⟩
                    go_wp2_with fail
                    refine SI1.out.mono ?_
                    rintro r wz ⟨rfl, bz⟩
                    have BZ := Lib.hid bz
                    have SZ2 := Lib.hid (WalSize_calls lb db NB (flen ys) false wz (L2E.out.below bz))
                    have SI2 := Lib.hid (size10_calls a12 k12 ys Ab_ Cb wz (RDV.out.below bz) (by omega))
                    clear bz SZ1 SI1
                    go_wp2_with fail
                    refine SZ2.out.mono ?_
                    rintro r wx ⟨rfl, rfl⟩
                    go_wp2_with fail
                    refine SI2.out.mono ?_
                    rintro r wy ⟨rfl, bv⟩
                    have HZ := Lib.hid ((HE.out.below BZ.out).below bv)
                    clear bv SZ2 SI2
                    go_wp2
                    go_roundw
                    case rel => exact ⟨la, i + 1, sp, rfl, rfl, by go_num, by omega, by omega, xs.length, ys.length, _, _, _, HZ.out.cs (Nat.le_refl _) (by omega) (by omega)⟩
                    case measure => simp [intOf]; omega
        · have t2 : decide ((i : Int) < 100) = false := decide_eq_false (by omega)
          have t2' : decide (i < 100) = false := decide_eq_false c2
          go_wp2
          go_meet
          case rel => exact ⟨la, ia, ib, _, _, _, _, _, _, HA.out, by omega⟩
      · have t1 : decide ((i : Int) < (ts.length : Int)) = false := decide_eq_false (by omega)
        have t1' : decide (i < ts.length) = false := decide_eq_false c1
        go_wp2
        go_meet
        case rel => exact ⟨la, ia, ib, _, _, _, _, _, _, HA.out, by omega⟩
  case rest =>
    clear IA
    obtain ⟨wA, rfl⟩ : ∃ q, q = wc := ⟨_, rfl⟩
    obtain ⟨la2, ia, ib, c, m, sp, s, n, F, hh, hm⟩ := hcut
    obtain ⟨xs, hxs⟩ : ∃ q, ra.take ia = q := ⟨_, rfl⟩
    have hk : ia = xs.length := by rw [← hxs, List.length_take]; have := hh.w1.le; omega
    subst hk
    obtain ⟨ys, hys⟩ : ∃ q, rb.take ib = q := ⟨_, rfl⟩
    have hk : ib = ys.length := by rw [← hys, List.length_take]; have := hh.w2.le; omega
    subst hk
    have HA := Lib.hid hh; have XSH := Lib.hid hxs; have YSH := Lib.hid hys
    obtain ⟨fle, smx, -⟩ := hh.fl
    obtain ⟨-, smy, -⟩ := hh.symm.fl
    rw [hxs] at fle smx
    rw [hys] at fle smy
    obtain ⟨keep, ab⟩ := hh.ab
    rw [hxs, hys] at ab
    obtain ⟨a11, k11, hv11, -, -, -⟩ := hh.w1.own.shape'
    obtain ⟨a12, k12, hv12, -, -, -⟩ := hh.w2.own.shape'
    subst hv11 hv12
    have XL : xs.length ≤ 200 := by have := hh.cnt; have := hh.cl; omega
    have YL : ys.length ≤ 200 := by have := hh.cnt; have := hh.cl; omega
    have NN : n ≤ 1000 := by have := hh.nn; omega
    obtain ⟨s5, n5, e5, ab5, hn5⟩ := ab.opened (xs := xs) (t := []) na_ok (by decide) (List.append_nil _).symm (.inl rfl) (fun x hx => by have := smx x hx; omega)
    obtain ⟨s6, n6, e6, ab6, hn6⟩ := ab5.symm.opened (xs := ys) (t := []) nb_ok (by decide) (List.append_nil _).symm (.inl rfl) (fun x hx => by have := smy x hx; omega)
    have O5 := Open_s NA hh.dk (TB.out.bel hh.bel HG.out) HG.out (by decide) (by rw [ab.wr]; omega)
    rw [e5] at O5
    have O5H := Lib.hid O5; have AB5 := Lib.hid ab5; have E6 := Lib.hid e6
    clear O5 e5 e6 ab6 smx smy ab hh hxs hys
    go_wp2_with fail
    refine O5H.out.mono ?_
    rintro r w5 ⟨F5, d5, u5', b5, f5, lb5, a5, c5, Af5, Cf5, rfl, l5, g5, n5', rd5, rg5⟩
    have L2A := HA.out.l2
    rw [YSH.out] at L2A
    have H5 := Lib.hid (ApS.again HA.out XSH.out YSH.out HA.out.dk HA.out.w1 HA.out.w2 L2A HA.out.nf2 HA.out.bel d5 AB5.out l5 n5' g5 u5' b5 f5 (by omega))
    have RD5 := Lib.hid rd5; have RG5 := Lib.hid rg5
    have O6 := Open_s NB d5 (TB.out.bel H5.out.bel HG.out) HG.out (by decide) (by rw [AB5.out.wr]; omega)
    rw [E6.out] at O6
    have O6H := Lib.hid O6
    clear O6 L2A d5 u5' b5 f5 l5 g5 n5' rd5 rg5 O5H
    go_wp2_with fail
    refine O6H.out.mono ?_
    rintro r w6 ⟨F6, d6, u6', b6, f6, lb6, a6, c6, Af6, Cf6, rfl, -, -, -, rd6, -⟩
    have B6 := Lib.hid (H5.out.bel.trans b6)
    have rd56 : Rd2 w6 a5 xs Af5 Cf5 := RD5.out.upd RG5.out u6' (fun i hf hz => hz.2.1 hf)
    obtain ⟨aw, cw, hv, rdx⟩ := (H5.out.w1.step u6' f6).rd (RA.out.below B6.out).by2
    cases hv
    obtain ⟨aw, cw, hv, rdy⟩ := (H5.out.w2.step u6' f6).rd (RB.out.below B6.out).by2
    cases hv
    rw [XSH.out] at rdx
    rw [YSH.out] at rdy
    have RC1 := Lib.hid (rows10_calls a5 a11 c5 k11 xs xs Af5 Aa Cf5 Ca w6 rd56 rdx (by omega))
    have RD6 := Lib.hid rd6; have RDY := Lib.hid rdy
    clear d6 u6' b6 f6 rd6 rd56 rdx rdy O6H
    go_wp2_with (go_at_call 9; refine (num10_calls _ _).mono ?_; rintro r wx ⟨rfl, rfl⟩)
    refine RC1.out.mono ?_
    rintro r w7 ⟨rfl, b7⟩
    have RC2 := Lib.hid (rows10_calls a6 a12 c6 k12 ys ys Af6 Ab_ Cf6 Cb w7 (RD6.out.below b7) (RDY.out.below b7) (by omega))
    have B7 := Lib.hid (B6.out.trans (b7.mono B6.out.size))
    clear b7 RC1
    go_wp2_with fail
    refine RC2.out.mono ?_
    rintro r w8 ⟨rfl, b8⟩
    have B8 := Lib.hid (B7.out.trans (b8.mono B7.out.size))
    clear b8 RC2
    go_wp2
    go_ret
    exact ⟨by first | rfl | simp, B0.out.trans (B8.out.mono B0.out.size)⟩
end Go.Proofs.YtnbpkignkfabkaaDoor
