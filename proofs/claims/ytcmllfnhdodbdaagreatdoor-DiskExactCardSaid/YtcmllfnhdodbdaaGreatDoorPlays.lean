/- posternlaw9: the stage plays a call, where nothing is marked. -/
import Derived.Test.YtcmllfnhdodbdaaGreatDoorPlaysL
import Derived.Deep.RegionHeld3
import Derived.Deep.CutBlock
import Derived.Deep.DeepCutAuto
namespace Go.Proofs.YtcmllfnhdodbdaaGreatDoor
set_option linter.unusedVariables false
set_option linter.unusedSimpArgs false
open Go.RowKit Go.Maps
def PlP (w0 w' : World) (sb bb ab : Nat) (K : Nat → Prop) (N : Nat) (turn spent : Int) : Prop :=
  ∃ db rb F G s turn' spent', Sta w0 w' sb bb ab db rb F G s s K turn' spent' ∧ (∀ k, (s k).writes ≤ N + 1) ∧ 0 ≤ turn' ∧ turn' ≤ turn + 1 ∧ 0 ≤ spent' ∧ spent' ≤ spent + 300000000000000
set_option maxRecDepth 100000 in
set_option maxHeartbeats 2000000 in
theorem size9b_calls (d on n keep : Int) (nm tn b : List UInt8) (ba fa : Option Addr) (bc fc : Nat) (fl : Con) (w : World) (hf : Fil w fa fl) (hb : b.length ≤ 140737488351232) (hl : fl.length ≤ 140737488351232) (hs : ∀ p ∈ fl, p.1.length ≤ 140737488351232 ∧ p.2.length ≤ 140737488351232) :
    Calls Tryz.prog 12 #[.agg #[.int .i64 d, .int .i64 on, .string ⟨nm.toArray⟩, .string ⟨tn.toArray⟩, .slice ba b.length bc, .int .i64 n, .int .i64 keep, .slice fa fl.length fc]] w fun r w' => ∃ m : Nat, r = .returned (.int .i64 m) ∧ b.length ≤ m ∧ m ≤ 300000000000000 ∧ Below w.heap.size w w' ∧ (m ≤ 1048576 → fl.length ≤ 1048576 ∧ ∀ p ∈ fl, p.2.length ≤ 1048576) := by
  obtain ⟨w0, hw0⟩ : ∃ q, w.alloc (.cells #[.int .i64 d, .int .i64 on, .string ⟨nm.toArray⟩, .string ⟨tn.toArray⟩, .slice ba b.length bc, .int .i64 n, .int .i64 keep, .slice fa fl.length fc] 36) = q := ⟨_, rfl⟩
  have b0 : Below w.heap.size w w0 := by rw [← hw0]; exact (Below.refl _ _).alloc (Nat.le_refl _) _
  have blk : w0.heap[w.heap.size]? = some (.cells #[.int .i64 d, .int .i64 on, .string ⟨nm.toArray⟩, .string ⟨tn.toArray⟩, .slice ba b.length bc, .int .i64 n, .int .i64 keep, .slice fa fl.length fc] 36 (0, 0)) := by rw [← hw0]; exact heap_alloc_new w _
  have q4 : w0.cell? ⟨w.heap.size, 4, none⟩ = some (.slice ba b.length bc) := by rw [cell_of_row' blk]; rfl
  have q7 : w0.cell? ⟨w.heap.size, 7, none⟩ = some (.slice fa fl.length fc) := by rw [cell_of_row' blk]; rfl
  have FI := Lib.hid (hf.below b0); have W0 := Lib.hid hw0; have B0 := Lib.hid b0; have HS := Lib.hid hs
  clear hf hs b0 blk hw0
  go_enter Tryz.func12, Tryz.ntmps12
  go_wp2
  rw [W0.out]
  go_loopw [3, 4] (fun vn vi wr => ∃ k i : Nat, vn = .int .i64 k ∧ vi = .int .i64 i ∧ b.length ≤ k ∧ k ≤ 300000000000000 ∧ i ≤ fl.length ∧ i ≤ k ∧ (∀ j (hj : j < fl.length), j < i → (fl[j]).2.length ≤ k) ∧ w0 = wr) (fun _ vi _ => fl.length - (intOf vi).toNat)
  case atStart => exact ⟨b.length, 0, rfl, rfl, Nat.le_refl _, by omega, Nat.zero_le _, Nat.zero_le _, (fun j hj h => absurd h (Nat.not_lt_zero _)), rfl⟩
  case round =>
    obtain ⟨k, i, rfl, rfl, hk, hk2, hi, hik, hall, rfl⟩ := hrel
    have HA := Lib.hid hall
    clear hall
    by_cases c1 : i < fl.length
    · have t1 : decide ((i : Int) < (fl.length : Int)) = true := decide_eq_true (by omega)
      have t1' : decide (i < fl.length) = true := decide_eq_true c1
      by_cases c2 : k ≤ 1048576
      · have t2 : decide ((k : Int) ≤ 1048576) = true := decide_eq_true (by omega)
        have t2' : decide (k ≤ 1048576) = true := decide_eq_true c2
        obtain ⟨b1, o1, p1, k1, rfl, h1, h2, -, -⟩ := FI.out i c1
        have hlen := (HS.out fl[i] (List.getElem_mem c1)).2
        obtain ⟨t, ht⟩ : ∃ q, fl[i].2 = q := ⟨_, rfl⟩
        rw [ht] at h2 hlen
        have HT := Lib.hid ht
        have i2 : (i : Int) < (fl.length : Int) := by omega
        clear ht h1
        go_wp2
        go_roundw
        case rel => exact ⟨k + t.length + 100, i + 1, by go_num, by go_num, by omega, by omega, by omega, by omega, (fun j hj h => by
          rcases Nat.lt_or_ge j i with h9 | h9
          · have := HA.out j hj h9; omega
          · obtain rfl : j = i := by omega
            rw [HT.out]; omega), by first | rfl | trivial⟩
        case measure => simp [intOf]; omega
      · have t2 : decide ((k : Int) ≤ 1048576) = false := decide_eq_false (by omega)
        have t2' : decide (k ≤ 1048576) = false := decide_eq_false c2
        go_wp2
        go_ret
        exact ⟨k, rfl, hk, hk2, B0.out, fun h9 => absurd h9 (by omega)⟩
    · have t1 : decide ((i : Int) < (fl.length : Int)) = false := decide_eq_false (by omega)
      have t1' : decide (i < fl.length) = false := decide_eq_false c1
      go_wp2
      go_ret
      exact ⟨k, rfl, hk, hk2, B0.out, fun h9 => ⟨by omega, fun p hp => by
        obtain ⟨j, hj, rfl⟩ := List.getElem_of_mem hp
        have := HA.out j hj (by omega)
        omega⟩⟩
theorem on_k (x : Int) : ∃ k, bits BinOp.and IntKind.i64 x 1 = kz k := by
  have h : (BitVec.ofInt 64 x &&& BitVec.ofInt 64 1).toNat < 2 := by
    rw [BitVec.toNat_and, show (BitVec.ofInt 64 1).toNat = 1 by decide, Nat.and_one_is_mod]
    omega
  show ∃ k, IntKind.i64.wrap ((BitVec.ofInt 64 x &&& BitVec.ofInt 64 1).toNat : Int) = kz k
  generalize (BitVec.ofInt 64 x &&& BitVec.ofInt 64 1).toNat = m at h
  rcases Nat.lt_or_ge m 1 with h1 | h1
  · obtain rfl : m = 0 := by omega
    exact ⟨false, by decide⟩
  · obtain rfl : m = 1 := by omega
    exact ⟨true, by decide⟩
theorem Sta.put {w0 w w' : World} {sb bb ab : Nat} {db rb : Bool → Nat} {F G : Bool → Nat → Prop} {s : Bool → DS} {K : Nat → Prop} {turn spent room : Int} {k : Bool} {l : Con} (h : Sta w0 w sb bb ab db rb F G s s K turn spent) (hp : PutP w w' sb k room l) :
    ∃ db' rb' F' G' s', Sta w0 w' sb bb ab db' rb' F' G' s' s' K turn spent ∧ ∀ N, (∀ j, (s j).writes ≤ N) → ∀ j, (s' j).writes ≤ N := by
  unfold PutP at hp
  obtain ⟨q, hq⟩ : ∃ q, loadR room l = q := ⟨_, rfl⟩
  rw [hq] at hp
  obtain ⟨e, os⟩ := q
  cases os with
  | none => exact ⟨db, rb, F, G, s, h.below hp, fun N hN => hN⟩
  | some t =>
    obtain ⟨w1, d1, r1, F1, G1, hb, sd, rfl⟩ := hp
    obtain ⟨-, -, -, -, -, -, hwr, -, -, -⟩ := loadR_ok hq
    have h1 := h.below hb
    have hslt := h.slt
    have hK : ∀ i, K i → i < w.heap.size := by obtain ⟨_, _, _, _, _, _, _, _, _, _, h5⟩ := h.bk; exact fun i hi => (h5 i hi).2
    have hu : Upd (fun i => i = sb) w1 ((w1.setCell ⟨sb, kn k, none⟩ (.pointer (some ⟨d1, 0, none⟩))).setCell ⟨sb, 2 + kn k, none⟩ (.pointer (some ⟨r1, 0, none⟩))) := ((Upd.refl (fun i => i = sb) w1).setCell (p := ⟨sb, kn k, none⟩) (fun _ => rfl) _).setCell (p := ⟨sb, 2 + kn k, none⟩) (fun _ => rfl) _
    have n1 : ∀ i, F1 i → w.heap.size ≤ i := fun i hi => (sd.d.fl i hi).1
    have n2 : ∀ i, G1 i → w.heap.size ≤ i := fun i hi => (sd.r.fl i hi).1
    have o1 : ∀ j i, F j i → i < w.heap.size := fun j i hi => ((h.d j).fl i hi).2
    have o2 : ∀ j i, G j i → i < w.heap.size := fun j i hi => ((h.r j).fl i hi).2
    have cF : ∀ j i, upk F k F1 j i → F j i ∨ (j = k ∧ F1 i) := by
      intro j i hi
      by_cases e : j = k
      · subst e; rw [upk_same] at hi; exact .inr ⟨rfl, hi⟩
      · rw [upk_other _ e] at hi; exact .inl hi
    have cG : ∀ j i, upk G k G1 j i → G j i ∨ (j = k ∧ G1 i) := by
      intro j i hi
      by_cases e : j = k
      · subst e; rw [upk_same] at hi; exact .inr ⟨rfl, hi⟩
      · rw [upk_other _ e] at hi; exact .inl hi
    refine ⟨upk db k d1, upk rb k r1, upk F k F1, upk G k G1, upk s k t, ⟨?_, fun j => ?_, fun j => ?_, fun a b hab i ha hb' => ?_, fun a b hab i ha hb' => ?_, fun a b i ha hb' => ?_, fun j i hi => ?_, fun j i hi => ?_, h1.bk.upd hu (fun i hi hk => h.ks (by rw [← hi]; exact hk)), fun j i hi hk => ?_, fun j i hi hk => ?_, h.ks, h.sl, h1.bel.trans (hu.below (fun i hi _ => by rw [hi]; exact h.sl) h1.bw)⟩, fun N hN j => ?_⟩
    · rw [setCell_row (setCell_row h1.blk _ _)]
      cases k <;> rfl
    · by_cases e : j = k
      · subst e
        rw [upk_same, upk_same, upk_same]
        exact (sd.d.mono9 h.bw).upd hu (fun i hi hf => by have := n1 i hf; omega)
      · rw [upk_other _ e, upk_other _ e, upk_other _ e]
        exact (h1.d j).upd hu (fun i hi hf => h.sf j i hf hi)
    · by_cases e : j = k
      · subst e
        rw [upk_same, upk_same, upk_same]
        exact (show RfS w1 w0.heap.size r1 G1 t from ⟨sd.r.st, sd.r.ok, sd.r.at_, fun i hi => ⟨Nat.le_trans h.bw (sd.r.fl i hi).1, (sd.r.fl i hi).2⟩, h1.bw⟩).upd hu (fun i hi hf => by have := n2 i hf; omega)
      · rw [upk_other _ e, upk_other _ e, upk_other _ e]
        exact (h1.r j).upd hu (fun i hi hf => h.sg j i hf hi)
    · rcases cF a i ha with h5 | ⟨e1, h5⟩ <;> rcases cF b i hb' with h6 | ⟨e2, h6⟩
      · exact h.ff a b hab i h5 h6
      · have := o1 a i h5; have := n1 i h6; omega
      · have := n1 i h5; have := o1 b i h6; omega
      · exact hab (e1.trans e2.symm)
    · rcases cG a i ha with h5 | ⟨e1, h5⟩ <;> rcases cG b i hb' with h6 | ⟨e2, h6⟩
      · exact h.gg a b hab i h5 h6
      · have := o2 a i h5; have := n2 i h6; omega
      · have := n2 i h5; have := o2 b i h6; omega
      · exact hab (e1.trans e2.symm)
    · rcases cF a i ha with h5 | ⟨e1, h5⟩ <;> rcases cG b i hb' with h6 | ⟨e2, h6⟩
      · exact h.fg a b i h5 h6
      · have := o1 a i h5; have := n2 i h6; omega
      · have := n1 i h5; have := o2 b i h6; omega
      · exact sd.dj i h5 h6
    · rcases cF j i hi with h5 | ⟨_, h5⟩
      · exact h.sf j i h5
      · have := n1 i h5; omega
    · rcases cG j i hi with h5 | ⟨_, h5⟩
      · exact h.sg j i h5
      · have := n2 i h5; omega
    · rcases cF j i hi with h5 | ⟨_, h5⟩
      · exact h.kf j i h5 hk
      · have := n1 i h5; have := hK i hk; omega
    · rcases cG j i hi with h5 | ⟨_, h5⟩
      · exact h.kg j i h5 hk
      · have := n2 i h5; have := hK i hk; omega
    · by_cases e : j = k
      · subst e; rw [upk_same, hwr]; exact Nat.zero_le _
      · rw [upk_other _ e]; exact hN j
set_option maxRecDepth 100000 in
set_option maxHeartbeats 8000000 in
theorem plays_calls {w0 w : World} {sb bb ab : Nat} {db rb : Bool → Nat} {F G : Bool → Nat → Prop} {s : Bool → DS} {K : Nat → Prop} {turn spent : Int} (h : Sta w0 w sb bb ab db rb F G s s K turn spent) (N : Nat) (hN : ∀ k, (s k).writes ≤ N) (hN2 : N ≤ 1000) (ht1 : 0 ≤ turn) (ht2 : turn ≤ 1000) (hs1 : 0 ≤ spent) (hs2 : spent ≤ 1000000000000000000) (o : O9) (ha : o.At w0) :
    Calls Tryz.prog 42 #[.pointer (some ⟨sb, 0, none⟩), .agg o.cells] w fun r w' => r = .returned (.bool true) ∧ PlP w0 w' sb bb ab K N turn spent := by
  obtain ⟨d, on, nm, tn, ba, b, bc, n, okp, fa, fl, fc⟩ := o
  obtain ⟨w1, hw1⟩ : ∃ q, w.alloc (.cells #[.int .i64 d, .int .i64 on, .string ⟨nm.toArray⟩, .string ⟨tn.toArray⟩, .slice ba b.length bc, .int .i64 n, .int .i64 okp, .slice fa fl.length fc] 36) = q := ⟨_, rfl⟩
  have b1 : Below w.heap.size w w1 := by rw [← hw1]; exact (Below.refl _ _).alloc (Nat.le_refl _) _
  have blk : w1.heap[w.heap.size]? = some (.cells #[.int .i64 d, .int .i64 on, .string ⟨nm.toArray⟩, .string ⟨tn.toArray⟩, .slice ba b.length bc, .int .i64 n, .int .i64 okp, .slice fa fl.length fc] 36 (0, 0)) := by rw [← hw1]; exact heap_alloc_new w _
  have S1 := Lib.hid (h.below b1)
  have AT := Lib.hid (ha.below (S1.out.bel))
  have K1 := Lib.hid blk
  obtain ⟨y0, y1, y2, y3, y4, y5, y6, y7⟩ := q9_of blk
  obtain ⟨p4, p7, p8, -, f8⟩ := S1.out.q7
  have SC := Lib.hid (fun (wx : World) (hx : Below w1.heap.size w1 wx) => size9b_calls d on n okp nm tn b ba fa bc fc fl wx (AT.out.fil.below hx) AT.out.bl AT.out.ll AT.out.fs)
  have H := Lib.hid h; have W1 := Lib.hid hw1; have HN := Lib.hid hN; have HA0 := Lib.hid ha
  clear h hw1 ha blk b1 hN
  show Calls Tryz.prog 42 #[.pointer (some ⟨sb, 0, none⟩), .agg #[.int .i64 d, .int .i64 on, .string ⟨nm.toArray⟩, .string ⟨tn.toArray⟩, .slice ba b.length bc, .int .i64 n, .int .i64 okp, .slice fa fl.length fc]] w _
  go_enter Tryz.func42, Tryz.ntmps42
  go_upto_region 2 with fail
  obtain ⟨k, hk⟩ := on_k on
  rw [hk, W1.out]
  have KB := Lib.hid (fun (wx : World) (hx : Below w1.heap.size w1 wx) => (hx.block _ (lt_of_block K1.out)).trans K1.out)
  go_cut [] (fun wx => ∃ (m : Nat), spent + (m : Int) ≤ spent + 300000000000000 ∧ b.length ≤ m ∧ (m ≤ 1048576 → fl.length ≤ 1048576 ∧ ∀ p ∈ fl, p.2.length ≤ 1048576) ∧ Sta w0 wx sb bb ab db rb F G s s K turn (spent + (m : Int)) ∧ wx.heap[w.heap.size]? = some (.cells #[.int .i64 d, .int .i64 on, .string ⟨nm.toArray⟩, .string ⟨tn.toArray⟩, .slice ba b.length bc, .int .i64 n, .int .i64 okp, .slice fa fl.length fc] 36 (0, 0)))
  case first =>
    go_region_with (first
      | (go_at_call 12; refine (SC.out _ (bel_drew (Below.refl _ _))).mono ?_; rintro r w2 ⟨m, rfl, hm1, hm2, b2, hm3⟩; have B2 := Lib.hid ((bel_drew (Below.refl w1.heap.size w1)).trans b2); have s2 := S1.out.below B2.out; obtain ⟨p4', p7', p8', -, f8'⟩ := s2.q7; obtain ⟨z0, z1, z2, z3, z4, z5, z6, z7⟩ := q9_of (KB.out _ B2.out); have S2 := Lib.hid s2; have HM3 := Lib.hid hm3; clear b2 s2 hm3))
    all_goals
      have ws : IntKind.i64.wrap (spent + (m : Int)) = spent + (m : Int) := IntWalk.i64_in _ (by omega)
      rw [ws]
      have SX := S2.out.count 8 (.int .i64 (spent + (m : Int))) turn (spent + (m : Int)) rfl
      have KX : (w2.setCell ⟨sb, 8, none⟩ (.int .i64 (spent + (m : Int)))).heap[w.heap.size]? = some (.cells #[.int .i64 d, .int .i64 on, .string ⟨nm.toArray⟩, .string ⟨tn.toArray⟩, .slice ba b.length bc, .int .i64 n, .int .i64 okp, .slice fa fl.length fc] 36 (0, 0)) :=
        (((Upd.refl (fun i => i = sb) w2).setCell (p := ⟨sb, 8, none⟩) (fun _ => rfl) _).block _ (lt_of_block (KB.out _ B2.out)) (fun e => by have := H.out.slt; omega)).trans (KB.out _ B2.out)
      go_wp2
      go_meet
      case rel => exact ⟨m, by omega, hm1, HM3.out, SX, KX⟩
  case rest =>
    obtain ⟨wA, rfl⟩ : ∃ q, q = wc := ⟨_, rfl⟩
    obtain ⟨m, hm0, hm1, hm3, hS, hK⟩ := hcut
    have S3 := Lib.hid hS
    have K3 := Lib.hid hK
    have HM3 := Lib.hid hm3
    obtain ⟨p4, p7, p8, -, -⟩ := hS.q7
    clear hS hK hm3 y0 y1 y2 y3 y4 y5 y6 y7 f8
    by_cases c1 : 1048576 < m + spent.toNat
    · have t1 : decide ((1048576 : Int) < spent + (m : Int)) = true := decide_eq_true (by omega)
      go_wp2
      go_ret
      exact ⟨rfl, db, rb, F, G, s, turn, spent + (m : Int), S3.out, fun k => Nat.le_succ_of_le (HN.out k), ht1, by omega, by omega, by omega⟩
    · have t1 : decide ((1048576 : Int) < spent + (m : Int)) = false := decide_eq_false (by omega)
      obtain ⟨fl9, fs9⟩ := HM3.out (by omega)
      have FS := Lib.hid fs9
      clear fs9 HM3
      have SP : 0 ≤ spent + (m : Int) ∧ spent + (m : Int) ≤ spent + 300000000000000 := ⟨by omega, by omega⟩
      have RET := Lib.hid (fun (wx : World) (db rb : Bool → Nat) (F G : Bool → Nat → Prop) (z : Bool → DS) (tu : Int) (hx : Sta w0 wx sb bb ab db rb F G z z K tu (spent + (m : Int))) (hz : ∀ k, (z k).writes ≤ N + 1) (htu : tu = turn ∨ tu = turn + 1) => show PlP w0 wx sb bb ab K N turn spent from ⟨db, rb, F, G, z, tu, spent + (m : Int), hx, hz, by omega, by omega, SP.1, SP.2⟩)
      go_upto_region 5 with fail
      go_cut [6] (fun v6 wx => v6 = .pointer (some ⟨db k, 0, none⟩) ∧ wA = wx)
      case first =>
        obtain ⟨q0, q1, q2, q3, -, -, -, -⟩ := S3.out.q
        cases k with
        | false =>
          simp only [kz, if_true, if_false, Bool.false_eq_true]
          go_wp2
          go_meet
          case rel => exact ⟨rfl, rfl⟩
        | true =>
          simp only [kz, if_true, if_false, Bool.false_eq_true]
          go_wp2
          go_meet
          case rel => exact ⟨rfl, rfl⟩
      case rest =>
        obtain ⟨rfl, rfl⟩ := hcut
        go_upto_region 6 with fail
        go_cut [7] (fun v6 wx => v6 = .pointer (some ⟨rb k, 0, none⟩) ∧ wA = wx)
        case first =>
          obtain ⟨q0, q1, q2, q3, -, -, -, -⟩ := S3.out.q
          cases k with
          | false =>
            simp only [kz, if_true, if_false, Bool.false_eq_true]
            go_wp2
            go_meet
            case rel => exact ⟨rfl, rfl⟩
          | true =>
            simp only [kz, if_true, if_false, Bool.false_eq_true]
            go_wp2
            go_meet
            case rel => exact ⟨rfl, rfl⟩
        case rest =>
          obtain ⟨rfl, rfl⟩ := hcut
          obtain ⟨y0, y1, y2, y3, y4, y5, y6, y7⟩ := q9_of K3.out
          have RNE := Lib.hid (show w.heap.size ≠ rb k from fun e => by have h8 := ((H.out.r k).fl _ (H.out.r k).at_).2; omega)
          by_cases e1 : d = 1
          · subst e1
            obtain ⟨e, t, CC, RCX, HW⟩ := S3.out.app9 k nm b ba bc AT.out.nl AT.out.cap AT.out.bl (by have := HN.out k; omega)
            have BLN : b.length ≤ 1048576 := by omega
            have BC := Lib.hid (bytes9s_calls S3.out ht1 (by omega) ba b bc (HA0.out.byt.below S3.out.bel) (fun ad e hne es => by
              have h9 := H.out.sl
              cases hb9 : b with
              | nil => exact hne hb9
              | cons x xs =>
                obtain ⟨b1, o1, h1, h2⟩ := HA0.out.byt 0 (by show 0 < b.length; rw [hb9]; exact Nat.succ_pos _)
                rw [show ba = some ad from e] at h1
                cases h1
                have h3 := World.block_lt_of_cell? w0 _ h2
                have h4 : b1 = sb := es
                have h5 : b1 < w0.heap.size := h3
                omega) (by omega))
            go_wp2_with fail
            refine BC.out.mono ?_
            rintro r w5 ⟨g, cap, rfl, hl5, s5, u5⟩
            have K5 := Lib.hid ((u5.block _ (lt_of_block K3.out) (fun e => by have := H.out.slt; omega)).trans K3.out)
            have L5 := Lib.hid hl5
            have S5 := Lib.hid s5
            have GLT := Lib.hid (show wA.heap.size ≤ g ∧ g < w5.heap.size from hl5.lt)
            have CC5 := Lib.hid (CC.out w5 (some ⟨g, 0, none⟩) cap (s5.d k) hl5.byt (by have := hl5.cap; omega))
            clear y0 y1 y2 y3 y4 y5 y6 y7 BC CC
            obtain ⟨y0, y1, y2, y3, y4, y5, y6, y7⟩ := q9_of K5.out
            clear hl5 s5 u5
            go_wp2_with fail
            refine CC5.out.mono ?_
            rintro r w6 ⟨rfl, st6⟩
            obtain ⟨F6, s6, c6⟩ := S5.out.stepD2 st6
            obtain ⟨_, _, u6, _, _⟩ := st6
            have FG : ∀ j, ¬ F j g := fun j hf => by have h8 := ((S3.out.d j).fl g hf).2; have := GLT.out.1; omega
            have L6 := Lib.hid (show Lnt w6.drew wA.heap.size g cap b from (L5.out.upd u6 (FG k)).below (bel_drew (Below.refl _ _)))
            have S6 := Lib.hid (s6.below (w' := w6.drew) (bel_drew (Below.refl _ _)))
            have K6 := Lib.hid (show w6.drew.heap[w.heap.size]? = _ from (u6.block _ (lt_of_block K5.out) (fun hf => by have h8 := ((H.out.d k).fl _ hf).2; omega)).trans K5.out)
            have S7X := Lib.hid (fun (wx : World) (hu : Upd (fun j => j = g) w6.drew wx) => show Sta w0 wx sb bb ab db rb (upk F k F6) G (upk s k t) s K (turn + 1) (spent + (m : Int)) from S6.out.upd hu (fun i hi => by
              subst hi
              have g1 := GLT.out
              have g2 := S3.out.slt
              have g3 := S3.out.bw
              refine ⟨by omega, by omega, fun j hf => ?_, fun j hf => ?_, fun hk => ?_⟩
              · rcases c6 j _ hf with h5 | ⟨_, h5⟩
                · exact FG j h5
                · omega
              · have := ((S3.out.r j).fl _ hf).2; omega
              · have := S3.out.klt _ hk; omega))
            have K7X := Lib.hid (fun (wx : World) (hu : Upd (fun j => j = g) w6.drew wx) => (hu.block _ (lt_of_block K6.out) (fun e => by have := GLT.out.1; have := S3.out.slt; have := lt_of_block K3.out; omega)).trans K6.out)
            have BK := Lib.hid (back9s_calls S6.out wA.heap.size g cap ba b bc L6.out (HA0.out.byt.below S6.out.bel) (by omega))
            have K8X := Lib.hid (fun (wx wy : World) (hb : wx.heap[w.heap.size]? = some (.cells #[.int .i64 1, .int .i64 on, .string ⟨nm.toArray⟩, .string ⟨tn.toArray⟩, .slice ba b.length bc, .int .i64 n, .int .i64 okp, .slice fa fl.length fc] 36 (0, 0))) (hu : Upd (fun i => i = rb k) wx wy) => (hu.block _ (lt_of_block hb) (fun hf => RNE.out hf)).trans hb)
            have BYX := Lib.hid (fun (wx : World) (hs : Sta w0 wx sb bb ab db rb (upk F k F6) G (upk s k t) s K (turn + 1) (spent + (m : Int))) => HA0.out.byt.below hs.bel)
            have te : (e == e) = true := by simp
            clear CC5 L5 u6 s6 c6 FG
            go_upto_region 11 with fail
            clear y0 y1 y2 y3 y4 y5 y6 y7
            obtain ⟨y0, y1, y2, y3, y4, y5, y6, y7⟩ := q9_of K6.out
            go_region_held3 (fun w' => w'.cell? ⟨w.heap.size, 2, none⟩ = some (.string ⟨nm.toArray⟩) ∧ w'.cell? ⟨w.heap.size, 4, none⟩ = some (.slice ba b.length bc))
              (first
                | go_keep)
              (first
                | (go_at_call 9; refine (num9_calls _ _).mono ?_; rintro r wx ⟨rfl, rfl⟩)
                | (go_at_call 62; (with_reducible refine BK.out.mono ?_); rintro r w7 ⟨rfl, u7⟩; have S7 := Lib.hid (S7X.out _ u7); have K7 := Lib.hid (K7X.out _ u7); obtain ⟨v0, v1, v2, v3, v4, v5, v6, v7⟩ := q9_of K7.out; clear u7)
                | (go_at_call 63; (with_reducible refine (RCX.out _ _ (S7.out.r k) (BYX.out _ S7.out)).mono ?_); rintro r w8 ⟨rfl, st8⟩; obtain ⟨G8, s8⟩ := S7.out.stepR st8; obtain ⟨_, _, u8, _, _⟩ := st8; have K8 := Lib.hid (K8X.out _ _ K7.out u8); obtain ⟨v0, v1, v2, v3, v4, v5, v6, v7⟩ := q9_of K8.out; have S8 := Lib.hid s8; clear s8 u8))
            all_goals
              have P8 := Lib.hid (RET.out _ _ _ _ _ _ _ S8.out (fun j => by
                by_cases e : j = k
                · subst e; rw [upk_same]; exact Nat.le_trans HW.out (Nat.succ_le_succ (HN.out j))
                · rw [upk_other _ e]; exact Nat.le_succ_of_le (HN.out j)) (.inr rfl))
              go_wp2
              go_ret
              exact ⟨by first | rfl | simp, P8.out⟩
          have s1 : (d == 1) = false := beq_eq_false_iff_ne.2 e1
          by_cases e2 : d = 2
          · subst e2
            obtain ⟨e, t, CC, RCX, HW⟩ := S3.out.cut9 k nm n AT.out.nl (by have := HN.out k; omega)
            clear e1
            go_upto_region 13 with fail
            clear y0 y1 y2 y3 y4 y5 y6 y7
            have S6 := Lib.hid (S3.out.below (w' := wA.drew) (bel_drew (Below.refl _ _)))
            have KB6 := Lib.hid (show wA.drew.heap[w.heap.size]? = _ from K3.out)
            obtain ⟨v0, v1, v2, v3, v4, v5, v6, v7⟩ := q9_of KB6.out
            have HOP := Lib.hid (show ∀ i, F k i → i ≠ w.heap.size from fun i hf => by have h8 := ((H.out.d k).fl i hf).2; omega)
            have te : (e == e) = true := by simp
            go_region_held3 (fun w' => w'.cell? ⟨w.heap.size, 2, none⟩ = some (.string ⟨nm.toArray⟩) ∧ w'.cell? ⟨w.heap.size, 5, none⟩ = some (.int .i64 n))
              (first
                | go_keep)
              (first
                | (go_at_call 9; refine (num9_calls _ _).mono ?_; rintro r wx ⟨rfl, rfl⟩)
                | (go_at_call 34; (with_reducible refine (CC.out _ (S6.out.d k)).mono ?_); rintro r w7 ⟨rfl, st7⟩; obtain ⟨F7, s7⟩ := S6.out.stepD st7; obtain ⟨_, _, u7, _, _⟩ := st7; have K7 := Lib.hid ((u7.block _ (lt_of_block KB6.out) (fun hf => HOP.out _ hf rfl)).trans KB6.out); obtain ⟨v0, v1, v2, v3, v4, v5, v6, v7⟩ := q9_of K7.out; have S7 := Lib.hid s7; clear s7 u7)
                | (go_at_call 64; (with_reducible refine (RCX.out _ _ (S7.out.r k)).mono ?_); rintro r w8 ⟨rfl, st8⟩; obtain ⟨G8, s8⟩ := S7.out.stepR st8; obtain ⟨_, _, u8, _, _⟩ := st8; have K8 := Lib.hid ((u8.block _ (lt_of_block K7.out) (fun hf => RNE.out hf)).trans K7.out); obtain ⟨v0, v1, v2, v3, v4, v5, v6, v7⟩ := q9_of K8.out; have S8 := Lib.hid s8; clear s8 u8))
            all_goals
              have P8 := Lib.hid (RET.out _ _ _ _ _ _ _ S8.out (fun j => by
                by_cases e : j = k
                · subst e; rw [upk_same]; exact Nat.le_trans HW.out (Nat.succ_le_succ (HN.out j))
                · rw [upk_other _ e]; exact Nat.le_succ_of_le (HN.out j)) (.inl rfl))
              go_wp2
              go_ret
              exact ⟨by first | rfl | simp, P8.out⟩
          have s2 : (d == 2) = false := beq_eq_false_iff_ne.2 e2
          by_cases e3 : d = 3
          · subst e3
            obtain ⟨e, t, CC, RCX, HW⟩ := S3.out.ren9 k nm tn AT.out.nl AT.out.tl (by have := HN.out k; omega)
            clear e1 e2
            go_upto_region 15 with fail
            clear y0 y1 y2 y3 y4 y5 y6 y7
            have S6 := Lib.hid (S3.out.below (w' := wA.drew) (bel_drew (Below.refl _ _)))
            have KB6 := Lib.hid (show wA.drew.heap[w.heap.size]? = _ from K3.out)
            obtain ⟨v0, v1, v2, v3, v4, v5, v6, v7⟩ := q9_of KB6.out
            have HOP := Lib.hid (show ∀ i, F k i → i ≠ w.heap.size from fun i hf => by have h8 := ((H.out.d k).fl i hf).2; omega)
            have te : (e == e) = true := by simp
            go_region_held3 (fun w' => w'.cell? ⟨w.heap.size, 2, none⟩ = some (.string ⟨nm.toArray⟩) ∧ w'.cell? ⟨w.heap.size, 3, none⟩ = some (.string ⟨tn.toArray⟩))
              (first
                | go_keep)
              (first
                | (go_at_call 9; refine (num9_calls _ _).mono ?_; rintro r wx ⟨rfl, rfl⟩)
                | (go_at_call 35; (with_reducible refine (CC.out _ (S6.out.d k)).mono ?_); rintro r w7 ⟨rfl, st7⟩; obtain ⟨F7, s7⟩ := S6.out.stepD st7; obtain ⟨_, _, u7, _, _⟩ := st7; have K7 := Lib.hid ((u7.block _ (lt_of_block KB6.out) (fun hf => HOP.out _ hf rfl)).trans KB6.out); obtain ⟨v0, v1, v2, v3, v4, v5, v6, v7⟩ := q9_of K7.out; have S7 := Lib.hid s7; clear s7 u7)
                | (go_at_call 65; (with_reducible refine (RCX.out _ _ (S7.out.r k)).mono ?_); rintro r w8 ⟨rfl, st8⟩; obtain ⟨G8, s8⟩ := S7.out.stepR st8; obtain ⟨_, _, u8, _, _⟩ := st8; have K8 := Lib.hid ((u8.block _ (lt_of_block K7.out) (fun hf => RNE.out hf)).trans K7.out); obtain ⟨v0, v1, v2, v3, v4, v5, v6, v7⟩ := q9_of K8.out; have S8 := Lib.hid s8; clear s8 u8))
            all_goals
              have P8 := Lib.hid (RET.out _ _ _ _ _ _ _ S8.out (fun j => by
                by_cases e : j = k
                · subst e; rw [upk_same]; exact Nat.le_trans HW.out (Nat.succ_le_succ (HN.out j))
                · rw [upk_other _ e]; exact Nat.le_succ_of_le (HN.out j)) (.inl rfl))
              go_wp2
              go_ret
              exact ⟨by first | rfl | simp, P8.out⟩
          have s3 : (d == 3) = false := beq_eq_false_iff_ne.2 e3
          by_cases e4 : d = 4
          · subst e4
            obtain ⟨e, t, CC, RCX, HW⟩ := S3.out.rem9 k nm AT.out.nl (by have := HN.out k; omega)
            clear e1 e2 e3
            go_upto_region 17 with fail
            clear y0 y1 y2 y3 y4 y5 y6 y7
            have S6 := Lib.hid (S3.out.below (w' := wA.drew) (bel_drew (Below.refl _ _)))
            have KB6 := Lib.hid (show wA.drew.heap[w.heap.size]? = _ from K3.out)
            obtain ⟨v0, v1, v2, v3, v4, v5, v6, v7⟩ := q9_of KB6.out
            have HOP := Lib.hid (show ∀ i, F k i → i ≠ w.heap.size from fun i hf => by have h8 := ((H.out.d k).fl i hf).2; omega)
            have te : (e == e) = true := by simp
            go_region_held3 (fun w' => w'.cell? ⟨w.heap.size, 2, none⟩ = some (.string ⟨nm.toArray⟩))
              (first
                | go_keep)
              (first
                | (go_at_call 9; refine (num9_calls _ _).mono ?_; rintro r wx ⟨rfl, rfl⟩)
                | (go_at_call 36; (with_reducible refine (CC.out _ (S6.out.d k)).mono ?_); rintro r w7 ⟨rfl, st7⟩; obtain ⟨F7, s7⟩ := S6.out.stepD st7; obtain ⟨_, _, u7, _, _⟩ := st7; have K7 := Lib.hid ((u7.block _ (lt_of_block KB6.out) (fun hf => HOP.out _ hf rfl)).trans KB6.out); obtain ⟨v0, v1, v2, v3, v4, v5, v6, v7⟩ := q9_of K7.out; have S7 := Lib.hid s7; clear s7 u7)
                | (go_at_call 66; (with_reducible refine (RCX.out _ _ (S7.out.r k)).mono ?_); rintro r w8 ⟨rfl, st8⟩; obtain ⟨G8, s8⟩ := S7.out.stepR st8; obtain ⟨_, _, u8, _, _⟩ := st8; have K8 := Lib.hid ((u8.block _ (lt_of_block K7.out) (fun hf => RNE.out hf)).trans K7.out); obtain ⟨v0, v1, v2, v3, v4, v5, v6, v7⟩ := q9_of K8.out; have S8 := Lib.hid s8; clear s8 u8))
            all_goals
              have P8 := Lib.hid (RET.out _ _ _ _ _ _ _ S8.out (fun j => by
                by_cases e : j = k
                · subst e; rw [upk_same]; exact Nat.le_trans HW.out (Nat.succ_le_succ (HN.out j))
                · rw [upk_other _ e]; exact Nat.le_succ_of_le (HN.out j)) (.inl rfl))
              go_wp2
              go_ret
              exact ⟨by first | rfl | simp, P8.out⟩
          have s4 : (d == 4) = false := beq_eq_false_iff_ne.2 e4
          by_cases e5 : d = 5
          · subst e5
            have RC := Lib.hid (read9_calls S3.out k nm AT.out.nl)
            clear e1 e2 e3 e4
            go_wp2_with fail
            refine RC.out.mono ?_
            rintro r w5 ⟨rfl, s5⟩
            have P5 := Lib.hid (RET.out _ _ _ _ _ _ _ s5 (fun k => Nat.le_succ_of_le (HN.out k)) (.inl rfl))
            clear s5 RC
            go_wp2
            go_ret
            exact ⟨rfl, P5.out⟩
          have s5 : (d == 5) = false := beq_eq_false_iff_ne.2 e5
          by_cases e6 : d = 6
          · subst e6
            have RC := Lib.hid (names9s_calls S3.out k)
            clear e1 e2 e3 e4 e5
            go_wp2_with fail
            refine RC.out.mono ?_
            rintro r w5 ⟨rfl, s5⟩
            have P5 := Lib.hid (RET.out _ _ _ _ _ _ _ s5 (fun k => Nat.le_succ_of_le (HN.out k)) (.inl rfl))
            clear s5 RC
            go_wp2
            go_ret
            exact ⟨rfl, P5.out⟩
          have s6 : (d == 6) = false := beq_eq_false_iff_ne.2 e6
          by_cases e7 : d = 7
          · subst e7
            have RC := Lib.hid (files9s_calls S3.out k)
            clear e1 e2 e3 e4 e5 e6
            go_wp2_with fail
            refine RC.out.mono ?_
            rintro r w5 ⟨rfl, F5, s5⟩
            have P5 := Lib.hid (RET.out _ _ _ _ _ _ _ s5 (fun k => Nat.le_succ_of_le (HN.out k)) (.inl rfl))
            clear s5 RC
            go_wp2
            go_ret
            exact ⟨rfl, P5.out⟩
          have s7 : (d == 7) = false := beq_eq_false_iff_ne.2 e7
          by_cases e8 : d = 8
          · subst e8
            have RC := Lib.hid ((S3.out.d k).arm n okp AT.out.nn.2)
            clear e1 e2 e3 e4 e5 e6 e7
            go_wp2_with fail
            refine RC.out.mono ?_
            rintro r w5 ⟨rfl, st5⟩
            obtain ⟨F5, s5⟩ := S3.out.stepD st5
            obtain ⟨_, _, u5, _, _⟩ := st5
            have K5 := (u5.block _ (lt_of_block K3.out) (fun hf => by have h8 := ((H.out.d k).fl _ hf).2; omega)).trans K3.out
            obtain ⟨v0, v1, v2, v3, v4, v5, v6, v7⟩ := q9_of K5
            have S5 := Lib.hid s5
            have RC2 := Lib.hid (Arm9_calls (s5.r k) n okp AT.out.nn.2)
            clear K5 u5 s5 RC y0 y1 y2 y3 y4 y5 y6 y7
            go_wp2_with fail
            refine RC2.out.mono ?_
            rintro r w6 ⟨rfl, st6⟩
            obtain ⟨G6, s6⟩ := S5.out.stepR st6
            have P5 := Lib.hid (RET.out _ _ _ _ _ _ _ s6 (fun j => by
              by_cases e : j = k
              · subst e; rw [upk_same]; exact Nat.le_succ_of_le (HN.out j)
              · rw [upk_other _ e]; exact Nat.le_succ_of_le (HN.out j)) (.inl rfl))
            clear st6 s6 RC2
            go_wp2
            go_ret
            exact ⟨rfl, P5.out⟩
          have s8 : (d == 8) = false := beq_eq_false_iff_ne.2 e8
          by_cases e9 : d = 9
          · subst e9
            have RC := Lib.hid ((S3.out.d k).on)
            clear e1 e2 e3 e4 e5 e6 e7 e8
            go_wp2_with fail
            refine RC.out.mono ?_
            rintro r w5 ⟨rfl, st5⟩
            obtain ⟨F5, s5⟩ := S3.out.stepD st5
            have S5 := Lib.hid s5
            have RC2 := Lib.hid (On9_calls (s5.r k))
            clear st5 s5 RC
            go_wp2_with fail
            refine RC2.out.mono ?_
            rintro r w6 ⟨rfl, st6⟩
            obtain ⟨G6, s6⟩ := S5.out.stepR st6
            have P5 := Lib.hid (RET.out _ _ _ _ _ _ _ s6 (fun j => by
              by_cases e : j = k
              · subst e; rw [upk_same]; exact Nat.le_succ_of_le (HN.out j)
              · rw [upk_other _ e]; exact Nat.le_succ_of_le (HN.out j)) (.inl rfl))
            clear st6 s6 RC2
            go_wp2
            go_ret
            exact ⟨rfl, P5.out⟩
          have s9 : (d == 9) = false := beq_eq_false_iff_ne.2 e9
          by_cases e10 : d = 10
          · subst e10
            have RC := Lib.hid (fresh_calls n sb _ _ _ _ bb ab turn (spent + (m : Int)) k wA S3.out.blk)
            clear e1 e2 e3 e4 e5 e6 e7 e8 e9
            go_wp2_with fail
            refine RC.out.mono ?_
            rintro r w5 ⟨rfl, hp5⟩
            obtain ⟨db', rb', F', G', z', s5, hz⟩ := S3.out.put hp5
            have P5 := Lib.hid (RET.out _ _ _ _ _ _ _ s5 (hz (N + 1) (fun k => Nat.le_succ_of_le (HN.out k))) (.inl rfl))
            clear s5 hz RC hp5
            go_wp2
            go_ret
            exact ⟨rfl, P5.out⟩
          have s10 : (d == 10) = false := beq_eq_false_iff_ne.2 e10
          by_cases e11 : d = 11
          · subst e11
            have RC := Lib.hid (load9s_calls n fl fa fc sb _ _ _ _ bb ab turn (spent + (m : Int)) k wA (HA0.out.below S3.out.bel).fil (by omega) (fun p hp => ⟨(HA0.out.fs p hp).1, by have := FS.out p hp; omega⟩) S3.out.blk)
            clear e1 e2 e3 e4 e5 e6 e7 e8 e9 e10
            go_wp2_with fail
            refine RC.out.mono ?_
            rintro r w5 ⟨rfl, hp5⟩
            obtain ⟨db', rb', F', G', z', s5, hz⟩ := S3.out.put hp5
            have P5 := Lib.hid (RET.out _ _ _ _ _ _ _ s5 (hz (N + 1) (fun k => Nat.le_succ_of_le (HN.out k))) (.inl rfl))
            clear s5 hz RC hp5
            go_wp2
            go_ret
            exact ⟨rfl, P5.out⟩
          have s11 : (d == 11) = false := beq_eq_false_iff_ne.2 e11
          by_cases e12 : d = 12
          · subst e12
            clear e1 e2 e3 e4 e5 e6 e7 e8 e9 e10 e11
            go_upto_region 35 with fail
            have S6 := Lib.hid (S3.out.below (w' := wA.drew) (bel_drew (Below.refl _ _)))
            have KB6 := Lib.hid (show wA.drew.heap[w.heap.size]? = _ from K3.out)
            have HX := Lib.hid (fun (kk : Bool) (C : Con) (cl : C.length ≤ 64) (cs : ∀ p ∈ C, p.1.length ≤ 140737488351232 ∧ p.2.length ≤ 268435456) (a : Option Addr) (c : Nat) (wx : World) (hf : Fil wx a C) (hb : Below wA.drew.heap.size wA.drew wx) => load9s_calls n C a c sb _ _ _ _ bb ab turn (spent + (m : Int)) kk wx hf (by omega) (fun p hp => ⟨(cs p hp).1, by have := (cs p hp).2; omega⟩) (S6.out.below hb).blk)
            have PX := Lib.hid (fun (kk : Bool) (wx w9 : World) (C : Con) (hb : Below wA.drew.heap.size wA.drew wx) (hp : PutP wx w9 sb kk n C) => show PlP w0 w9 sb bb ab K N turn spent from by
              obtain ⟨db', rb', F', G', z', s5, hz⟩ := (S6.out.below hb).put hp
              exact RET.out _ _ _ _ _ _ _ s5 (hz (N + 1) (fun k => Nat.le_succ_of_le (HN.out k))) (.inl rfl))
            have SNE := Lib.hid (show w.heap.size ≠ sb from fun e => by have := H.out.slt; omega)
            clear y0 y1 y2 y3 y4 y6 y7
            cases k with
            | false =>
              simp only [kz, if_true, if_false, Bool.false_eq_true]
              obtain ⟨C, cl, cs, fc9⟩ := S6.out.files9 true
              have FC := Lib.hid fc9; have CS := Lib.hid cs
              obtain ⟨q0, q1, q2, q3, -, -, -, -⟩ := S6.out.q
              have wk1 : IntKind.i64.wrap (1 - 0) = 1 := by decide
              have wk2 : IntKind.i64.wrap 1 = 1 := by decide
              have LX := Lib.hid (HX.out false C cl cs)
              have V5X := Lib.hid (fun (wx w9 : World) (C : Con) (hp : PutP wx w9 sb false n C) (h : wx.cell? ⟨w.heap.size, 5, none⟩ = some (.int .i64 n)) => PutP.cell hp (fun e => absurd e SNE.out) h)
              have Q3X := Lib.hid (fun (wx w9 : World) (C : Con) (hp : PutP wx w9 sb false n C) (h : wx.cell? ⟨sb, 3, none⟩ = some (.pointer (some ⟨rb true, 0, none⟩))) => PutP.cell hp (fun _ => ⟨by decide, by decide⟩) h)
              simp only [kz, if_false, Bool.false_eq_true] at LX
              clear fc9 cs q0 q1 q2
              go_region_held3 (fun w' => w'.cell? ⟨sb, 3, none⟩ = some (.pointer (some ⟨rb true, 0, none⟩)) ∧ w'.cell? ⟨w.heap.size, 5, none⟩ = some (.int .i64 n))
                (first
                  | go_keep)
                (first
                  | (go_at_call 72; (with_reducible refine FC.out.mono ?_); rintro r w7 ⟨a7, c7, rfl, hf7, hb7⟩; have HF7 := Lib.hid hf7; have HB7 := Lib.hid hb7; obtain ⟨v0, v1, v2, v3, v4, v5, v6, v7⟩ := q9_of ((hb7.block _ (lt_of_block KB6.out)).trans KB6.out); obtain ⟨_, _, _, q3, _, _, _, _⟩ := (S6.out.below hb7).q; clear hf7 hb7)
                  | (go_at_call 71; (with_reducible refine (LX.out a7 c7 w7 HF7.out HB7.out).mono ?_); rintro r w8 ⟨rfl, hp8⟩; have P8 := Lib.hid (PX.out _ _ _ _ HB7.out hp8); have v5' := V5X.out _ _ _ hp8 v5; have q3' := Q3X.out _ _ _ hp8 q3; clear hp8 q3 v0 v1 v2 v3 v4 v5 v6 v7))
              all_goals
                go_wp2
                go_ret
                exact ⟨by first | rfl | simp, P8.out⟩
            | true =>
              simp only [kz, if_true, if_false, Bool.false_eq_true]
              obtain ⟨C, cl, cs, fc9⟩ := S6.out.files9 false
              have FC := Lib.hid fc9; have CS := Lib.hid cs
              obtain ⟨q0, q1, q2, q3, -, -, -, -⟩ := S6.out.q
              have wk1 : IntKind.i64.wrap (1 - 1) = 0 := by decide
              have wk2 : IntKind.i64.wrap 0 = 0 := by decide
              have LX := Lib.hid (HX.out true C cl cs)
              have V5X := Lib.hid (fun (wx w9 : World) (C : Con) (hp : PutP wx w9 sb true n C) (h : wx.cell? ⟨w.heap.size, 5, none⟩ = some (.int .i64 n)) => PutP.cell hp (fun e => absurd e SNE.out) h)
              have Q3X := Lib.hid (fun (wx w9 : World) (C : Con) (hp : PutP wx w9 sb true n C) (h : wx.cell? ⟨sb, 2, none⟩ = some (.pointer (some ⟨rb false, 0, none⟩))) => PutP.cell hp (fun _ => ⟨by decide, by decide⟩) h)
              simp only [kz, if_true] at LX
              clear fc9 cs q0 q1 q3
              go_region_held3 (fun w' => w'.cell? ⟨sb, 2, none⟩ = some (.pointer (some ⟨rb false, 0, none⟩)) ∧ w'.cell? ⟨w.heap.size, 5, none⟩ = some (.int .i64 n))
                (first
                  | go_keep)
                (first
                  | (go_at_call 72; (with_reducible refine FC.out.mono ?_); rintro r w7 ⟨a7, c7, rfl, hf7, hb7⟩; have HF7 := Lib.hid hf7; have HB7 := Lib.hid hb7; obtain ⟨v0, v1, v2, v3, v4, v5, v6, v7⟩ := q9_of ((hb7.block _ (lt_of_block KB6.out)).trans KB6.out); obtain ⟨_, _, q2, _, _, _, _, _⟩ := (S6.out.below hb7).q; clear hf7 hb7)
                  | (go_at_call 71; (with_reducible refine (LX.out a7 c7 w7 HF7.out HB7.out).mono ?_); rintro r w8 ⟨rfl, hp8⟩; have P8 := Lib.hid (PX.out _ _ _ _ HB7.out hp8); have v5' := V5X.out _ _ _ hp8 v5; have q2' := Q3X.out _ _ _ hp8 q2; clear hp8 q2 v0 v1 v2 v3 v4 v5 v6 v7))
              all_goals
                go_wp2
                go_ret
                exact ⟨by first | rfl | simp, P8.out⟩
          have s12 : (d == 12) = false := beq_eq_false_iff_ne.2 e12
          have P5 := Lib.hid (RET.out _ _ _ _ _ _ _ S3.out (fun k => Nat.le_succ_of_le (HN.out k)) (.inl rfl))
          clear e1 e2 e3 e4 e5 e6 e7 e8 e9 e10 e11 e12
          go_wp2
          go_ret
          exact ⟨rfl, P5.out⟩
end Go.Proofs.YtcmllfnhdodbdaaGreatDoor
