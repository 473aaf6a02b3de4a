/- posternlaw10: WalExact, whole. -/
import Derived.Test.YtnbpkignkfabkaaGreatDoorWxT
import Derived.Test.YtnbpkignkfabkaaGreatDoorLendO
import Derived.Test.YtnbpkignkfabkaaGreatDoorZBook
import Derived.Test.YtnbpkignkfabkaaGreatDoorBox
import Derived.Test.YtnbpkignkfabkaaGreatDoorBookNew
import Derived.Test.YtnbpkignkfabkaaGreatDoorRefN
/- posternlaw10: the stage plays a step. -/
namespace Go.Proofs.YtnbpkignkfabkaaGreatDoor
set_option linter.unusedVariables false
set_option linter.unusedSimpArgs false
open Go.RowKit Go.Maps
theorem on_k10 (x : Int) : ∃ k, bits BinOp.and IntKind.i64 x 1 = kz10 k := by
  have h : (BitVec.ofInt 64 x &&& BitVec.ofInt 64 1).toNat < 2 := by
    rw [BitVec.toNat_and, show (BitVec.ofInt 64 1).toNat = 1 by decide, Nat.and_one_is_mod]
    omega
  show ∃ k, IntKind.i64.wrap ((BitVec.ofInt 64 x &&& BitVec.ofInt 64 1).toNat : Int) = kz10 k
  generalize (BitVec.ofInt 64 x &&& BitVec.ofInt 64 1).toNat = m at h
  rcases Nat.lt_or_ge m 1 with h1 | h1
  · obtain rfl : m = 0 := by omega
    exact ⟨false, by decide⟩
  · obtain rfl : m = 1 := by omega
    exact ⟨true, by decide⟩
theorem walA_le (s : DS) (nm : List UInt8) (n : Nat) (off : Bool) (b : List UInt8) (hb : b.length ≤ 524288) : (walA s nm n off b).2.1 ≤ n + 300000000 ∧ (walA s nm n off b).2.2.2.writes ≤ s.writes + 1 := by
  unfold walA
  split
  · exact ⟨by show n ≤ _; omega, Nat.le_succ _⟩
  · split
    · exact ⟨by show n ≤ _; omega, Nat.le_succ _⟩
    · split
      · exact ⟨by show n ≤ _; omega, append_w _ _ _⟩
      · exact ⟨by show n + (b.length + 13) ≤ _; omega, append_w _ _ _⟩
theorem lt_of_blk {w w1 : World} {i : Nat} (h : w.heap[i]? = w1.heap[i]?) (hl : i < w1.heap.size) : i < w.heap.size := by
  rw [Array.getElem?_eq_getElem hl] at h
  exact (Array.getElem?_eq_some_iff.1 h).1
section
variable {w0 w w' : World} {sb db rb tb bb : Nat} {lb mb : Nat → Option Nat} {F G : Nat → Prop} {s z t : DS} {K : Nat → Prop} {n : Nat} {st su : Nat → Nat × Bool}
theorem Wx.upd {S : Nat → Prop} (h : Wx w0 w sb db rb tb bb lb mb F G s z K n st su) (hu : Upd S w w') (hs : ∀ i, S i → w0.heap.size ≤ i ∧ i ≠ sb ∧ ¬ F i ∧ ¬ G i ∧ ¬ K i ∧ (∀ j, lb j ≠ some i) ∧ ∀ j, mb j ≠ some i) : Wx w0 w' sb db rb tb bb lb mb F G s z K n st su :=
  ⟨(hu.block _ h.slt (fun e => (hs _ e).2.1 rfl)).trans h.blk, h.d.upd hu (fun i hi hf => (hs i hi).2.2.1 hf), h.r.upd hu (fun i hi => (hs i hi).2.2.2.1), fun j b hj => ⟨(h.lg j b hj).1.upd hu (fun hi => (hs b hi).2.2.2.2.2.1 j hj), (h.lg j b hj).2⟩, fun j b hj => ⟨(h.mg j b hj).1.upd hu (fun hi => (hs b hi).2.2.2.2.2.2 j hj), (h.mg j b hj).2⟩, h.fg, h.fk, h.gk, h.sf, h.sg, h.sk, h.sl, h.lk.upd hu (fun i hi => (hs i hi).2.2.2.2.1), h.bel.trans (hu.below (fun i hi _ => (hs i hi).1) h.bw)⟩
theorem WxQ.mono {N M : Nat} (h : WxQ w0 w sb db rb tb bb N) (hm : N ≤ M) : WxQ w0 w sb db rb tb bb M := by
  obtain ⟨lb, mb, F, G, s, K, st, h1, h2, h3, h4⟩ := h
  exact ⟨lb, mb, F, G, s, K, st, h1, h2, Nat.le_trans h3 hm, fun j => Nat.le_trans (h4 j) (by omega)⟩
theorem Wx.q (h : Wx w0 w sb db rb tb bb lb mb F G s s K 7 st st) (hr : Rest lb mb) {N : Nat} (hN : s.writes ≤ N) (hst : ∀ j, (st j).1 ≤ 300000000 * (N + 1)) : WxQ w0 w sb db rb tb bb N := ⟨lb, mb, F, G, s, K, st, h, hr, hN, hst⟩
theorem Wx.cell2 (h : Wx w0 w sb db rb tb bb lb mb F G s z K n st su) (k : Bool) : w.cell? ⟨sb, 2 + kn10 k, none⟩ = some (optp (lb (kn10 k))) ∧ w.cell? ⟨sb, 4 + kn10 k, none⟩ = some (optp (mb (kn10 k))) := by
  obtain ⟨-, -, c2, c3, c4, c5, -, -⟩ := h.cells
  cases k
  · exact ⟨c2, c4⟩
  · exact ⟨c3, c5⟩
end
set_option maxRecDepth 100000 in
set_option maxHeartbeats 8000000 in
theorem plays10_calls {w0 w : World} {sb db rb tb bb : Nat} {lb mb : Nat → Option Nat} {F G : Nat → Prop} {s : DS} {K : Nat → Prop} {st : Nat → Nat × Bool} (h : Wx w0 w sb db rb tb bb lb mb F G s s K 7 st st) (hr : Rest lb mb) (N : Nat) (hN : s.writes ≤ N) (hN2 : N ≤ 900000) (hst : ∀ j, (st j).1 ≤ 300000000 * (N + 1)) (ht : Tab w0) (hg : 0 < w0.heap.size)
    (d on n kp : Int) (ba : Option Addr) (b : List UInt8) (bc : Nat) (hy : Byt w0 ba b) (hc : b.length ≤ bc) (hb : b.length ≤ 524288) (hn1 : -9223372036854775808 ≤ n) (hn2 : n ≤ 9223372036854775807) :
    Calls Tryz.prog 10 #[.pointer (some ⟨sb, 0, none⟩), .agg #[.int .i64 d, .int .i64 on, .slice ba b.length bc, .int .i64 n, .int .i64 kp]] w fun r w' => r = .returned (.bool true) ∧ WxQ w0 w' sb db rb tb bb (N + 3) := by
  obtain ⟨k, hk⟩ := on_k10 on
  obtain ⟨w1, hw1⟩ : ∃ q, w.alloc (.cells #[.int .i64 d, .int .i64 on, .slice ba b.length bc, .int .i64 n, .int .i64 kp] 76) = q := ⟨_, rfl⟩
  have b1 : Below w.heap.size w w1 := by rw [← hw1]; exact (Below.refl _ _).alloc (Nat.le_refl _) _
  have blk : w1.heap[w.heap.size]? = some (.cells #[.int .i64 d, .int .i64 on, .slice ba b.length bc, .int .i64 n, .int .i64 kp] 76 (0, 0)) := by rw [← hw1]; exact heap_alloc_new w _
  have KB := Lib.hid (fun (wx : World) (hx : wx.heap[w.heap.size]? = w1.heap[w.heap.size]?) => show wx.cell? ⟨w.heap.size, 0, none⟩ = some (.int .i64 d) ∧ wx.cell? ⟨w.heap.size, 1, none⟩ = some (.int .i64 on) ∧ wx.cell? ⟨w.heap.size, 2, none⟩ = some (.slice ba b.length bc) ∧ wx.cell? ⟨w.heap.size, 3, none⟩ = some (.int .i64 n) ∧ wx.cell? ⟨w.heap.size, 4, none⟩ = some (.int .i64 kp) from by
    have h9 := hx.trans blk
    exact ⟨by rw [cell_of_row' h9]; rfl, by rw [cell_of_row' h9]; rfl, by rw [cell_of_row' h9]; rfl, by rw [cell_of_row' h9]; rfl, by rw [cell_of_row' h9]; rfl⟩)
  have LTB := Lib.hid (lt_of_block blk)
  have H := Lib.hid h; have RS := Lib.hid hr; have HST := Lib.hid hst; have TB := Lib.hid ht; have HG := Lib.hid hg; have HY := Lib.hid hy
  have NML : (nm10 (kn10 k)).length ≤ 140737488351232 := by cases k <;> decide
  have W1 := Lib.hid hw1; have B1 := Lib.hid b1
  have X1 := Lib.hid (h.below b1)
  have RET := Lib.hid (fun (wx : World) (hx : WxQ w0 wx sb db rb tb bb N) => hx.mono (show N ≤ N + 3 by omega))
  obtain ⟨y0, y1, y2, y3, y4⟩ := KB.out w1 rfl
  have hk0 : (0 : Int) ≤ kz10 k := by cases k <;> decide
  have hk1 : kz10 k < 2 := by cases k <;> decide
  have HK2 : Hid ((kz10 k).toNat = kn10 k) := by cases k <;> rfl
  have HKON := Lib.hid hk
  have KLT := Lib.hid (show kn10 k < 2 from by cases k <;> decide)
  clear h hr hst ht hg hy hw1 b1 blk hk
  go_enter Tryz.func10, Tryz.ntmps10
  go_upto_region 2 with fail
  rw [W1.out]
  rw [HKON.out]
  by_cases d1 : d = 1
  · subst d1
    go_upto_region 4 with fail
    obtain ⟨z2, z4⟩ := X1.out.cell2 k
    have hk2 := HK2.out
    go_cut [22] (fun v wx => v = .bool (lb (kn10 k)).isNone ∧ w1 = wx)
    case first =>
      cases hl : lb (kn10 k) with
      | none =>
        rw [hl] at z2
        have z2' : w1.cell? ⟨sb, 2 + kn10 k, none⟩ = some (.pointer none) := z2
        clear z2
        go_wp2
        go_meet
        case rel => exact ⟨by rw [hl]; rfl, rfl⟩
      | some lbk =>
        rw [hl] at z2
        have z2' : w1.cell? ⟨sb, 2 + kn10 k, none⟩ = some (.pointer (some ⟨lbk, 0, none⟩)) := z2
        clear z2
        go_wp2
        go_meet
        case rel => exact ⟨by rw [hl]; rfl, rfl⟩
    case rest =>
      obtain ⟨rfl, rfl⟩ := hcut
      cases hl : lb (kn10 k) with
      | none =>
        have Q9 := Lib.hid (RET.out _ (X1.out.q RS.out hN HST.out))
        simp only [Option.isNone_none]
        go_wp2
        go_ret
        exact ⟨rfl, Q9.out⟩
      | some lbk =>
        simp only [Option.isNone_some]
        obtain ⟨c, hc2⟩ : ∃ c, mb (kn10 k) = some c := by
          cases hm : mb (kn10 k) with
          | none => rw [(RS.out.2 (kn10 k)).2 hm] at hl; cases hl
          | some c => exact ⟨c, rfl⟩
        have HL := Lib.hid hl; have HC2 := Lib.hid hc2
        have LC := Lib.hid (Lend_calls ba bc b w1 (HY.out.below X1.out.bel) (by omega))
        clear hl hc2 z2 z4 y0 y1 y3 y4
        go_wp2_with fail
        refine LC.out.mono ?_
        rintro r w2 ⟨g, cap, rfl, hl2, hb2⟩
        have X2 := Lib.hid (X1.out.below hb2)
        have L2 := Lib.hid hl2; have B2 := Lib.hid hb2
        have GB := Lib.hid hl2.lt
        obtain ⟨z2, -⟩ := X2.out.cell2 k
        rw [HL.out] at z2
        have z2' : w2.cell? ⟨sb, 2 + kn10 k, none⟩ = some (.pointer (some ⟨lbk, 0, none⟩)) := z2
        obtain ⟨p1, p2, p3, p4, p5⟩ := X2.out.lg (kn10 k) lbk HL.out
        have WL := Lib.hid (walA_le s (nm10 (kn10 k)) (st (kn10 k)).1 (st (kn10 k)).2 b hb)
        have AC := Lib.hid ((WalAppend_s b (some ⟨g, 0, none⟩) cap X2.out.d p1 p2 p3 (TB.out.below X2.out.bel) HG.out L2.out.byt (by omega) NML (by omega) (by have := HST.out (kn10 k); omega)).mono (fun r w' hr => X2.out.stepL KLT.out HL.out (fun i hi => (RS.out.1 i hi).1) hr))
        obtain ⟨⟨e, n', off', t⟩, hq⟩ : ∃ q, walA s (nm10 (kn10 k)) (st (kn10 k)).1 (st (kn10 k)).2 b = q := ⟨_, rfl⟩
        rw [hq] at AC WL
        have HQ := Lib.hid hq
        clear hl2 hb2 LC hq z2 p1 p2 p3 p4 p5
        go_wp2_with fail
        refine AC.out.mono ?_
        rintro r w3 ⟨rfl, F3, hx3, hf3, hu3⟩
        have X3 := Lib.hid hx3; have F3H := Lib.hid hf3
        have GNF : Hid (¬ (F g ∨ g = lbk)) := fun hh => by
          have h9 := GB.out.1
          rcases hh with hh | hh
          · have := (X1.out.d.fl g hh).2; omega
          · have := (X1.out.lg _ _ HL.out).1.lt; omega
        have L3 := Lib.hid (L2.out.upd hu3 GNF.out)
        have Y3 := Lib.hid (HY.out.below X3.out.bel)
        have BK3 : w3.heap[w.heap.size]? = w1.heap[w.heap.size]? := by
          refine (hu3.block _ (Nat.lt_of_lt_of_le LTB.out B2.out.size) (fun hh => ?_)).trans (B2.out.block _ LTB.out)
          rcases hh with hh | hh
          · have := (H.out.d.fl _ hh).2; omega
          · have := (H.out.lg _ _ HL.out).1.lt; omega
        have BKH := Lib.hid BK3
        obtain ⟨-, -, y2, -, -⟩ := KB.out w3 BK3
        have IC := Lib.hid (Intact_calls w1.heap.size g cap b ba bc w3 L3.out Y3.out (by omega))
        clear hx3 hf3 hu3 AC z2' BK3
        go_wp2_with fail
        refine IC.out.mono ?_
        rintro r w4 ⟨m4, rfl, rfl⟩
        have L4 : Hid (Lnt (w3.drewN m4) w1.heap.size g cap b) := Own.below L3.out (bel_drewN (Below.refl _ _) m4)
        have X4 := Lib.hid (X3.out.below (bel_drewN (Below.refl w3.heap.size w3) m4))
        have OC := Lib.hid (OverL_calls w1.heap.size g cap b (w3.drewN m4) L4.out (by omega))
        clear IC
        go_wp2_with fail
        refine OC.out.mono ?_
        rintro r w5 ⟨rfl, hu5⟩
        have X5 := Lib.hid (X4.out.upd hu5 (fun i hi => by
          subst hi
          have g1 := GB.out
          have g2 := X1.out.slt
          have g3 := X1.out.bw
          refine ⟨by omega, by omega, fun hf => ?_, fun hh => ?_, fun hh => ?_, fun j hj => ?_, fun j hj => ?_⟩
          · rcases F3H.out _ hf with h9 | h9
            · exact GNF.out (.inl h9)
            · omega
          · have := (X1.out.r.fl _ hh).2; omega
          · have := (X1.out.lk.kl _ hh).2; omega
          · have := (X1.out.lg j _ hj).1.lt; omega
          · have := (X1.out.mg j _ hj).1.lt; omega))
        have X6 := Lib.hid (X5.out.below (w' := w5.drew) (bel_drew (Below.refl _ _)))
        have BK5 : w5.heap[w.heap.size]? = w1.heap[w.heap.size]? := (hu5.block _ (by show _ < w3.heap.size; have := lt_of_blk BKH.out LTB.out; omega) (fun hh => by have := GB.out.1; have := LTB.out; omega)).trans BKH.out
        obtain ⟨-, -, y2, -, -⟩ := KB.out w5.drew BK5
        obtain ⟨-, z4⟩ := X6.out.cell2 k
        rw [HC2.out] at z4
        have z4' : w5.drew.cell? ⟨sb, 4 + kn10 k, none⟩ = some (.pointer (some ⟨c, 0, none⟩)) := z4
        have te : (e == e) = true := by simp
        obtain ⟨p1, p2, p3, p4, p5⟩ := X6.out.mg (kn10 k) c HC2.out
        have MC := Lib.hid ((RfWal_calls X6.out.r p1 p2 p4 b ba bc (HY.out.below X6.out.bel) (by omega) NML (by omega) (by have := HST.out (kn10 k); omega)).mono (fun r w' hr => show r = .returned (.int .i64 e) ∧ ∃ G', Wx w0 w' sb db rb tb bb lb mb F3 G' t t K 7 (fun i => if i = kn10 k then (n', off') else st i) (fun i => if i = kn10 k then (n', off') else st i) ∧ w'.cell? ⟨sb, 4 + kn10 k, none⟩ = some (.pointer (some ⟨c, 0, none⟩)) ∧ w'.cell? ⟨w.heap.size, 2, none⟩ = some (.slice ba b.length bc) from by
          rw [HQ.out] at hr
          have hr' := hr
          obtain ⟨_, _, _, _, hu9, _, _, _⟩ := hr'
          obtain ⟨h1, G', h2⟩ := X6.out.stepM KLT.out HC2.out (fun i hi => (RS.out.1 i hi).2) hr
          refine ⟨h1, G', h2, ?_, ?_⟩
          · have h9 := (h2.cell2 k).2
            rw [HC2.out] at h9
            exact h9
          · refine (KB.out w' ((hu9.block _ (by have h9 := lt_of_blk (BK5 : w5.drew.heap[w.heap.size]? = _) LTB.out; exact h9) (fun hh => ?_)).trans BK5)).2.2.1
            rcases hh with hh | hh
            · have h8 := (H.out.r.fl _ H.out.r.at_).2; omega
            · have h8 := (H.out.mg _ _ HC2.out).1.lt; omega))
        have QF := Lib.hid (fun (wx : World) (G' : Nat → Prop) (hx : Wx w0 wx sb db rb tb bb lb mb F3 G' t t K 7 (fun i => if i = kn10 k then (n', off') else st i) (fun i => if i = kn10 k then (n', off') else st i)) => show WxQ w0 wx sb db rb tb bb (N + 3) from
          hx.q RS.out (by have h9 : t.writes ≤ s.writes + 1 := WL.out.2; omega) (fun j => by
            show (if j = kn10 k then (n', off') else st j).1 ≤ _
            split
            · have h9 : n' ≤ (st (kn10 k)).1 + 300000000 := WL.out.1
              have := HST.out (kn10 k)
              show n' ≤ _
              omega
            · have := HST.out j; omega))
        have hk2 := HK2.out
        clear hu5 OC p1 p2 p3 p4 p5 z4
        go_upto_region 10 with fail
        go_region_held3 (fun w' => w'.cell? ⟨sb, 4 + kn10 k, none⟩ = some (.pointer (some ⟨c, 0, none⟩)) ∧ w'.cell? ⟨w.heap.size, 2, none⟩ = some (.slice ba b.length bc))
          (first
            | go_keep)
          (first
            | (go_at_call 7; (with_reducible refine (num10_calls _ _).mono ?_); rintro r wx ⟨rfl, rfl⟩)
            | (go_at_call 28; (with_reducible refine MC.out.mono ?_); rintro r w7 ⟨rfl, G7, hx7, hc7, hc8⟩; have Q7 := Lib.hid (QF.out _ _ hx7); clear hx7))
        all_goals
          go_wp2
          go_ret
          exact ⟨by first | rfl | simp, Q7.out⟩
  have t1 : (d == 1) = false := beq_eq_false_iff_ne.2 d1
  by_cases d2 : d = 2
  · subst d2
    clear d1
    have AX := Lib.hid (X1.out.below (w' := w1.drew) (bel_drew (Below.refl _ _)))
    obtain ⟨c0, -, -, -, -, -, -, -⟩ := AX.out.cells
    have BD := Lib.hid (show w1.drew.heap[w.heap.size]? = w1.heap[w.heap.size]? from rfl)
    obtain ⟨-, -, -, y3, y4⟩ := KB.out w1.drew BD.out
    have AC := Lib.hid (AX.out.d.arm n kp hn2)
    have CX := Lib.hid (fun (wx : World) (F' : Nat → Prop) (hx : Wx w0 wx sb db rb tb bb lb mb F' G (s.arm n kp) s K 7 st st) (hu : Upd F w1.drew wx) => show (wx.cell? ⟨w.heap.size, 3, none⟩ = some (.int .i64 n) ∧ wx.cell? ⟨w.heap.size, 4, none⟩ = some (.int .i64 kp)) ∧ wx.heap[w.heap.size]? = w1.heap[w.heap.size]? from by
      have h9 : wx.heap[w.heap.size]? = w1.heap[w.heap.size]? := (hu.block _ LTB.out (fun hf => by have := (H.out.d.fl _ hf).2; omega)).trans BD.out
      exact ⟨⟨(KB.out wx h9).2.2.2.1, (KB.out wx h9).2.2.2.2⟩, h9⟩)
    go_upto_region 12 with fail
    clear y0 y1 y2
    go_region_held3 (fun w' => w'.cell? ⟨sb, 0, none⟩ = some (.pointer (some ⟨db, 0, none⟩)) ∧ w'.cell? ⟨w.heap.size, 3, none⟩ = some (.int .i64 n) ∧ w'.cell? ⟨w.heap.size, 4, none⟩ = some (.int .i64 kp))
      (first
        | go_keep)
      (first
        | (go_at_call 18; (with_reducible refine AC.out.mono ?_); rintro r w2 ⟨rfl, s2⟩; obtain ⟨F2, x2, -⟩ := AX.out.stepD s2; obtain ⟨_, _, u2, _, _⟩ := s2; obtain ⟨⟨y3, y4⟩, bk2⟩ := CX.out _ _ x2 u2; have X2 := Lib.hid x2; have BK2 := Lib.hid bk2; obtain ⟨c0, -, -, -, -, -, -, -⟩ := x2.cells; clear x2 u2 bk2))
    have X3 := Lib.hid (X2.out.below (w' := w2.drew) (bel_drew (Below.refl _ _)))
    obtain ⟨-, c1, -, -, -, -, -, -⟩ := X3.out.cells
    obtain ⟨-, -, -, y3, y4⟩ := KB.out w2.drew BK2.out
    have RC := Lib.hid (Arm9_calls X3.out.r n kp hn2)
    have CY := Lib.hid (fun (wx : World) (hu : Upd (fun i => i = rb) w2.drew wx) => show wx.cell? ⟨w.heap.size, 3, none⟩ = some (.int .i64 n) ∧ wx.cell? ⟨w.heap.size, 4, none⟩ = some (.int .i64 kp) from by
      have h9 : wx.heap[w.heap.size]? = w1.heap[w.heap.size]? := (hu.block _ (lt_of_blk BK2.out LTB.out) (fun hf => by have := (H.out.r.fl _ H.out.r.at_).2; omega)).trans BK2.out
      exact ⟨(KB.out wx h9).2.2.2.1, (KB.out wx h9).2.2.2.2⟩)
    clear AC CX AX c0
    go_upto_region 13 with fail
    go_region_held3 (fun w' => w'.cell? ⟨sb, 1, none⟩ = some (.pointer (some ⟨rb, 0, none⟩)) ∧ w'.cell? ⟨w.heap.size, 3, none⟩ = some (.int .i64 n) ∧ w'.cell? ⟨w.heap.size, 4, none⟩ = some (.int .i64 kp))
      (first
        | go_keep)
      (first
        | (go_at_call 29; (with_reducible refine RC.out.mono ?_); rintro r w4 ⟨rfl, s4⟩; obtain ⟨G4, x4, -⟩ := X3.out.stepR s4; obtain ⟨_, _, u4, _, _⟩ := s4; obtain ⟨y3, y4⟩ := CY.out _ u4; have X4 := Lib.hid x4; obtain ⟨-, c1, -, -, -, -, -, -⟩ := x4.cells; clear x4 u4))
    all_goals
      have Q4 := Lib.hid (RET.out _ (X4.out.q RS.out hN HST.out))
      go_wp2
      go_ret
      exact ⟨rfl, Q4.out⟩
  have t2 : (d == 2) = false := beq_eq_false_iff_ne.2 d2
  by_cases d3 : d = 3
  · subst d3
    clear d1 d2
    obtain ⟨c0, -, -, -, -, -, -, -⟩ := X1.out.cells
    have AC := Lib.hid (X1.out.d.on)
    go_wp2_with fail
    refine AC.out.mono ?_
    rintro r w2 ⟨rfl, s2⟩
    obtain ⟨F2, x2, -⟩ := X1.out.stepD s2
    have X2 := Lib.hid x2
    obtain ⟨-, c1, -, -, -, -, -, -⟩ := x2.cells
    have RC := Lib.hid (On9_calls x2.r)
    clear x2 s2 AC c0
    go_wp2_with fail
    refine RC.out.mono ?_
    rintro r w3 ⟨rfl, s3⟩
    obtain ⟨G3, x3, -⟩ := X2.out.stepR s3
    have Q3 := Lib.hid (RET.out _ (x3.q RS.out hN HST.out))
    clear x3 s3 RC c1
    go_wp2
    go_ret
    exact ⟨rfl, Q3.out⟩
  have t3 : (d == 3) = false := beq_eq_false_iff_ne.2 d3
  by_cases d4 : d = 4
  · subst d4
    have OPC := Lib.hid (open10_calls X1.out RS.out k N hN (by omega) HST.out TB.out HG.out)
    clear d1 d2 d3
    go_wp2_with fail
    refine OPC.out.mono ?_
    rintro r w8 ⟨rfl, hq8⟩
    have Q8 := Lib.hid (hq8.mono (show N + 1 ≤ N + 3 by omega))
    clear hq8 OPC
    go_wp2
    go_ret
    exact ⟨by first | rfl | simp, Q8.out⟩
  have t4 : (d == 4) = false := beq_eq_false_iff_ne.2 d4
  have PC := Lib.hid (past10_calls X1.out RS.out k N hN hN2 HST.out TB.out HG.out d on n kp ba b bc HY.out hc hb hn1 hn2)
  by_cases d5 : d = 5
  · subst d5
    clear d1 d2 d3 d4
    go_wp2_with fail
    refine PC.out.mono ?_
    rintro r w8 ⟨rfl, hq8⟩
    have Q8 := Lib.hid hq8
    clear hq8 PC
    go_wp2
    go_ret
    exact ⟨by first | rfl | simp, Q8.out⟩
  have t5 : (d == 5) = false := beq_eq_false_iff_ne.2 d5
  by_cases d6 : d = 6
  · subst d6
    clear d1 d2 d3 d4 d5
    go_wp2_with fail
    refine PC.out.mono ?_
    rintro r w8 ⟨rfl, hq8⟩
    have Q8 := Lib.hid hq8
    clear hq8 PC
    go_wp2
    go_ret
    exact ⟨by first | rfl | simp, Q8.out⟩
  have t6 : (d == 6) = false := beq_eq_false_iff_ne.2 d6
  by_cases d7 : d = 7
  · subst d7
    clear d1 d2 d3 d4 d5 d6
    go_wp2_with fail
    refine PC.out.mono ?_
    rintro r w8 ⟨rfl, hq8⟩
    have Q8 := Lib.hid hq8
    clear hq8 PC
    go_wp2
    go_ret
    exact ⟨by first | rfl | simp, Q8.out⟩
  have t7 : (d == 7) = false := beq_eq_false_iff_ne.2 d7
  by_cases d8 : d = 8
  · subst d8
    clear d1 d2 d3 d4 d5 d6 d7
    go_wp2_with fail
    refine PC.out.mono ?_
    rintro r w8 ⟨rfl, hq8⟩
    have Q8 := Lib.hid hq8
    clear hq8 PC
    go_wp2
    go_ret
    exact ⟨by first | rfl | simp, Q8.out⟩
  have t8 : (d == 8) = false := beq_eq_false_iff_ne.2 d8
  have Q9 := Lib.hid (RET.out _ (X1.out.q RS.out hN HST.out))
  clear d1 d2 d3 d4 d5 d6 d7 d8 PC
  go_wp2
  go_ret
  exact ⟨rfl, Q9.out⟩
end Go.Proofs.YtnbpkignkfabkaaGreatDoor
namespace Go.Proofs.YtnbpkignkfabkaaGreatDoor
set_option linter.unusedVariables false
set_option linter.unusedSimpArgs false
open Go.RowKit Go.Maps
structure O10 where
  d : Int
  on : Int
  ba : Option Addr
  b : List UInt8
  bc : Nat
  n : Int
  kp : Int
def O10.cells (o : O10) : Array Value := #[.int .i64 o.d, .int .i64 o.on, .slice o.ba o.b.length o.bc, .int .i64 o.n, .int .i64 o.kp]
structure O10.At (w : World) (o : O10) : Prop where
  byt : Byt w o.ba o.b
  cap : o.b.length ≤ o.bc
  bl : o.b.length ≤ 140737488351232
  nn : -9223372036854775808 ≤ o.n ∧ o.n ≤ 9223372036854775807
def Ops10 (w : World) (a : Option Addr) (ops : List O10) : Prop :=
  ∀ i (h : i < ops.length), (ops[i]).At w ∧ ∃ b o, a = some ⟨b, o, none⟩ ∧
    w.cell? ⟨b, o + i * 5, none⟩ = some (.int .i64 ops[i].d) ∧ w.cell? ⟨b, o + i * 5 + 1, none⟩ = some (.int .i64 ops[i].on) ∧ w.cell? ⟨b, o + i * 5 + 2, none⟩ = some (.slice ops[i].ba ops[i].b.length ops[i].bc) ∧ w.cell? ⟨b, o + i * 5 + 3, none⟩ = some (.int .i64 ops[i].n) ∧ w.cell? ⟨b, o + i * 5 + 4, none⟩ = some (.int .i64 ops[i].kp)
theorem Ops10.below {w w' : World} {a : Option Addr} {ops : List O10} (h : Ops10 w a ops) (hb : Below w.heap.size w w') : Ops10 w' a ops := by
  intro i hi
  obtain ⟨ha, b, o, e, h0, h1, h2, h3, h4⟩ := h i hi
  have hl : b < w.heap.size := World.block_lt_of_cell? w _ h0
  have k : ∀ j v, w.cell? ⟨b, o + i * 5 + j, none⟩ = some v → w'.cell? ⟨b, o + i * 5 + j, none⟩ = some v := fun j v hv => by rw [hb.cell (p := ⟨b, o + i * 5 + j, none⟩) hl]; exact hv
  exact ⟨⟨ha.byt.below hb, ha.cap, ha.bl, ha.nn⟩, b, o, e, k 0 _ h0, k 1 _ h1, k 2 _ h2, k 3 _ h3, k 4 _ h4⟩
theorem loadR_new (m : Nat) (h1 : 1 ≤ m) (h2 : m ≤ 268435456) : loadR (m : Int) [] = (0, some (DS.new m)) := by
  unfold loadR
  rw [if_neg (by omega), if_neg (by simp)]
  simp [ldC, DS.new]
/-- As it begins. -/
theorem Wx.begin {w0 w1 w2 w4 : World} {sb db rb tb bb m : Nat} {F G : Nat → Prop} (hd : DkS w1 w0.heap.size db F (DS.new m)) (hf : ∀ i, F i → i < w1.heap.size) (hr : RfS w2 w1.heap.size rb G (DS.new m)) (b12 : Below w1.heap.size w1 w2) (b24 : Below w2.heap.size w2 w4) (b0 : Below w0.heap.size w0 w4)
    (hbb : w2.heap.size ≤ bb) (htb : w2.heap.size ≤ tb) (hsb : w2.heap.size ≤ sb) (n1 : tb ≠ bb) (n2 : sb ≠ bb) (n3 : sb ≠ tb)
    (kb : w4.heap[bb]? = some (.cells zBook 63 (0, 0))) (kt : w4.heap[tb]? = some (.cells #[.slice none 0 0, .slice none 0 0] 66 (0, 0))) (ks : w4.heap[sb]? = some (.cells (stc10 db rb (fun _ => none) (fun _ => none) bb tb) 72 (0, 0))) :
    WxQ w0 w4 sb db rb tb bb 0 := by
  have q1 := hd.bw
  have q2 := hr.bw
  have q3 := b12.size
  have q4 := b24.size
  have f1 : ∀ i, F i → i < w1.heap.size := hf
  have f2 : ∀ i, G i → w1.heap.size ≤ i ∧ i < w2.heap.size := hr.fl
  have l1 := lt_of_block kb
  have l2 := lt_of_block kt
  refine ⟨fun _ => none, fun _ => none, F, G, DS.new m, fun i => i = tb ∨ i = bb, fun _ => (0, false), ⟨ks, (hd.below b12).below b24, ?_, (fun j b h => by cases h), (fun j b h => by cases h), fun i hi hg => ?_, fun i hi hk => ?_, fun i hi hk => ?_, fun hi => ?_, fun hi => ?_, fun hi => ?_, by omega, ⟨?_, fun i hi => ?_⟩, b0⟩, ⟨fun j hj => ⟨rfl, rfl⟩, fun j => Iff.rfl⟩, Nat.le_refl _, fun j => Nat.zero_le _⟩
  · have h9 := hr.below b24
    exact ⟨h9.st, h9.ok, h9.at_, fun i hi => ⟨by have := (h9.fl i hi).1; omega, (h9.fl i hi).2⟩, by have := h9.bw; omega⟩
  · have := f1 i hi; have := f2 i hg; omega
  · have := f1 i hi; rcases hk with hk | hk <;> omega
  · have := f2 i hi; rcases hk with hk | hk <;> omega
  · have := f1 sb hi; omega
  · have := f2 sb hi; omega
  · rcases hi with hi | hi
    · exact n3 hi
    · exact n2 hi
  · exact (Late_new (fun k hk => ⟨hk.2.1, fun e => hk.2.2 (.inl e), fun e => hk.2.2 (.inr e)⟩) kt kb (by omega) (by omega) n1).mono (by omega)
  · rcases hi with hi | hi <;> omega
set_option maxRecDepth 100000 in
set_option maxHeartbeats 8000000 in
theorem WalExact_calls (w : World) (r0 : Int) (pa : Option Addr) (pk : Nat) (ops : List O10) (hop : Ops10 w pa ops) (hl : ops.length ≤ 140737488355328) (hr1 : -9223372036854775808 ≤ r0) (hr2 : r0 ≤ 9223372036854775807) (ht : Tab w) (hg : 0 < w.heap.size) :
    Calls Tryz.prog 3 #[.agg #[.int .i64 r0, .slice pa ops.length pk]] w fun r w' => r = .returned (.bool true) ∧ Below w.heap.size w w' := by
  obtain ⟨w0, hw0⟩ : ∃ q, w.alloc (.cells #[.int .i64 r0, .slice pa ops.length pk] 24) = q := ⟨_, rfl⟩
  have b0 : Below w.heap.size w w0 := by rw [← hw0]; exact (Below.refl _ _).alloc (Nat.le_refl _) _
  have blk : w0.heap[w.heap.size]? = some (.cells #[.int .i64 r0, .slice pa ops.length pk] 24 (0, 0)) := by rw [← hw0]; exact heap_alloc_new w _
  have s0 : w.heap.size < w0.heap.size := lt_of_block blk
  have CP := Lib.hid (fun (w' : World) (hb : Below w0.heap.size w0 w') => show w'.cell? ⟨w.heap.size, 0, none⟩ = some (.int .i64 r0) ∧ w'.cell? ⟨w.heap.size, 1, none⟩ = some (.slice pa ops.length pk) from by
    have h9 := (hb.block _ s0).trans blk
    exact ⟨by rw [cell_of_row' h9]; rfl, by rw [cell_of_row' h9]; rfl⟩)
  have OP := Lib.hid (hop.below b0)
  have TB := Lib.hid (ht.below b0)
  have HG : Hid (0 < w0.heap.size) := Nat.lt_of_lt_of_le hg b0.size
  have m1 := Int.emod_nonneg r0 (show (4194304 : Int) ≠ 0 by decide)
  have m2 := Int.emod_lt_of_pos r0 (show (0 : Int) < 4194304 by decide)
  have WC := Lib.hid (Within_calls r0 4194304 w0 (by decide) (by decide) hr1 hr2)
  obtain ⟨m, hm⟩ : ∃ m : Nat, r0 % 4194304 = m := ⟨(r0 % 4194304).toNat, by omega⟩
  rw [hm] at WC m2
  have nc := (NewK_calls (1 + (m : Int)) w0)
  have nr := fun wx => New9_calls (1 + (m : Int)) wx
  rw [show (1 + (m : Int)) = ((1 + m : Nat) : Int) by omega] at nc nr
  replace nc := nc.mono (fun r w' hr => new_s (room := 1 + m) (by omega) (by omega) hr)
  replace nr := fun wx => (nr wx).mono (fun r w' hr => show ∃ rb G, r = .returned (.tuple #[.pointer (some ⟨rb, 0, none⟩), .int .i64 0]) ∧ RfS w' wx.heap.size rb G (DS.new (1 + m)) ∧ Below wx.heap.size wx w' from by
    unfold Load9P at hr
    rw [loadR_new (1 + m) (by omega) (by omega)] at hr
    exact hr)
  have wm : 1 + (m : Int) = ((1 + m : Nat) : Int) := by omega
  have NC := Lib.hid nc
  have NR := Lib.hid nr
  have W0 := Lib.hid hw0; have B0 := Lib.hid b0
  obtain ⟨c0, -⟩ := CP.out w0 (Below.refl _ _)
  have WM := Lib.hid wm
  clear hop b0 blk hw0 ht hg hm m1 nc nr wm
  go_enter Tryz.func3, Tryz.ntmps3
  go_upto_region 1 with fail
  rw [W0.out]
  go_wp2_with (go_at_call 4; refine WC.out.mono ?_; rintro r wx ⟨rfl, rfl⟩)
  rw [WM.out]
  refine NC.out.mono ?_
  rintro r w1 ⟨db, F, rfl, hd1, hb1⟩
  have D1 := Lib.hid hd1; have B1 := Lib.hid hb1
  have RC := Lib.hid (NR.out w1)
  clear hd1 hb1 NC NR
  go_wp2_with fail
  refine RC.out.mono ?_
  rintro r w2 ⟨rb, G, rfl, hr2, hb2⟩
  have R2 := Lib.hid hr2; have B2 := Lib.hid hb2
  have WK := Lib.hid (works10_calls w2 (TB.out.below (B1.out.trans (hb2.mono B1.out.size))) (Nat.lt_of_lt_of_le HG.out (Nat.le_trans B1.out.size hb2.size)))
  clear hr2 hb2 RC
  go_wp2_with (go_at_call 7; refine (num10_calls _ _).mono ?_; rintro r wx ⟨rfl, rfl⟩)
  refine WK.out.mono ?_
  rintro r w3 ⟨rfl, hb3⟩
  have B3 := Lib.hid hb3
  obtain ⟨w4, hw4⟩ : ∃ q, ((w3.alloc (.cells zBook 63)).alloc (.cells #[.slice none 0 0, .slice none 0 0] 66)).alloc (.cells #[.pointer (some ⟨db, 0, none⟩), .pointer (some ⟨rb, 0, none⟩), .pointer none, .pointer none, .pointer none, .pointer none, .pointer (some ⟨w3.heap.size, 0, none⟩), .pointer (some ⟨w3.heap.size + 1, 0, none⟩)] 72) = q := ⟨_, rfl⟩
  have b34 : Below w3.heap.size w3 w4 := by rw [← hw4]; exact (((Below.refl _ _).alloc (Nat.le_refl _) _).alloc (by simp) _).alloc (by simp; omega) _
  have kb : w4.heap[w3.heap.size]? = some (.cells zBook 63 (0, 0)) := by
    rw [← hw4, Below.heap_alloc _ _ _ (by simp; omega), Below.heap_alloc _ _ _ (by simp)]
    exact heap_alloc_new w3 _
  have kt : w4.heap[w3.heap.size + 1]? = some (.cells #[.slice none 0 0, .slice none 0 0] 66 (0, 0)) := by
    rw [← hw4, Below.heap_alloc _ _ _ (by simp)]
    have h9 := heap_alloc_new (w3.alloc (.cells zBook 63)) (.cells #[.slice none 0 0, .slice none 0 0] 66)
    simpa using h9
  have ks : w4.heap[w3.heap.size + 1 + 1]? = some (.cells (stc10 db rb (fun _ => none) (fun _ => none) w3.heap.size (w3.heap.size + 1)) 72 (0, 0)) := by
    rw [← hw4]
    have h9 := heap_alloc_new ((w3.alloc (.cells zBook 63)).alloc (.cells #[.slice none 0 0, .slice none 0 0] 66)) (.cells #[.pointer (some ⟨db, 0, none⟩), .pointer (some ⟨rb, 0, none⟩), .pointer none, .pointer none, .pointer none, .pointer none, .pointer (some ⟨w3.heap.size, 0, none⟩), .pointer (some ⟨w3.heap.size + 1, 0, none⟩)] 72)
    simpa [stc10, optp] using h9
  have Q4 := Lib.hid (Wx.begin D1.out (fun i hi => (D1.out.fl i hi).2) R2.out B2.out (hb3.trans (b34.mono hb3.size)) (B1.out.trans ((B2.out.trans ((hb3.trans (b34.mono hb3.size)).mono B2.out.size)).mono B1.out.size)) hb3.size (by have := hb3.size; omega) (by have := hb3.size; omega) (by omega) (by omega) (by omega) kb kt ks)
  have BW4 := Lib.hid (B1.out.trans ((B2.out.trans ((hb3.trans (b34.mono hb3.size)).mono B2.out.size)).mono B1.out.size))
  have W4 := Lib.hid hw4
  obtain ⟨sb, hsb⟩ : ∃ q, w3.heap.size + 1 + 1 = q := ⟨_, rfl⟩
  obtain ⟨tb, htb⟩ : ∃ q, w3.heap.size + 1 = q := ⟨_, rfl⟩
  obtain ⟨bb, hbb⟩ : ∃ q, w3.heap.size = q := ⟨_, rfl⟩
  have q4 := Q4.out
  rw [hsb] at q4
  rw [htb, hbb] at q4
  have Q4b := Lib.hid q4
  have SB := Lib.hid hsb
  clear hb3 WK D1 R2 hw4 b34 kb kt ks Q4 q4 hsb htb hbb
  go_upto_region 6 with fail
  go_wp2_with (first | (with_reducible refine wpList_build (o := ⟨some 39, _, _, _, _, _⟩) rfl 63 rfl zBook zBook_built ?_) | (with_reducible refine wpList_box (o := ⟨some 40, _, _, _, _, _⟩) rfl 63 (.tmp 39) rfl zBook rfl ?_))
  rw [W4.out, SB.out]
  obtain ⟨lb, mb, F4, G4, s4, K4, st4, x4, r4, n4, b4⟩ := Q4b.out
  have oc := open10_calls x4 r4 false 0 n4 (by omega) b4 TB.out HG.out
  simp only [kz10, if_false, Bool.false_eq_true] at oc
  have OC := Lib.hid oc
  clear x4 r4 n4 b4 oc Q4b
  go_wp2_with fail
  refine OC.out.mono ?_
  rintro r w5 ⟨rfl, q5⟩
  obtain ⟨lb5, mb5, F5, G5, s5, K5, st5, x5, r5, n5, b5⟩ := q5
  have oc := open10_calls x5 r5 true (0 + 1) n5 (by omega) b5 TB.out HG.out
  simp only [kz10, if_true] at oc
  have OC5 := Lib.hid oc
  clear x5 r5 n5 b5 oc OC
  go_wp2_with fail
  refine OC5.out.mono ?_
  rintro r w6 ⟨rfl, q6⟩
  have Q6 := Lib.hid q6
  clear q6 OC5
  go_upto_block 0 with fail
  go_cut [] (fun wx => ∃ M, M ≤ 602 ∧ WxQ w0 wx sb db rb tb bb M)
  case first =>
    go_wp2
    go_loopw [9, 10] (fun v9 v10 wr => ∃ (i sp : Nat), v9 = .int .i64 sp ∧ v10 = .int .i64 i ∧ i ≤ ops.length ∧ i ≤ 200 ∧ sp ≤ 524288 ∧ WxQ w0 wr sb db rb tb bb (2 + 3 * i)) (fun _ v10 _ => ops.length - (intOf v10).toNat)
    case atStart => exact ⟨0, 0, rfl, rfl, Nat.zero_le _, Nat.zero_le _, by omega, Q6.out⟩
    case round =>
      obtain ⟨i, sp, rfl, rfl, hi1, hi2, hsp, hq⟩ := hrel
      have QR := Lib.hid hq
      clear hq Q6
      obtain ⟨lbr, mbr, Fr, Gr, sr, Kr, str, xr, rr, nr, br⟩ := QR.out
      have XR := Lib.hid xr; have RR := Lib.hid rr; have BR := Lib.hid br
      obtain ⟨-, g1⟩ := CP.out _ xr.bel
      clear xr rr br
      by_cases c1 : i < ops.length
      · have t1 : decide ((i : Int) < (ops.length : Int)) = true := decide_eq_true (by omega)
        have t1' : decide (i < ops.length) = true := decide_eq_true c1
        by_cases c2 : i < 200
        · have t2 : decide ((i : Int) < 200) = true := decide_eq_true (by omega)
          have t2' : decide (i < 200) = true := decide_eq_true c2
          have i2 : (i : Int) < (ops.length : Int) := by omega
          obtain ⟨-, ob, oo, rfl, h0, h1, h2, h3, h4⟩ := (OP.out.below XR.out.bel) i c1
          obtain ⟨o, ho⟩ : ∃ o, ops[i] = o := ⟨_, rfl⟩
          have hat := (OP.out i c1).1
          rw [ho] at hat h0 h1 h2 h3 h4
          obtain ⟨d, on, ba, b, bc, n, kp⟩ := o
          dsimp only at h0 h1 h2 h3 h4
          have bl := hat.bl
          have AT := Lib.hid hat
          clear hat ho
          have bl2 : b.length ≤ 140737488351232 := bl
          clear bl
          by_cases c3 : 524288 < sp + b.length
          · have t3 : decide ((524288 : Int) < (sp : Int) + (b.length : Int)) = true := decide_eq_true (by omega)
            have t3' : decide (524288 < sp + b.length) = true := decide_eq_true c3
            clear c3
            go_wp2
            go_meet
            case rel => exact ⟨2 + 3 * i, by omega, QR.out⟩
          · have t3 : decide ((524288 : Int) < (sp : Int) + (b.length : Int)) = false := decide_eq_false (by omega)
            have t3' : decide (524288 < sp + b.length) = false := decide_eq_false c3
            have PC := Lib.hid (plays10_calls XR.out RR.out (2 + 3 * i) nr (by omega) BR.out TB.out HG.out d on n kp ba b bc AT.out.byt AT.out.cap (by omega) AT.out.nn.1 AT.out.nn.2)
            go_wp2_with fail
            refine PC.out.mono ?_
            rintro r wa ⟨rfl, qa⟩
            obtain ⟨lba, mba, Fa, Ga, sa, Ka, sta, xa, ra, na, bA⟩ := qa
            have RA := Lib.hid ra; have BA := Lib.hid bA
            have SC := Lib.hid (same10_calls xa ra)
            clear xa ra bA h0 h1 h2 h3 h4 PC g1
            go_wp2_with fail
            refine SC.out.mono ?_
            rintro r wb ⟨rfl, Fb, xb⟩
            have QB := Lib.hid (show WxQ w0 wb sb db rb tb bb (2 + 3 * (i + 1)) from (xb.q RA.out na BA.out))
            clear xb SC
            go_wp2
            go_roundw
            case rel => exact ⟨i + 1, sp + b.length, by go_num, by go_num, by omega, by omega, by omega, QB.out⟩
            case measure => simp [intOf]; omega
        · have t2 : decide ((i : Int) < 200) = false := decide_eq_false (by omega)
          have t2' : decide (i < 200) = false := decide_eq_false c2
          go_wp2
          go_meet
          case rel => exact ⟨2 + 3 * i, by omega, QR.out⟩
      · have t1 : decide ((i : Int) < (ops.length : Int)) = false := decide_eq_false (by omega)
        have t1' : decide (i < ops.length) = false := decide_eq_false c1
        go_wp2
        go_meet
        case rel => exact ⟨2 + 3 * i, by omega, QR.out⟩
  case rest =>
    obtain ⟨wB, rfl⟩ : ∃ q, q = wc := ⟨_, rfl⟩
    obtain ⟨M9, hM9, lb9, mb9, F9, G9, s9, K9, st9, hx9, -, -, -⟩ := hcut
    clear Q6
    have X9 := Lib.hid hx9
    have X10 := Lib.hid (hx9.below (w' := wB.drew) (bel_drew (Below.refl _ _)))
    obtain ⟨-, -, -, -, -, -, b6, b7⟩ := X10.out.cells
    have sc0 := X10.out.lk.settle X10.out.bw (by omega) 0 (by omega)
    rw [show ((0 : Nat) : Int) = 0 from rfl] at sc0
    have SC := Lib.hid sc0
    have XS := Lib.hid (fun (wx : World) (hk : LbK wx w0.heap.size tb bb (0 - 1) (fun i => K9 i ∨ wB.drew.heap.size ≤ i ∧ i < wx.heap.size)) (hu : Upd K9 wB.drew wx) => X10.out.stepK hk hu (fun i hi => hi.imp_right (fun h9 => h9.1)))
    have LX := Lib.hid (fun (wx : World) (Kx : Nat → Prop) (hx : Wx w0 wx sb db rb tb bb lb9 mb9 F9 G9 s9 s9 Kx (0 - 1) st9 st9) => (hx.lk.look hx.bw).mono (fun r w' hr => show r = .returned (.bool true) ∧ (w'.cell? ⟨sb, 6, none⟩ = some (.pointer (some ⟨bb, 0, none⟩)) ∧ w'.cell? ⟨sb, 7, none⟩ = some (.pointer (some ⟨tb, 0, none⟩))) ∧ Below w0.heap.size w0 w' from by
      have h9 := hx.stepK hr.2.1 hr.2.2 (fun i hi => hi.imp_right (fun h8 => h8.1))
      exact ⟨hr.1, ⟨h9.cells.2.2.2.2.2.2.1, h9.cells.2.2.2.2.2.2.2⟩, h9.bel⟩))
    clear hx9 sc0
    go_upto_region 17 with fail
    go_region_held3 (fun w' => w'.cell? ⟨sb, 6, none⟩ = some (.pointer (some ⟨bb, 0, none⟩)) ∧ w'.cell? ⟨sb, 7, none⟩ = some (.pointer (some ⟨tb, 0, none⟩)))
      (first
        | go_keep)
      (first
        | (go_at_call 12; (with_reducible refine SC.out.mono ?_); rintro r wa ⟨rfl, ka, ua⟩; have XA := Lib.hid (XS.out wa ka ua); obtain ⟨-, -, -, -, -, -, b6, b7⟩ := XA.out.cells; have LC := Lib.hid (LX.out _ _ XA.out); clear ka ua)
        | (go_at_call 13; (with_reducible refine LC.out.mono ?_); rintro r wb ⟨rfl, ⟨e6, e7⟩, be⟩; have BE := Lib.hid be; clear be))
    all_goals
      go_wp2
      go_ret
      exact ⟨by first | rfl | simp, B0.out.trans (BE.out.mono B0.out.size)⟩
end Go.Proofs.YtnbpkignkfabkaaGreatDoor
