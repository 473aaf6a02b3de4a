/- posternlaw9: a script is played whole, where nothing is marked. -/
import Derived.Test.YtcmllfnhdodbdaaGreatDoorPlays
import Derived.Test.YtcmllfnhdodbdaaGreatDoorBox
import Derived.Test.YtcmllfnhdodbdaaGreatDoorZBook
/- posternlaw9: a script's beginning: the stage's two pairs of disks; a look into the book. -/
namespace Go.Proofs.YtcmllfnhdodbdaaGreatDoor
set_option linter.unusedVariables false
set_option linter.unusedSimpArgs false
open Go.RowKit Go.Maps
section
variable {w0 w w1 w2 w' : World} {sb bb ab : Nat} {db rb : Bool → Nat} {F G : Bool → Nat → Prop} {s z : Bool → DS} {K : Nat → Prop} {turn spent : Int}
theorem Sta.look (h : Sta w0 w sb bb ab db rb F G s z K turn spent) : Calls Tryz.prog 43 #[.pointer (some ⟨bb, 0, none⟩)] w fun r w' => r = .returned (.bool true) ∧ ∃ K', Sta w0 w' sb bb ab db rb F G s z K' turn spent := by
  obtain ⟨E, vb, vo, bat, tn, dn, us, h1, h2, h3, h4⟩ := h.bk
  refine (Look_calls w w0.heap.size (fun _ => False) bb E vb vo bat tn dn us h1 h2).mono ?_
  rintro r w' ⟨rfl, E', vb', vo', bat', dn', p1, p2, p3, p4⟩
  have hlt : w.heap.size ≤ w'.heap.size := p4.size
  refine ⟨rfl, fun k => K k ∨ (w.heap.size ≤ k ∧ k < w'.heap.size), ?_⟩
  exact ⟨(p4.block _ h.slt (fun e => h.ks (h3 _ e))).trans h.blk, fun k => (h.d k).upd p4 (fun i hi hf => h.kf k i hf (h3 i hi)), fun k => (h.r k).upd p4 (fun i hi => fun hf => by
      rcases hf with hf
      exact h.kg k i hf (h3 i hi)), h.ff, h.gg, h.fg, h.sf, h.sg, ⟨E', vb', vo', bat', tn, dn', us, p1, p2, fun k hk => (p3 k hk).imp (h3 k) (fun h9 => ⟨h9, (p1.foot k hk).2.1⟩), fun k hk => hk.elim (fun h9 => ⟨(h4 k h9).1, Nat.lt_of_lt_of_le (h4 k h9).2 hlt⟩) (fun h9 => ⟨Nat.le_trans h.bw h9.1, h9.2⟩)⟩,
    fun k i hf hk => hk.elim (h.kf k i hf) (fun h9 => by have := ((h.d k).fl i hf).2; omega), fun k i hf hk => hk.elim (h.kg k i hf) (fun h9 => by have := ((h.r k).fl i hf).2; omega),
    fun hk => hk.elim h.ks (fun h9 => by have := h.slt; omega), h.sl, h.bel.trans (p4.below (fun i hi _ => (h4 i (h3 i hi)).1) h.bw)⟩
theorem PutP.one {k : Bool} {c : Array Value} {ty : TypeId} {fr : Nat × Nat} (hp : PutP w w' sb k 100 []) (hb : w.heap[sb]? = some (.cells c ty fr)) :
    ∃ db rb F G, StD w' w.heap.size db rb F G (DS.new 100) ∧ Upd (fun i => i = sb) w w' ∧ w'.heap[sb]? = some (.cells ((c.setIfInBounds (kn k) (.pointer (some ⟨db, 0, none⟩))).setIfInBounds (2 + kn k) (.pointer (some ⟨rb, 0, none⟩))) ty fr) := by
  unfold PutP at hp
  rw [show (loadR 100 []).2 = some (DS.new 100) from rfl] at hp
  obtain ⟨w1, db, rb, F, G, hbl, sd, rfl⟩ := hp
  have hs := lt_of_block hb
  have hu : Upd (fun i => i = sb) w1 ((w1.setCell ⟨sb, kn k, none⟩ (.pointer (some ⟨db, 0, none⟩))).setCell ⟨sb, 2 + kn k, none⟩ (.pointer (some ⟨rb, 0, none⟩))) := ((Upd.refl (fun i => i = sb) w1).setCell (p := ⟨sb, kn k, none⟩) (fun _ => rfl) _).setCell (p := ⟨sb, 2 + kn k, none⟩) (fun _ => rfl) _
  have n1 : ∀ i, F i → w.heap.size ≤ i := fun i hi => (sd.d.fl i hi).1
  have n2 : ∀ i, G i → w.heap.size ≤ i := fun i hi => (sd.r.fl i hi).1
  exact ⟨db, rb, F, G, ⟨sd.d.upd hu (fun i hi hf => by have := n1 i hf; omega), sd.r.upd hu (fun i hi hf => by have := n2 i hf; omega), sd.dj⟩, ((Upd.ofBelow hbl).mono (fun _ s _ => s.elim)).same hu, setCell_row (setCell_row ((hbl.block _ hs).trans hb) _ _) _ _⟩
theorem RfS.mono9 {w : World} {B B' rb : Nat} {G : Nat → Prop} {s : DS} (h : RfS w B rb G s) (hb : B' ≤ B) : RfS w B' rb G s := ⟨h.st, h.ok, h.at_, fun i hi => ⟨Nat.le_trans hb (h.fl i hi).1, (h.fl i hi).2⟩, Nat.le_trans hb h.bw⟩
theorem Sta.begin {d0 d1 r0 r1 : Nat} {F0 F1 G0 G1 : Nat → Prop} (hw : w0.heap.size ≤ w.heap.size) (hK : BkN w w0.heap.size bb K) (ks : ¬ K sb) (sl : w0.heap.size ≤ sb) (bel : Below w0.heap.size w0 w) (hs : sb < w.heap.size)
    (s1 : StD w1 w.heap.size d0 r0 F0 G0 (DS.new 100)) (u1 : Upd (fun i => i = sb) w w1) (s2 : StD w2 w1.heap.size d1 r1 F1 G1 (DS.new 100)) (u2 : Upd (fun i => i = sb) w1 w2)
    (hb : w2.heap[sb]? = some (.cells (stc (.pointer (some ⟨d0, 0, none⟩)) (.pointer (some ⟨d1, 0, none⟩)) (.pointer (some ⟨r0, 0, none⟩)) (.pointer (some ⟨r1, 0, none⟩)) bb ab turn spent) 130 (0, 0))) :
    Sta w0 w2 sb bb ab (fun k => if k = true then d1 else d0) (fun k => if k = true then r1 else r0) (fun k => if k = true then F1 else F0) (fun k => if k = true then G1 else G0) (fun _ => DS.new 100) (fun _ => DS.new 100) K turn spent := by
  have a0 : ∀ i, F0 i → w.heap.size ≤ i ∧ i < w1.heap.size := fun i hi => s1.d.fl i hi
  have a1 : ∀ i, F1 i → w1.heap.size ≤ i := fun i hi => (s2.d.fl i hi).1
  have b0 : ∀ i, G0 i → w.heap.size ≤ i ∧ i < w1.heap.size := fun i hi => s1.r.fl i hi
  have b1 : ∀ i, G1 i → w1.heap.size ≤ i := fun i hi => (s2.r.fl i hi).1
  have z1 := u1.size
  have z2 := u2.size
  obtain ⟨E, vb, vo, bat, tn, dn, us, h1, h2, h3, h4⟩ := hK
  have hk : ∀ i, K i → i < w.heap.size := fun i hi => (h4 i hi).2
  have hK' : BkN w2 w0.heap.size bb K := BkN.upd (BkN.upd ⟨E, vb, vo, bat, tn, dn, us, h1, h2, h3, h4⟩ u1 (fun i hi hk => ks (by rw [← hi]; exact hk))) u2 (fun i hi hk => ks (by rw [← hi]; exact hk))
  refine ⟨hb, fun k => ?_, fun k => ?_, fun k j hkj i hi hj => ?_, fun k j hkj i hi hj => ?_, fun k j i hi hj => ?_, fun k i hi => ?_, fun k i hi => ?_, hK', fun k i hi hh => ?_, fun k i hi hh => ?_, ks, sl, bel.trans ((u1.same u2).below (fun i hi _ => by rw [hi]; exact sl) hw)⟩
  · cases k
    · exact (s1.d.mono9 hw).upd u2 (fun i hi hf => by have := (a0 i hf).1; omega)
    · exact s2.d.mono9 (by omega)
  · cases k
    · exact (s1.r.mono9 hw).upd u2 (fun i hi hf => by have := (b0 i hf).1; omega)
    · exact s2.r.mono9 (by omega)
  · cases k <;> cases j
    · exact hkj rfl
    · have := a0 i hi; have := a1 i hj; omega
    · have := a1 i hi; have := a0 i hj; omega
    · exact hkj rfl
  · cases k <;> cases j
    · exact hkj rfl
    · have := b0 i hi; have := b1 i hj; omega
    · have := b1 i hi; have := b0 i hj; omega
    · exact hkj rfl
  · cases k <;> cases j
    · exact s1.dj i hi hj
    · have := a0 i hi; have := b1 i hj; omega
    · have := a1 i hi; have := b0 i hj; omega
    · exact s2.dj i hi hj
  · cases k
    · have := a0 i hi; omega
    · have := a1 i hi; omega
  · cases k
    · have := b0 i hi; omega
    · have := b1 i hi; omega
  · have := hk i hh
    cases k
    · have := a0 i hi; omega
    · have := a1 i hi; omega
  · have := hk i hh
    cases k
    · have := b0 i hi; omega
    · have := b1 i hi; omega
end
end Go.Proofs.YtcmllfnhdodbdaaGreatDoor
namespace Go.Proofs.YtcmllfnhdodbdaaGreatDoor
set_option linter.unusedVariables false
set_option linter.unusedSimpArgs false
open Go.RowKit Go.Maps
def zSeat : Array Value := #[.slice none 0 0, .slice none 0 0, .slice none 0 0, .slice none 0 0, .slice none 0 0, .slice none 0 0, .slice none 0 0, .slice none 0 0, .slice none 0 0, .slice none 0 0, .slice none 0 0, .slice none 0 0, .slice none 0 0, .slice none 0 0]
theorem zSeat_built : Tryz.prog.built 125 [] = some zSeat := by kernel_rfl
set_option maxRecDepth 100000 in
set_option maxHeartbeats 4000000 in
theorem play_calls (w : World) (r0 r1 : Int) (pa : Option Addr) (pk : Nat) (ops : List O9) (hop : Ops9 w pa ops) (hl : ops.length ≤ 140737488355328) :
    Calls Tryz.prog 25 #[.agg #[.int .i64 r0, .int .i64 r1, .slice pa ops.length pk], .bool false] w fun r w' => r = .returned (.bool true) ∧ Below w.heap.size w w' := by
  obtain ⟨w0, hw0⟩ : ∃ q, w.alloc (.cells #[.int .i64 r0, .int .i64 r1, .slice pa ops.length pk] 48) = q := ⟨_, rfl⟩
  have b0 : Below w.heap.size w w0 := by rw [← hw0]; exact (Below.refl _ _).alloc (Nat.le_refl _) _
  have blk : w0.heap[w.heap.size]? = some (.cells #[.int .i64 r0, .int .i64 r1, .slice pa ops.length pk] 48 (0, 0)) := by rw [← hw0]; exact heap_alloc_new w _
  have s0 : w.heap.size < w0.heap.size := lt_of_block blk
  have z0 : w0.heap.size = w.heap.size + 1 := by rw [← hw0]; simp
  have CP := Lib.hid (fun (w' : World) (hb : Below w0.heap.size w0 w') => show w'.cell? ⟨w.heap.size, 0, none⟩ = some (.int .i64 r0) ∧ w'.cell? ⟨w.heap.size, 1, none⟩ = some (.int .i64 r1) ∧ w'.cell? ⟨w.heap.size, 2, none⟩ = some (.slice pa ops.length pk) from by
    have h9 := (hb.block _ s0).trans blk
    exact ⟨by rw [cell_of_row' h9]; rfl, by rw [cell_of_row' h9]; rfl, by rw [cell_of_row' h9]; rfl⟩)
  have OP := Lib.hid (hop.below b0)
  obtain ⟨w4, hw4⟩ : ∃ q, ((w0.alloc (.cells zBook 112)).alloc (.cells zSeat 125)).alloc (.cells (stc (.pointer none) (.pointer none) (.pointer none) (.pointer none) w0.heap.size (w0.heap.size + 1) 0 0) 130) = q := ⟨_, rfl⟩
  have b4 : Below w0.heap.size w0 w4 := by rw [← hw4]; exact (((Below.refl _ _).alloc (Nat.le_refl _) _).alloc (by simp) _).alloc (by simp; omega) _
  have kb : w4.heap[w0.heap.size]? = some (.cells zBook 112 (0, 0)) := by
    rw [← hw4]
    rw [Below.heap_alloc _ _ _ (by simp; omega), Below.heap_alloc _ _ _ (by simp)]
    exact heap_alloc_new w0 _
  have kt : w4.heap[w0.heap.size + 2]? = some (.cells (stc (.pointer none) (.pointer none) (.pointer none) (.pointer none) w0.heap.size (w0.heap.size + 1) 0 0) 130 (0, 0)) := by
    rw [← hw4]
    have h9 := heap_alloc_new ((w0.alloc (.cells zBook 112)).alloc (.cells zSeat 125)) (.cells (stc (.pointer none) (.pointer none) (.pointer none) (.pointer none) w0.heap.size (w0.heap.size + 1) 0 0) 130)
    simpa using h9
  obtain ⟨sb, hsb⟩ : ∃ q, w0.heap.size + 2 = q := ⟨_, rfl⟩
  obtain ⟨ab, hab⟩ : ∃ q, w0.heap.size + 1 = q := ⟨_, rfl⟩
  obtain ⟨bb, hbb⟩ : ∃ q, w0.heap.size = q := ⟨_, rfl⟩
  have BK : Hid (BkN w4 w0.heap.size bb (fun k => k = bb)) := by
    refine ⟨[], .slice none 0 0, .slice none 0 0, 0, 0, 0, 0, ⟨⟨zBook, by rw [← hbb]; exact kb, zBook_ok⟩, by omega, Own.nil _ _ _ _, Own.nil _ _ _ _, (fun e he => by cases he), (fun e he => by cases he), (fun i j _ _ _ e f he => by cases he), (fun k q => q.elim), (fun i e he => by cases he)⟩, ⟨Nat.le_refl _, by simp, by decide⟩, ?_, ?_⟩
    · rintro k (e | e | e | ⟨g, hg, _⟩)
      · exact e
      · cases e
      · cases e
      · cases hg
    · rintro k rfl
      exact ⟨by omega, by have := lt_of_block kb; omega⟩
  have KT := Lib.hid (show w4.heap[sb]? = some (.cells (stc (.pointer none) (.pointer none) (.pointer none) (.pointer none) bb ab 0 0) 130 (0, 0)) from by rw [← hsb, ← hbb, ← hab]; exact kt)
  rw [z0] at hw4
  have W4 := Lib.hid (show ((w0.alloc (.cells zBook 112)).alloc (.cells zSeat 125)).alloc (.cells #[.pointer none, .pointer none, .pointer none, .pointer none, .bool false, .pointer (some ⟨w.heap.size + 1, 0, none⟩), .pointer (some ⟨w.heap.size + 1 + 1, 0, none⟩), .int .i64 0, .int .i64 0] 130) = w4 from hw4)
  have WK := Lib.hid (works9_calls w4)
  have W0 := Lib.hid hw0; have B0 := Lib.hid b0; have B4 := Lib.hid b4
  have SB := Lib.hid (show w.heap.size + 1 + 1 + 1 = sb by omega); have AB := Lib.hid (show w.heap.size + 1 + 1 = ab by omega); have BB := Lib.hid (show w.heap.size + 1 = bb by omega); have BB0 := Lib.hid hbb
  have n1 : bb ≤ sb := by omega
  have n2 : sb ≠ bb := by omega
  clear hop b0 blk hw0 hw4 kb kt b4 hsb hab hbb
  go_enter Tryz.func25, Tryz.ntmps25
  go_upto_region 1 with fail
  rw [W0.out]
  go_wp2_with (first | (with_reducible refine wpList_build (o := ⟨some 8, _, _, _, _, _⟩) rfl 112 rfl zBook zBook_built ?_) | (with_reducible refine wpList_box (o := ⟨some 9, _, _, _, _, _⟩) rfl 112 (.tmp 8) rfl zBook rfl ?_) | (with_reducible refine wpList_build (o := ⟨some 10, _, _, _, _, _⟩) rfl 125 rfl zSeat zSeat_built ?_) | (with_reducible refine wpList_box (o := ⟨some 11, _, _, _, _, _⟩) rfl 125 (.tmp 10) rfl zSeat rfl ?_))
  rw [W4.out]
  refine WK.out.mono ?_
  rintro r w5 ⟨rfl, b5⟩
  have B5 := Lib.hid (B4.out.trans (b5.mono B4.out.size))
  have T5 := Lib.hid ((b5.block _ (lt_of_block KT.out)).trans KT.out)
  have BK5 := Lib.hid (BK.out.upd (Upd.ofBelow b5) (fun _ s => s.elim))
  have F1 := Lib.hid (fresh_calls 100 sb _ _ _ _ bb ab 0 0 false w5 T5.out)
  simp only [kz, Bool.false_eq_true, if_false] at F1
  have SB5 : Hid (sb < w5.heap.size) := lt_of_block T5.out
  rw [SB.out, AB.out, BB.out]
  clear b5 WK BK
  go_wp2_with fail
  refine F1.out.mono ?_
  rintro r w6 ⟨rfl, p6⟩
  obtain ⟨d0, e0, F0, G0, st6, u6, k6⟩ := PutP.one p6 T5.out
  have T6 := Lib.hid (show w6.heap[sb]? = some (.cells (stc (.pointer (some ⟨d0, 0, none⟩)) (.pointer none) (.pointer (some ⟨e0, 0, none⟩)) (.pointer none) bb ab 0 0) 130 (0, 0)) from k6)
  have S6 := Lib.hid st6; have U6 := Lib.hid u6
  have F2 := Lib.hid (fresh_calls 100 sb _ _ _ _ bb ab 0 0 true w6 T6.out)
  simp only [kz, if_true] at F2
  clear st6 u6 k6 p6 F1
  go_wp2_with fail
  refine F2.out.mono ?_
  rintro r w7 ⟨rfl, p7⟩
  obtain ⟨d1, e1, F1, G1, st7, u7, k7⟩ := PutP.one p7 T6.out
  have T7 := Lib.hid (show w7.heap[sb]? = some (.cells (stc (.pointer (some ⟨d0, 0, none⟩)) (.pointer (some ⟨d1, 0, none⟩)) (.pointer (some ⟨e0, 0, none⟩)) (.pointer (some ⟨e1, 0, none⟩)) bb ab 0 0) 130 (0, 0)) from k7)
  have S7 := Lib.hid (Sta.begin B5.out.size BK5.out (K := fun k => k = bb) (fun h => n2 h) (by have := BB0.out; omega) B5.out SB5.out S6.out U6.out st7 u7 T7.out)
  obtain ⟨q0, q1, -, -, -, -, -, -⟩ := S7.out.q
  obtain ⟨g0, g1, -⟩ := CP.out _ S7.out.bel
  have F3 := Lib.hid (fresh_calls r0 sb _ _ _ _ bb ab 0 0 false w7 T7.out)
  simp only [kz, Bool.false_eq_true, if_false, if_true] at F3 q0 q1
  clear st7 u7 k7 p7 F2
  go_wp2_with fail
  refine F3.out.mono ?_
  rintro r w8 ⟨rfl, p8⟩
  obtain ⟨db8, rb8, F8, G8, z8, s8, hz8⟩ := S7.out.put p8
  have S8 := Lib.hid s8; have Z8 := Lib.hid hz8
  obtain ⟨-, g1, -⟩ := CP.out _ s8.bel
  have F4 := Lib.hid (fresh_calls r1 sb _ _ _ _ bb ab 0 0 true w8 s8.blk)
  simp only [kz, if_true] at F4
  clear s8 hz8 p8 F3 q0 q1
  go_wp2_with fail
  refine F4.out.mono ?_
  rintro r w9 ⟨rfl, p9⟩
  obtain ⟨db9, rb9, F9, G9, z9, s9, hz9⟩ := S8.out.put p9
  have S9 := Lib.hid s9
  have Z9 := Lib.hid (hz9 0 (Z8.out 0 (fun j => Nat.zero_le _)))
  clear s9 hz9 p9 F4 g0 g1
  go_wp2_with fail
  go_loopw [6] (fun vi wr => ∃ (i : Nat) (db rb : Bool → Nat) (F G : Bool → Nat → Prop) (s : Bool → DS) (K : Nat → Prop) (turn spent : Int), vi = .int .i64 i ∧ i ≤ ops.length ∧ i ≤ 400 ∧ Sta w0 wr sb bb ab db rb F G s s K turn spent ∧ (∀ k, (s k).writes ≤ i) ∧ 0 ≤ turn ∧ turn ≤ i ∧ 0 ≤ spent ∧ spent ≤ (i : Int) * 300000000000000) (fun vi _ => ops.length - (intOf vi).toNat)
  case atStart => exact ⟨0, db9, rb9, F9, G9, z9, _, 0, 0, rfl, Nat.zero_le _, Nat.zero_le _, S9.out, Z9.out, by omega, by omega, by omega, by omega⟩
  case round =>
    obtain ⟨i, db, rb, F, G, s, K, turn, spent, rfl, hi1, hi2, hst, hwr, ht1, ht2, hs1, hs2⟩ := hrel
    have SR := Lib.hid hst; have WR := Lib.hid hwr
    obtain ⟨-, -, g2⟩ := CP.out _ hst.bel
    clear hst hwr S9 Z9
    by_cases c1 : i < ops.length
    · have t1 : decide ((i : Int) < (ops.length : Int)) = true := decide_eq_true (by omega)
      have t1' : decide (i < ops.length) = true := decide_eq_true c1
      by_cases c2 : i < 400
      · have t2 : decide ((i : Int) < 400) = true := decide_eq_true (by omega)
        have t2' : decide (i < 400) = true := decide_eq_true c2
        have i2 : (i : Int) < (ops.length : Int) := by omega
        obtain ⟨-, ob, oo, rfl, h0, h1, h2, h3, h4, h5, h6, h7⟩ := (OP.out.below SR.out.bel) i c1
        obtain ⟨o, ho⟩ : ∃ o, ops[i] = o := ⟨_, rfl⟩
        have hat := (OP.out i c1).1
        rw [ho] at hat h0 h1 h2 h3 h4 h5 h6 h7
        have PC := Lib.hid (plays_calls SR.out i WR.out (by omega) ht1 (by omega) hs1 (by omega) o hat)
        obtain ⟨d, on, nm, tn, ba, b, bc, n, keep, fa, fl, fc⟩ := o
        dsimp only at h0 h1 h2 h3 h4 h5 h6 h7
        have PC2 := Lib.hid (show Calls Tryz.prog 42 #[.pointer (some ⟨sb, 0, none⟩), .agg #[.int .i64 d, .int .i64 on, .string ⟨nm.toArray⟩, .string ⟨tn.toArray⟩, .slice ba b.length bc, .int .i64 n, .int .i64 keep, .slice fa fl.length fc]] wr fun r w' => r = .returned (.bool true) ∧ PlP w0 w' sb bb ab K i turn spent from PC.out)
        clear hat ho PC
        go_wp2_with fail
        refine PC2.out.mono ?_
        rintro r wa ⟨rfl, dba, rba, Fa, Ga, sa, ta, spa, hsa, hwa, ht3, ht4, hs3, hs4⟩
        have SA := Lib.hid hsa; have WA := Lib.hid hwa
        have LC := Lib.hid hsa.look
        obtain ⟨-, -, -, -, -, q5, -, -⟩ := hsa.q
        obtain ⟨-, -, g2⟩ := CP.out _ hsa.bel
        clear hsa hwa h0 h1 h2 h3 h4 h5 h6 h7 PC2
        go_wp2_with fail
        refine LC.out.mono ?_
        rintro r wb ⟨rfl, Kb, hsb⟩
        have SBB := Lib.hid hsb
        clear hsb LC q5 g2
        go_wp2
        go_roundw
        case rel => exact ⟨i + 1, dba, rba, Fa, Ga, sa, Kb, ta, spa, by go_num, by omega, by omega, SBB.out, WA.out, by omega, by omega, by omega, by omega⟩
        case measure => simp [intOf]; omega
      · have t2 : decide ((i : Int) < 400) = false := decide_eq_false (by omega)
        have t2' : decide (i < 400) = false := decide_eq_false c2
        have FF := Lib.hid (files9s_calls SR.out false)
        simp only [kz, Bool.false_eq_true, if_false] at FF
        go_wp2_with fail
        refine FF.out.mono ?_
        rintro r wa ⟨rfl, Fa, hsa⟩
        have SA := Lib.hid hsa
        have FG := Lib.hid (files9s_calls hsa true)
        simp only [kz, if_true] at FG
        clear hsa FF g2
        go_wp2_with fail
        refine FG.out.mono ?_
        rintro r wb ⟨rfl, Fb, hsb⟩
        have SBB := Lib.hid hsb
        have LC := Lib.hid hsb.look
        obtain ⟨-, -, -, -, -, q5, -, -⟩ := hsb.q
        clear hsb FG
        go_wp2_with fail
        refine LC.out.mono ?_
        rintro r wx ⟨rfl, Kb, hsx⟩
        have BE := Lib.hid (B0.out.trans (hsx.bel.mono B0.out.size))
        clear hsx LC q5
        go_wp2
        go_ret
        exact ⟨rfl, BE.out⟩
    · have t1 : decide ((i : Int) < (ops.length : Int)) = false := decide_eq_false (by omega)
      have t1' : decide (i < ops.length) = false := decide_eq_false c1
      have FF := Lib.hid (files9s_calls SR.out false)
      simp only [kz, Bool.false_eq_true, if_false] at FF
      go_wp2_with fail
      refine FF.out.mono ?_
      rintro r wa ⟨rfl, Fa, hsa⟩
      have SA := Lib.hid hsa
      have FG := Lib.hid (files9s_calls hsa true)
      simp only [kz, if_true] at FG
      clear hsa FF g2
      go_wp2_with fail
      refine FG.out.mono ?_
      rintro r wb ⟨rfl, Fb, hsb⟩
      have SBB := Lib.hid hsb
      have LC := Lib.hid hsb.look
      obtain ⟨-, -, -, -, -, q5, -, -⟩ := hsb.q
      clear hsb FG
      go_wp2_with fail
      refine LC.out.mono ?_
      rintro r wx ⟨rfl, Kb, hsx⟩
      have BE := Lib.hid (B0.out.trans (hsx.bel.mono B0.out.size))
      clear hsx LC q5
      go_wp2
      go_ret
      exact ⟨rfl, BE.out⟩
set_option maxRecDepth 100000 in
set_option maxHeartbeats 400000 in
theorem DiskExact_calls (w : World) (r0 r1 : Int) (pa : Option Addr) (pk : Nat) (ops : List O9) (hop : Ops9 w pa ops) (hl : ops.length ≤ 140737488355328) :
    Calls Tryz.prog 5 #[.agg #[.int .i64 r0, .int .i64 r1, .slice pa ops.length pk]] w fun r w' => r = .returned (.bool true) ∧ Below w.heap.size w w' := by
  obtain ⟨w0, hw0⟩ : ∃ q, w.alloc (.cells #[.int .i64 r0, .int .i64 r1, .slice pa ops.length pk] 48) = q := ⟨_, rfl⟩
  have b0 : Below w.heap.size w w0 := by rw [← hw0]; exact (Below.refl _ _).alloc (Nat.le_refl _) _
  have blk : w0.heap[w.heap.size]? = some (.cells #[.int .i64 r0, .int .i64 r1, .slice pa ops.length pk] 48 (0, 0)) := by rw [← hw0]; exact heap_alloc_new w _
  have PC := Lib.hid (play_calls w0 r0 r1 pa pk ops (hop.below b0) hl)
  have W0 := Lib.hid hw0; have B0 := Lib.hid b0
  clear hop b0 blk hw0
  go_enter Tryz.func5, Tryz.ntmps5
  go_wp2_with fail
  rw [W0.out]
  refine PC.out.mono ?_
  rintro r w1 ⟨rfl, b1⟩
  have BE := Lib.hid (B0.out.trans (b1.mono B0.out.size))
  clear b1 PC
  go_wp2
  go_ret
  exact ⟨rfl, BE.out⟩
end Go.Proofs.YtcmllfnhdodbdaaGreatDoor
