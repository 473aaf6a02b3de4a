/- posternlaw9: the stage's calls on both disks, told alike. -/
import Derived.Test.YtcmllfnhdodbdaaGreatDoorStage
import Derived.Deep.RegionHeld3
import Derived.Test.YtcmllfnhdodbdaaGreatDoorOps9
/- posternlaw9: what stands while a script is played: two disks of the program, two of the document, the stage, the book. -/
namespace Go.Proofs.YtcmllfnhdodbdaaGreatDoor
set_option linter.unusedVariables false
set_option linter.unusedSimpArgs false
open Go.RowKit Go.Maps
def upk {α : Type} (f : Bool → α) (k : Bool) (v : α) : Bool → α := fun j => if j = k then v else f j
theorem upk_same {α : Type} (f : Bool → α) (k : Bool) (v : α) : upk f k v k = v := if_pos rfl
theorem upk_other {α : Type} (f : Bool → α) {k j : Bool} (h : j ≠ k) (v : α) : upk f k v j = f j := if_neg h
theorem upk_eta {α : Type} (f : Bool → α) (k : Bool) : upk f k (f k) = f := by
  funext j
  unfold upk
  split
  · rename_i h; rw [h]
  · rfl
/-- A book, with its blocks. -/
def BkN (w : World) (base bb : Nat) (K : Nat → Prop) : Prop :=
  ∃ E vb vo bat tn dn us, Bk w base (fun _ => False) bb E E bat E.length vb vo bat tn dn us ∧ Cnt E.length bat us ∧ (∀ k, BkF bb vb vo E k → K k) ∧ ∀ k, K k → base ≤ k ∧ k < w.heap.size
structure Sta (w0 w : World) (sb bb ab : Nat) (db rb : Bool → Nat) (F G : Bool → Nat → Prop) (s z : Bool → DS) (K : Nat → Prop) (turn spent : Int) : Prop where
  blk : w.heap[sb]? = some (.cells (stc (.pointer (some ⟨db false, 0, none⟩)) (.pointer (some ⟨db true, 0, none⟩)) (.pointer (some ⟨rb false, 0, none⟩)) (.pointer (some ⟨rb true, 0, none⟩)) bb ab turn spent) 130 (0, 0))
  d : ∀ k, DkS w w0.heap.size (db k) (F k) (s k)
  r : ∀ k, RfS w w0.heap.size (rb k) (G k) (z k)
  ff : ∀ k j, k ≠ j → ∀ i, F k i → ¬ F j i
  gg : ∀ k j, k ≠ j → ∀ i, G k i → ¬ G j i
  fg : ∀ k j i, F k i → ¬ G j i
  sf : ∀ k i, F k i → i ≠ sb
  sg : ∀ k i, G k i → i ≠ sb
  bk : BkN w w0.heap.size bb K
  kf : ∀ k i, F k i → ¬ K i
  kg : ∀ k i, G k i → ¬ K i
  ks : ¬ K sb
  sl : w0.heap.size ≤ sb
  bel : Below w0.heap.size w0 w
section
variable {w0 w w' : World} {sb bb ab : Nat} {db rb : Bool → Nat} {F G : Bool → Nat → Prop} {s z : Bool → DS} {K : Nat → Prop} {turn spent : Int} {k : Bool} {t : DS} {base : Nat}
theorem BkN.upd {S : Nat → Prop} (h : BkN w base bb K) (hu : Upd S w w') (hs : ∀ i, S i → ¬ K i) : BkN w' base bb K := by
  obtain ⟨E, vb, vo, bat, tn, dn, us, h1, h2, h3, h4⟩ := h
  exact ⟨E, vb, vo, bat, tn, dn, us, h1.upd hu (fun k hk hb => hs k hk (h3 k hb)), h2, h3, fun k hk => ⟨(h4 k hk).1, Nat.lt_of_lt_of_le (h4 k hk).2 hu.size⟩⟩
theorem Sta.slt (h : Sta w0 w sb bb ab db rb F G s z K turn spent) : sb < w.heap.size := lt_of_block h.blk
theorem Sta.bw (h : Sta w0 w sb bb ab db rb F G s z K turn spent) : w0.heap.size ≤ w.heap.size := h.bel.size
theorem Sta.below (h : Sta w0 w sb bb ab db rb F G s z K turn spent) (hb : Below w.heap.size w w') : Sta w0 w' sb bb ab db rb F G s z K turn spent :=
  ⟨(hb.block _ h.slt).trans h.blk, fun k => (h.d k).below hb, fun k => (h.r k).below hb, h.ff, h.gg, h.fg, h.sf, h.sg, h.bk.upd (Upd.ofBelow hb) (fun _ s => s.elim), h.kf, h.kg, h.ks, h.sl, h.bel.trans (hb.mono h.bw)⟩
theorem Sta.stepD (h : Sta w0 w sb bb ab db rb F G s z K turn spent) (hs : DkStep w w' w0.heap.size (db k) (F k) t) : ∃ F', Sta w0 w' sb bb ab db rb (upk F k F') G (upk s k t) z K turn spent := by
  obtain ⟨F', h1, h2, h3, h4⟩ := hs
  have hK : ∀ i, K i → i < w.heap.size := by obtain ⟨_, _, _, _, _, _, _, _, _, _, h5⟩ := h.bk; exact fun i hi => (h5 i hi).2
  have c : ∀ j i, upk F k F' j i → F j i ∨ (j = k ∧ w.heap.size ≤ i) := by
    intro j i hi
    by_cases e : j = k
    · subst e
      rw [upk_same] at hi
      exact (h4 i hi).imp_right (fun h9 => ⟨rfl, h9⟩)
    · rw [upk_other _ e] at hi
      exact .inl hi
  refine ⟨F', (h2.block _ h.slt (fun e => h.sf k _ e rfl)).trans h.blk, fun j => ?_, fun j => (h.r j).upd h2 (fun i hi => h.fg k j i hi), fun a b hab i ha hb => ?_, h.gg, fun a j i ha hg => ?_, fun j i hi => ?_, h.sg, h.bk.upd h2 (fun i hi => h.kf k i hi), fun j i hi hk => ?_, h.kg, h.ks, h.sl, h.bel.trans h3⟩
  · by_cases e : j = k
    · subst e
      rw [upk_same, upk_same]
      exact h1
    · rw [upk_other _ e, upk_other _ e]
      exact (h.d j).upd h2 (fun i hi => h.ff k j (fun e' => e e'.symm) i hi)
  · rcases c a i ha with h5 | ⟨e1, h5⟩ <;> rcases c b i hb with h6 | ⟨e2, h6⟩
    · exact h.ff a b hab i h5 h6
    · have := ((h.d a).fl i h5).2; omega
    · have := ((h.d b).fl i h6).2; omega
    · exact hab (e1.trans e2.symm)
  · rcases c a i ha with h5 | ⟨_, h5⟩
    · exact h.fg a j i h5 hg
    · have := ((h.r j).fl i hg).2; omega
  · rcases c j i hi with h5 | ⟨_, h5⟩
    · exact h.sf j i h5
    · have := h.slt; omega
  · rcases c j i hi with h5 | ⟨_, h5⟩
    · exact h.kf j i h5 hk
    · have := hK i hk; omega
theorem Sta.stepR (h : Sta w0 w sb bb ab db rb F G s z K turn spent) (hs : RfStep w w' w0.heap.size (rb k) (G k) t) : ∃ G', Sta w0 w' sb bb ab db rb F (upk G k G') s (upk z k t) K turn spent := by
  obtain ⟨G', h1, h2, h3, h4⟩ := hs
  have hK : ∀ i, K i → i < w.heap.size := by obtain ⟨_, _, _, _, _, _, _, _, _, _, h5⟩ := h.bk; exact fun i hi => (h5 i hi).2
  have hG : ∀ i, i = rb k → G k i := fun i e => by rw [e]; exact (h.r k).at_
  have c : ∀ j i, upk G k G' j i → G j i ∨ (j = k ∧ w.heap.size ≤ i) := by
    intro j i hi
    by_cases e : j = k
    · subst e
      rw [upk_same] at hi
      exact (h4 i hi).imp_right (fun h9 => ⟨rfl, h9⟩)
    · rw [upk_other _ e] at hi
      exact .inl hi
  refine ⟨G', (h2.block _ h.slt (fun e => h.sg k _ (hG _ e) rfl)).trans h.blk, fun j => (h.d j).upd h2 (fun i hi hf => h.fg j k i hf (hG i hi)), fun j => ?_, h.ff, fun a b hab i ha hb => ?_, fun a j i ha hg => ?_, h.sf, fun j i hi => ?_, h.bk.upd h2 (fun i hi => h.kg k i (hG i hi)), h.kf, fun j i hi hk => ?_, h.ks, h.sl, h.bel.trans h3⟩
  · by_cases e : j = k
    · subst e
      rw [upk_same, upk_same]
      exact h1
    · rw [upk_other _ e, upk_other _ e]
      exact (h.r j).upd h2 (fun i hi => h.gg k j (fun e' => e e'.symm) i (hG i hi))
  · rcases c a i ha with h5 | ⟨e1, h5⟩ <;> rcases c b i hb with h6 | ⟨e2, h6⟩
    · exact h.gg a b hab i h5 h6
    · have := ((h.r a).fl i h5).2; omega
    · have := ((h.r b).fl i h6).2; omega
    · exact hab (e1.trans e2.symm)
  · rcases c j i hg with h5 | ⟨_, h5⟩
    · exact h.fg a j i ha h5
    · have := ((h.d a).fl i ha).2; omega
  · rcases c j i hi with h5 | ⟨_, h5⟩
    · exact h.sg j i h5
    · have := h.slt; omega
  · rcases c j i hi with h5 | ⟨_, h5⟩
    · exact h.kg j i h5 hk
    · have := hK i hk; omega
/-- An answer of Read, Names, Files. -/
theorem Sta.readD (h : Sta w0 w sb bb ab db rb F G s z K turn spent) (k : Bool) (hd : DkS w' w0.heap.size (db k) (F k) (s k)) (hu : Upd (fun i => i = db k) w w') (hb : Below w0.heap.size w w') : Sta w0 w' sb bb ab db rb F G s z K turn spent := by
  have hF : ∀ i, i = db k → F k i := fun i e => by rw [e]; exact (h.d k).dk.at_
  obtain ⟨F', h9⟩ := h.stepD (k := k) ⟨F k, hd, hu.mono (fun i hi _ => hF i hi), hb, fun i hi => .inl hi⟩
  exact ⟨h9.blk, fun j => by
      by_cases e : j = k
      · subst e; exact hd
      · exact (h.d j).upd hu (fun i hi => h.ff k j (fun e' => e e'.symm) i (hF i hi)), h9.r, h.ff, h.gg, h.fg, h.sf, h.sg, h9.bk, h.kf, h.kg, h.ks, h.sl, h9.bel⟩
/-- The stage's counters are turned. -/
theorem Sta.count (h : Sta w0 w sb bb ab db rb F G s z K turn spent) (j : Nat) (v : Value) (turn' spent' : Int) (hj : ((stc (.pointer (some ⟨db false, 0, none⟩)) (.pointer (some ⟨db true, 0, none⟩)) (.pointer (some ⟨rb false, 0, none⟩)) (.pointer (some ⟨rb true, 0, none⟩)) bb ab turn spent).setIfInBounds j v) = stc (.pointer (some ⟨db false, 0, none⟩)) (.pointer (some ⟨db true, 0, none⟩)) (.pointer (some ⟨rb false, 0, none⟩)) (.pointer (some ⟨rb true, 0, none⟩)) bb ab turn' spent') : Sta w0 (w.setCell ⟨sb, j, none⟩ v) sb bb ab db rb F G s z K turn' spent' := by
  have hu : Upd (fun i => i = sb) w (w.setCell ⟨sb, j, none⟩ v) := (Upd.refl (fun i => i = sb) w).setCell (fun _ => rfl) _
  exact ⟨by rw [setCell_row h.blk, hj], fun k => (h.d k).upd hu (fun i hi hf => h.sf k i hf hi), fun k => (h.r k).upd hu (fun i hi hf => h.sg k i hf hi), h.ff, h.gg, h.fg, h.sf, h.sg, h.bk.upd hu (fun i hi hk => h.ks (by rw [← hi]; exact hk)), h.kf, h.kg, h.ks, h.sl, h.bel.trans (hu.below (fun i hi _ => by rw [hi]; exact h.sl) h.bw)⟩
end
end Go.Proofs.YtcmllfnhdodbdaaGreatDoor
/- posternlaw9: the stage's questions: read, names, files. -/
namespace Go.Proofs.YtcmllfnhdodbdaaGreatDoor
set_option linter.unusedVariables false
set_option linter.unusedSimpArgs false
open Go.RowKit Go.Maps
theorem Sta.q {w0 w : World} {sb bb ab : Nat} {db rb : Bool → Nat} {F G : Bool → Nat → Prop} {s z : Bool → DS} {K : Nat → Prop} {turn spent : Int} (h : Sta w0 w sb bb ab db rb F G s z K turn spent) : w.cell? ⟨sb, 0, none⟩ = some (.pointer (some ⟨db false, 0, none⟩)) ∧ w.cell? ⟨sb, 1, none⟩ = some (.pointer (some ⟨db true, 0, none⟩)) ∧ w.cell? ⟨sb, 2, none⟩ = some (.pointer (some ⟨rb false, 0, none⟩)) ∧ w.cell? ⟨sb, 3, none⟩ = some (.pointer (some ⟨rb true, 0, none⟩)) ∧ w.cell? ⟨sb, 4, none⟩ = some (.bool false) ∧ w.cell? ⟨sb, 5, none⟩ = some (.pointer (some ⟨bb, 0, none⟩)) ∧ w.cell? ⟨sb, 7, none⟩ = some (.int .i64 turn) ∧ w.cell? ⟨sb, 8, none⟩ = some (.int .i64 spent) :=
  ⟨by rw [cell_of_row' h.blk]; rfl, by rw [cell_of_row' h.blk]; rfl, by rw [cell_of_row' h.blk]; rfl, by rw [cell_of_row' h.blk]; rfl, by rw [cell_of_row' h.blk]; rfl, by rw [cell_of_row' h.blk]; rfl, by rw [cell_of_row' h.blk]; rfl, by rw [cell_of_row' h.blk]; rfl⟩
set_option maxRecDepth 100000 in
set_option maxHeartbeats 4000000 in
theorem read9_calls {w0 w : World} {sb bb ab : Nat} {db rb : Bool → Nat} {F G : Bool → Nat → Prop} {s : Bool → DS} {K : Nat → Prop} {turn spent : Int} (h : Sta w0 w sb bb ab db rb F G s s K turn spent) (k : Bool) (nm : List UInt8) (hnm : nm.length ≤ 140737488351232) :
    Calls Tryz.prog 67 #[.pointer (some ⟨sb, 0, none⟩), .int .i64 (kz k), .string ⟨nm.toArray⟩] w fun r w' => r = .returned (.bool true) ∧ Sta w0 w' sb bb ab db rb F G s s K turn spent := by
  have H := Lib.hid h
  have RL := Lib.hid (show (readB (s k) nm).length ≤ 268435456 by
    unfold readB
    split
    · exact (h.d k).dk.ok.byt nm
    · exact Nat.zero_le _)
  have R1 := Lib.hid (Read_dk nm (h.d k).dk hnm)
  clear h
  obtain ⟨t, ht⟩ : ∃ q, readB (s k) nm = q := ⟨_, rfl⟩
  obtain ⟨e, he⟩ : ∃ q, (s k).may true [nm] = q := ⟨_, rfl⟩
  have HT := Lib.hid ht; have HE := Lib.hid he
  have tl : t.length ≤ 268435456 := by have := RL.out; rw [ht] at this; exact this
  rw [ht, he] at R1
  clear ht he RL
  have tt : (t == t) = true := by simp
  have te : (e == e) = true := by simp
  have tn : ((t.length : Int) == (t.length : Int)) = true := by simp
  go_enter Tryz.func67, Tryz.ntmps67
  cases k with
  | false =>
    simp only [kz, if_true, if_false, Bool.false_eq_true]
    obtain ⟨p0, p1, p2, p3, p4, -, -, -⟩ := H.out.q
    go_wp2_with fail
    refine R1.out.mono ?_
    rintro r w1 ⟨v1, rfl, o1, d1, u1⟩
    have rd1 := (H.out.d false).read d1 u1
    have S1 := Lib.hid (H.out.readD false rd1.1 u1 rd1.2.2)
    obtain ⟨a1, c1, rfl, -, -, -⟩ := o1.shape'
    have O1 := Lib.hid o1
    have R2 := Lib.hid (by
      have h9 := Read_dk nm (S1.out.d false).dk hnm
      rw [HT.out, HE.out] at h9
      exact h9)
    obtain ⟨p0, p1, p2, p3, p4, -, -, -⟩ := S1.out.q
    clear o1 d1 u1 rd1 R1
    go_wp2_with fail
    refine R2.out.mono ?_
    rintro r w2 ⟨v2, rfl, o2, d2, u2⟩
    have rd2 := (S1.out.d false).read d2 u2
    have S2 := Lib.hid (S1.out.readD false rd2.1 u2 rd2.2.2)
    have O1b := Lib.hid (O1.out.upd u2 (fun j hj e => by have h1 := (O1.out.lt j hj).1; have h2 := ((H.out.d false).fl _ (H.out.d false).dk.at_).2; rw [e] at h1; omega))
    obtain ⟨a2, c2, rfl, -, -, -⟩ := o2.shape'
    have O2 := Lib.hid o2
    have R3 := Lib.hid (by
      have h9 := Read9_calls (S2.out.r false) nm (by omega)
      rw [HT.out, HE.out] at h9
      exact h9)
    obtain ⟨p0, p1, p2, p3, p4, -, -, -⟩ := S2.out.q
    clear o2 d2 u2 rd2 R2 O1
    go_wp2_with fail
    refine R3.out.mono ?_
    rintro r w3 ⟨v3, rfl, o3, b3⟩
    have S3 := Lib.hid (S2.out.below b3)
    obtain ⟨a3, c3, rfl, -, -, -⟩ := o3.shape'
    have O3 := Lib.hid o3
    have O1c := Lib.hid (O1b.out.below b3)
    have O2c := Lib.hid (O2.out.below b3)
    have R4 := Lib.hid (by
      have h9 := Size_dk nm (S3.out.d false).dk hnm
      rw [HT.out, HE.out] at h9
      exact h9)
    obtain ⟨p0, p1, p2, p3, p4, -, -, -⟩ := S3.out.q
    clear o3 b3 R3 O1b O2
    go_wp2_with fail
    refine R4.out.mono ?_
    rintro r w4 ⟨rfl, d4, u4⟩
    have rd4 := (S3.out.d false).read d4 u4
    have S4 := Lib.hid (S3.out.readD false rd4.1 u4 rd4.2.2)
    have lt0 := ((H.out.d false).fl _ (H.out.d false).dk.at_).2
    have lt1 := ((S1.out.d false).fl _ (S1.out.d false).dk.at_).2
    have lt2 := ((S2.out.d false).fl _ (S2.out.d false).dk.at_).2
    have O1d := Lib.hid (O1c.out.upd u4 (fun j hj e => by have h1 := (O1c.out.lt j hj).1; rw [e] at h1; omega))
    have O2d := Lib.hid (O2c.out.upd u4 (fun j hj e => by have h1 := (O2c.out.lt j hj).1; rw [e] at h1; omega))
    have O3d := Lib.hid (O3.out.upd u4 (fun j hj e => by have h1 := (O3.out.lt j hj).1; rw [e] at h1; omega))
    have R5 := Lib.hid (by
      have h9 := Size9_calls (S4.out.r false) nm (by omega)
      rw [HT.out, HE.out] at h9
      exact h9)
    obtain ⟨p0, p1, p2, p3, p4, -, -, -⟩ := S4.out.q
    clear d4 u4 rd4 R4 O1c O2c O3 lt0 lt1 lt2
    go_wp2_with fail
    refine R5.out.mono ?_
    rintro r w5 ⟨rfl, b5⟩
    have S5 := Lib.hid (S4.out.below b5)
    obtain ⟨_, _, hv1, -, -, y1, -, -⟩ := own_val (O1d.out.below b5)
    obtain ⟨_, _, hv2, -, -, y2, -, -⟩ := own_val (O2d.out.below b5)
    obtain ⟨_, _, hv3, -, -, y3, -, -⟩ := own_val (O3d.out.below b5)
    simp only [Value.slice.injEq] at hv1 hv2 hv3
    obtain ⟨rfl, -, rfl⟩ := hv1
    obtain ⟨rfl, -, rfl⟩ := hv2
    obtain ⟨rfl, -, rfl⟩ := hv3
    have x1 : (convert 33 9 (.slice a1 t.length c1)).run Tryz.prog w5 = .ok (.string ⟨t.toArray⟩) w5 := conv_bytes Tryz.underlying33 Tryz.underlying5 Tryz.underlying9 y1
    have x2 : (convert 33 9 (.slice a2 t.length c2)).run Tryz.prog w5 = .ok (.string ⟨t.toArray⟩) w5 := conv_bytes Tryz.underlying33 Tryz.underlying5 Tryz.underlying9 y2
    have x3 : (convert 33 9 (.slice a3 t.length c3)).run Tryz.prog w5 = .ok (.string ⟨t.toArray⟩) w5 := conv_bytes Tryz.underlying33 Tryz.underlying5 Tryz.underlying9 y3
    obtain ⟨p0, p1, p2, p3, p4, -, -, -⟩ := S5.out.q
    clear b5 R5 O1d O2d O3d y1 y2 y3
    go_wp2_with (go_at_call 9; refine (num9_calls _ _).mono ?_; rintro r wx ⟨rfl, rfl⟩)
    go_ret
    exact ⟨by first | rfl | simp, S5.out⟩
  | true =>
    simp only [kz, if_true, if_false, Bool.false_eq_true]
    obtain ⟨p0, p1, p2, p3, p4, -, -, -⟩ := H.out.q
    go_wp2_with fail
    refine R1.out.mono ?_
    rintro r w1 ⟨v1, rfl, o1, d1, u1⟩
    have rd1 := (H.out.d true).read d1 u1
    have S1 := Lib.hid (H.out.readD true rd1.1 u1 rd1.2.2)
    obtain ⟨a1, c1, rfl, -, -, -⟩ := o1.shape'
    have O1 := Lib.hid o1
    have R2 := Lib.hid (by
      have h9 := Read_dk nm (S1.out.d true).dk hnm
      rw [HT.out, HE.out] at h9
      exact h9)
    obtain ⟨p0, p1, p2, p3, p4, -, -, -⟩ := S1.out.q
    clear o1 d1 u1 rd1 R1
    go_wp2_with fail
    refine R2.out.mono ?_
    rintro r w2 ⟨v2, rfl, o2, d2, u2⟩
    have rd2 := (S1.out.d true).read d2 u2
    have S2 := Lib.hid (S1.out.readD true rd2.1 u2 rd2.2.2)
    have O1b := Lib.hid (O1.out.upd u2 (fun j hj e => by have h1 := (O1.out.lt j hj).1; have h2 := ((H.out.d true).fl _ (H.out.d true).dk.at_).2; rw [e] at h1; omega))
    obtain ⟨a2, c2, rfl, -, -, -⟩ := o2.shape'
    have O2 := Lib.hid o2
    have R3 := Lib.hid (by
      have h9 := Read9_calls (S2.out.r true) nm (by omega)
      rw [HT.out, HE.out] at h9
      exact h9)
    obtain ⟨p0, p1, p2, p3, p4, -, -, -⟩ := S2.out.q
    clear o2 d2 u2 rd2 R2 O1
    go_wp2_with fail
    refine R3.out.mono ?_
    rintro r w3 ⟨v3, rfl, o3, b3⟩
    have S3 := Lib.hid (S2.out.below b3)
    obtain ⟨a3, c3, rfl, -, -, -⟩ := o3.shape'
    have O3 := Lib.hid o3
    have O1c := Lib.hid (O1b.out.below b3)
    have O2c := Lib.hid (O2.out.below b3)
    have R4 := Lib.hid (by
      have h9 := Size_dk nm (S3.out.d true).dk hnm
      rw [HT.out, HE.out] at h9
      exact h9)
    obtain ⟨p0, p1, p2, p3, p4, -, -, -⟩ := S3.out.q
    clear o3 b3 R3 O1b O2
    go_wp2_with fail
    refine R4.out.mono ?_
    rintro r w4 ⟨rfl, d4, u4⟩
    have rd4 := (S3.out.d true).read d4 u4
    have S4 := Lib.hid (S3.out.readD true rd4.1 u4 rd4.2.2)
    have lt0 := ((H.out.d true).fl _ (H.out.d true).dk.at_).2
    have lt1 := ((S1.out.d true).fl _ (S1.out.d true).dk.at_).2
    have lt2 := ((S2.out.d true).fl _ (S2.out.d true).dk.at_).2
    have O1d := Lib.hid (O1c.out.upd u4 (fun j hj e => by have h1 := (O1c.out.lt j hj).1; rw [e] at h1; omega))
    have O2d := Lib.hid (O2c.out.upd u4 (fun j hj e => by have h1 := (O2c.out.lt j hj).1; rw [e] at h1; omega))
    have O3d := Lib.hid (O3.out.upd u4 (fun j hj e => by have h1 := (O3.out.lt j hj).1; rw [e] at h1; omega))
    have R5 := Lib.hid (by
      have h9 := Size9_calls (S4.out.r true) nm (by omega)
      rw [HT.out, HE.out] at h9
      exact h9)
    obtain ⟨p0, p1, p2, p3, p4, -, -, -⟩ := S4.out.q
    clear d4 u4 rd4 R4 O1c O2c O3 lt0 lt1 lt2
    go_wp2_with fail
    refine R5.out.mono ?_
    rintro r w5 ⟨rfl, b5⟩
    have S5 := Lib.hid (S4.out.below b5)
    obtain ⟨_, _, hv1, -, -, y1, -, -⟩ := own_val (O1d.out.below b5)
    obtain ⟨_, _, hv2, -, -, y2, -, -⟩ := own_val (O2d.out.below b5)
    obtain ⟨_, _, hv3, -, -, y3, -, -⟩ := own_val (O3d.out.below b5)
    simp only [Value.slice.injEq] at hv1 hv2 hv3
    obtain ⟨rfl, -, rfl⟩ := hv1
    obtain ⟨rfl, -, rfl⟩ := hv2
    obtain ⟨rfl, -, rfl⟩ := hv3
    have x1 : (convert 33 9 (.slice a1 t.length c1)).run Tryz.prog w5 = .ok (.string ⟨t.toArray⟩) w5 := conv_bytes Tryz.underlying33 Tryz.underlying5 Tryz.underlying9 y1
    have x2 : (convert 33 9 (.slice a2 t.length c2)).run Tryz.prog w5 = .ok (.string ⟨t.toArray⟩) w5 := conv_bytes Tryz.underlying33 Tryz.underlying5 Tryz.underlying9 y2
    have x3 : (convert 33 9 (.slice a3 t.length c3)).run Tryz.prog w5 = .ok (.string ⟨t.toArray⟩) w5 := conv_bytes Tryz.underlying33 Tryz.underlying5 Tryz.underlying9 y3
    obtain ⟨p0, p1, p2, p3, p4, -, -, -⟩ := S5.out.q
    clear b5 R5 O1d O2d O3d y1 y2 y3
    go_wp2_with (go_at_call 9; refine (num9_calls _ _).mono ?_; rintro r wx ⟨rfl, rfl⟩)
    go_ret
    exact ⟨by first | rfl | simp, S5.out⟩
set_option maxRecDepth 100000 in
set_option maxHeartbeats 4000000 in
theorem names9s_calls {w0 w : World} {sb bb ab : Nat} {db rb : Bool → Nat} {F G : Bool → Nat → Prop} {s : Bool → DS} {K : Nat → Prop} {turn spent : Int} (h : Sta w0 w sb bb ab db rb F G s s K turn spent) (k : Bool) :
    Calls Tryz.prog 68 #[.pointer (some ⟨sb, 0, none⟩), .int .i64 (kz k)] w fun r w' => r = .returned (.bool true) ∧ Sta w0 w' sb bb ab db rb F G s s K turn spent := by
  have H := Lib.hid h
  have LL : (namesB (s k)).length ≤ 64 := by
    unfold namesB
    split
    · exact Nat.zero_le _
    · rw [nmsC, List.length_map]; exact (h.d k).dk.ok.len
  have NX := Lib.hid (fun (wx : World) (hx : DkS wx w0.heap.size (db k) (F k) (s k)) => (Names_s hx).mono (fun r w' hr => show ∃ v, r = .returned (.tuple #[v, .int .i64 (if (s k).off = true then 94 else 0)]) ∧ Own w' wx.heap.size 9 1 v (namesB (s k)).length (strs (namesB (s k))) ∧ DkS w' w0.heap.size (db k) (F k) (s k) ∧ Upd (fun i => i = db k) wx w' ∧ Below w0.heap.size wx w' from by
    obtain ⟨v, l, h1, h2, h3, h4⟩ := hr
    have e : l = namesB (s k) := h2
    rw [e] at h3
    exact ⟨v, h1, h3, h4⟩))
  have NY := Lib.hid (fun (wx : World) (hx : RfS wx w0.heap.size (rb k) (G k) (s k)) => Names9_calls hx)
  clear h
  obtain ⟨l, hl⟩ : ∃ q, namesB (s k) = q := ⟨_, rfl⟩
  obtain ⟨e, he⟩ : ∃ q : Int, (if (s k).off = true then 94 else 0) = q := ⟨_, rfl⟩
  rw [hl, he] at NX NY
  rw [hl] at LL
  clear hl he
  have te : (e == e) = true := by simp
  go_enter Tryz.func68, Tryz.ntmps68
  cases k with
  | false =>
    simp only [kz, if_true, if_false, Bool.false_eq_true]
    have R1 := Lib.hid (NX.out w (H.out.d false))
    obtain ⟨p0, p1, p2, p3, p4, -, -, -⟩ := H.out.q
    go_wp2_with fail
    refine R1.out.mono ?_
    rintro r w1 ⟨v1, rfl, o1, d1, u1, b1⟩
    have S1 := Lib.hid (H.out.readD false d1 u1 b1)
    have O1 := Lib.hid o1
    have R2 := Lib.hid (NX.out w1 (S1.out.d false))
    obtain ⟨p0, p1, p2, p3, p4, -, -, -⟩ := S1.out.q
    clear o1 d1 u1 b1 R1
    go_wp2_with fail
    refine R2.out.mono ?_
    rintro r w2 ⟨v2, rfl, o2, d2, u2, b2⟩
    have S2 := Lib.hid (S1.out.readD false d2 u2 b2)
    have O1b := Lib.hid (O1.out.upd u2 (fun j hj e => by have h1 := (O1.out.lt j hj).1; have h2 := ((H.out.d false).fl _ (H.out.d false).dk.at_).2; rw [e] at h1; omega))
    have O2 := Lib.hid o2
    have R3 := Lib.hid (NY.out w2 (S2.out.r false))
    obtain ⟨p0, p1, p2, p3, p4, -, -, -⟩ := S2.out.q
    clear o2 d2 u2 b2 R2 O1
    go_wp2_with fail
    refine R3.out.mono ?_
    rintro r w3 ⟨v3, rfl, o3, b3⟩
    have S3 := Lib.hid (S2.out.below b3)
    have O3 := Lib.hid o3
    have O2c := Lib.hid (O2.out.below b3)
    have E1 := Lib.hid (EqStrings_same l _ _ v1 v3 w3 (O1b.out.below b3) o3 (by omega))
    obtain ⟨p0, p1, p2, p3, p4, -, -, -⟩ := S3.out.q
    clear o3 b3 R3 O1b O2
    go_wp2_with (go_at_call 9; refine (num9_calls _ _).mono ?_; rintro r wx ⟨rfl, rfl⟩)
    refine E1.out.mono ?_
    rintro r w4 ⟨rfl, b4⟩
    have S4 := Lib.hid (S3.out.below b4)
    have E2 := Lib.hid (EqStrings_same l _ _ v2 v3 w4 (O2c.out.below b4) (O3.out.below b4) (by omega))
    obtain ⟨p0, p1, p2, p3, p4, -, -, -⟩ := S4.out.q
    clear b4 E1 O2c O3
    go_wp2_with fail
    refine E2.out.mono ?_
    rintro r w5 ⟨rfl, b5⟩
    have S5 := Lib.hid (S4.out.below b5)
    obtain ⟨p0, p1, p2, p3, p4, -, -, -⟩ := S5.out.q
    clear b5 E2
    go_wp2
    go_ret
    exact ⟨by first | rfl | simp, S5.out⟩
  | true =>
    simp only [kz, if_true, if_false, Bool.false_eq_true]
    have R1 := Lib.hid (NX.out w (H.out.d true))
    obtain ⟨p0, p1, p2, p3, p4, -, -, -⟩ := H.out.q
    go_wp2_with fail
    refine R1.out.mono ?_
    rintro r w1 ⟨v1, rfl, o1, d1, u1, b1⟩
    have S1 := Lib.hid (H.out.readD true d1 u1 b1)
    have O1 := Lib.hid o1
    have R2 := Lib.hid (NX.out w1 (S1.out.d true))
    obtain ⟨p0, p1, p2, p3, p4, -, -, -⟩ := S1.out.q
    clear o1 d1 u1 b1 R1
    go_wp2_with fail
    refine R2.out.mono ?_
    rintro r w2 ⟨v2, rfl, o2, d2, u2, b2⟩
    have S2 := Lib.hid (S1.out.readD true d2 u2 b2)
    have O1b := Lib.hid (O1.out.upd u2 (fun j hj e => by have h1 := (O1.out.lt j hj).1; have h2 := ((H.out.d true).fl _ (H.out.d true).dk.at_).2; rw [e] at h1; omega))
    have O2 := Lib.hid o2
    have R3 := Lib.hid (NY.out w2 (S2.out.r true))
    obtain ⟨p0, p1, p2, p3, p4, -, -, -⟩ := S2.out.q
    clear o2 d2 u2 b2 R2 O1
    go_wp2_with fail
    refine R3.out.mono ?_
    rintro r w3 ⟨v3, rfl, o3, b3⟩
    have S3 := Lib.hid (S2.out.below b3)
    have O3 := Lib.hid o3
    have O2c := Lib.hid (O2.out.below b3)
    have E1 := Lib.hid (EqStrings_same l _ _ v1 v3 w3 (O1b.out.below b3) o3 (by omega))
    obtain ⟨p0, p1, p2, p3, p4, -, -, -⟩ := S3.out.q
    clear o3 b3 R3 O1b O2
    go_wp2_with (go_at_call 9; refine (num9_calls _ _).mono ?_; rintro r wx ⟨rfl, rfl⟩)
    refine E1.out.mono ?_
    rintro r w4 ⟨rfl, b4⟩
    have S4 := Lib.hid (S3.out.below b4)
    have E2 := Lib.hid (EqStrings_same l _ _ v2 v3 w4 (O2c.out.below b4) (O3.out.below b4) (by omega))
    obtain ⟨p0, p1, p2, p3, p4, -, -, -⟩ := S4.out.q
    clear b4 E1 O2c O3
    go_wp2_with fail
    refine E2.out.mono ?_
    rintro r w5 ⟨rfl, b5⟩
    have S5 := Lib.hid (S4.out.below b5)
    obtain ⟨p0, p1, p2, p3, p4, -, -, -⟩ := S5.out.q
    clear b5 E2
    go_wp2
    go_ret
    exact ⟨by first | rfl | simp, S5.out⟩
set_option maxRecDepth 100000 in
set_option maxHeartbeats 4000000 in
theorem files9s_calls {w0 w : World} {sb bb ab : Nat} {db rb : Bool → Nat} {F G : Bool → Nat → Prop} {s : Bool → DS} {K : Nat → Prop} {turn spent : Int} (h : Sta w0 w sb bb ab db rb F G s s K turn spent) (k : Bool) :
    Calls Tryz.prog 44 #[.pointer (some ⟨sb, 0, none⟩), .int .i64 (kz k)] w fun r w' => r = .returned (.bool true) ∧ ∃ F', Sta w0 w' sb bb ab db rb F' G s s K turn spent := by
  have H := Lib.hid h
  have LL : (s k).C.length ≤ 64 := (h.d k).dk.ok.len
  have BS : ∀ p ∈ (s k).C, p.2.length ≤ 140737488355328 := fun p hp => by
    have h2 := (h.d k).dk.ok.byt p.1
    rw [bytC_mem (h.d k).dk.ok.so hp] at h2
    omega
  have BSH := Lib.hid BS
  have NX := Lib.hid (fun (wx : World) (hx : DkS wx w0.heap.size (db k) (F k) (s k)) => (Files_s hx).mono (fun r w' hr => show ∃ a c, r = .returned (.slice a (s k).C.length c) ∧ FilB w' wx.heap.size a (s k).C ∧ DkS w' w0.heap.size (db k) (F k) (s k) ∧ Upd (fun i => i = db k) wx w' ∧ Below w0.heap.size wx w' from by
    obtain ⟨a, c, h1, _, h3, h4⟩ := hr
    exact ⟨a, c, h1, h3, h4⟩))
  have NY := Lib.hid (fun (wx : World) (hx : RfS wx w0.heap.size (rb k) (G k) (s k)) => (Files9_calls hx).mono (fun r w' hr => show ∃ a c, r = .returned (.slice a (s k).C.length c) ∧ Fil w' a (s k).C ∧ Below wx.heap.size wx w' from by
    obtain ⟨v, M, h1, h2, h3, h4⟩ := hr
    obtain ⟨a, c, hv, -, hfl⟩ := h3.fil
    rw [h2] at hfl
    have hl : M.length = (s k).C.length := by rw [← h2]; simp [conF]
    rw [hl] at hv
    exact ⟨a, c, by rw [h1, hv], hfl, h4⟩))
  have OF := Lib.hid (fun (wx : World) (Fx : Nat → Prop) (hx : DkS wx w0.heap.size (db k) Fx (s k)) => hx.offq)
  have WF := Lib.hid (fun (wx : World) (Fx : Nat → Prop) (hx : DkS wx w0.heap.size (db k) Fx (s k)) => Writes_s hx)
  have MF := Lib.hid (fun (wx : World) (Fx : Nat → Prop) (hx : DkS wx w0.heap.size (db k) Fx (s k)) => Room_dk hx.dk)
  have CX := Lib.hid (fun (wx : World) (hx : RfS wx w0.heap.size (rb k) (G k) (s k)) => show wx.cell? ⟨rb k, 4, none⟩ = some (.bool (s k).off) ∧ wx.cell? ⟨rb k, 5, none⟩ = some (.int .i64 ((s k).writes : Int)) ∧ wx.cell? ⟨rb k, 0, none⟩ = some (.int .i64 ((s k).room : Int)) from by
    obtain ⟨a, c, blk, _⟩ := hx.cells
    obtain ⟨q0, _, _, _, q4, q5⟩ := rf_of blk
    exact ⟨q4, q5, q0⟩)
  clear h BS
  obtain ⟨o, ho⟩ : ∃ q, (s k).off = q := ⟨_, rfl⟩
  obtain ⟨nw, hnw⟩ : ∃ q, (s k).writes = q := ⟨_, rfl⟩
  obtain ⟨nr, hnr⟩ : ∃ q, (s k).room = q := ⟨_, rfl⟩
  rw [ho] at OF CX
  rw [hnw] at WF CX
  rw [hnr] at MF CX
  obtain ⟨C, hC⟩ : ∃ q, (s k).C = q := ⟨_, rfl⟩
  rw [hC] at NX NY LL BSH
  clear ho hnw hnr hC
  have t1 : (o == o) = true := by simp
  have t2 : ((nw : Int) == (nw : Int)) = true := by simp
  have t3 : ((nr : Int) == (nr : Int)) = true := by simp
  go_enter Tryz.func44, Tryz.ntmps44
  cases k with
  | false =>
    simp only [kz, if_true, if_false, Bool.false_eq_true]
    have R1 := Lib.hid (NX.out w (H.out.d false))
    obtain ⟨p0, p1, p2, p3, p4, -, -, -⟩ := H.out.q
    go_wp2_with fail
    refine R1.out.mono ?_
    rintro r w1 ⟨a1, c1, rfl, o1, d1, u1, b1⟩
    have S1 := Lib.hid (H.out.readD false d1 u1 b1)
    have O1 := Lib.hid o1
    have R2 := Lib.hid (NX.out w1 (S1.out.d false))
    obtain ⟨p0, p1, p2, p3, p4, -, -, -⟩ := S1.out.q
    clear o1 d1 u1 b1 R1
    go_wp2_with fail
    refine R2.out.mono ?_
    rintro r w2 ⟨a2, c2, rfl, o2, d2, u2, b2⟩
    have S2 := Lib.hid (S1.out.readD false d2 u2 b2)
    have O1b := Lib.hid (O1.out.upd u2 (fun j e => by rw [e]; exact ((H.out.d false).fl _ (H.out.d false).dk.at_).2))
    have O2 := Lib.hid o2
    have R3 := Lib.hid (NY.out w2 (S2.out.r false))
    obtain ⟨p0, p1, p2, p3, p4, -, -, -⟩ := S2.out.q
    clear o2 d2 u2 b2 R2 O1
    go_wp2_with fail
    refine R3.out.mono ?_
    rintro r w3 ⟨a3, c3, rfl, o3, b3⟩
    have S3 := Lib.hid (S2.out.below b3)
    have O3 := Lib.hid o3
    have O2c := Lib.hid (O2.out.below b3)
    have E1 := Lib.hid (EqFiles_same C a1 a3 c1 c3 w3 (O1b.out.below b3).fil o3 (by omega) BSH.out)
    obtain ⟨p0, p1, p2, p3, p4, -, -, -⟩ := S3.out.q
    clear o3 b3 R3 O1b O2
    go_wp2_with fail
    refine E1.out.mono ?_
    rintro r w4 ⟨rfl, b4⟩
    have S4 := Lib.hid (S3.out.below b4)
    have E2 := Lib.hid (EqFiles_same C a2 a3 c2 c3 w4 (O2c.out.below b4).fil (O3.out.below b4) (by omega) BSH.out)
    obtain ⟨p0, p1, p2, p3, p4, -, -, -⟩ := S4.out.q
    clear b4 E1 O2c O3
    go_wp2_with fail
    refine E2.out.mono ?_
    rintro r w5 ⟨rfl, b5⟩
    have S5 := Lib.hid (S4.out.below b5)
    obtain ⟨p0, p1, p2, p3, p4, -, -, -⟩ := S5.out.q
    clear b5 E2
    go_upto_region 9 with fail
    have S6 := Lib.hid (S5.out.below (w' := w5.drew) (bel_drew (Below.refl _ _)))
    have OC := Lib.hid (OF.out w5.drew (F false) (S6.out.d false))
    obtain ⟨q0, q1, q2, q3, -, -, -, -⟩ := S6.out.q
    obtain ⟨q4, q5, q6⟩ := CX.out _ (S6.out.r false)
    clear S1 S2 S3 S4 H NX NY
    go_region_held3 (fun w' => w'.cell? ⟨sb, 0, none⟩ = some (.pointer (some ⟨db false, 0, none⟩)) ∧ w'.cell? ⟨sb, 2, none⟩ = some (.pointer (some ⟨rb false, 0, none⟩)) ∧ w'.cell? ⟨rb false, 4, none⟩ = some (.bool o) ∧ w'.cell? ⟨rb false, 5, none⟩ = some (.int .i64 (nw : Int)) ∧ w'.cell? ⟨rb false, 0, none⟩ = some (.int .i64 (nr : Int)))
      (first
        | go_keep)
      (first
        | (go_at_call 16; (with_reducible refine OC.out.mono ?_); rintro r w7 ⟨rfl, st7⟩; obtain ⟨F7, s7⟩ := S6.out.stepD st7; rw [upk_eta] at s7; have S7 := Lib.hid s7; obtain ⟨q0, q1, q2, q3, -, -, -, -⟩ := s7.q; obtain ⟨q4, q5, q6⟩ := CX.out _ (s7.r false); have d7 := s7.d false; rw [upk_same] at d7; have WC := Lib.hid (WF.out w7 F7 d7); clear st7 s7 d7)
        | (go_at_call 14; (with_reducible refine WC.out.mono ?_); rintro r w8 ⟨rfl, st8⟩; have st8' : DkStep w7 w8 w0.heap.size (db false) (upk F false F7 false) (s false) := Eq.mp (congrArg (fun X => DkStep w7 w8 w0.heap.size (db false) X (s false)) (upk_same F false F7).symm) st8; obtain ⟨F8, s8⟩ := S7.out.stepD st8'; rw [upk_eta] at s8; have S8 := Lib.hid s8; obtain ⟨q0, q1, q2, q3, -, -, -, -⟩ := s8.q; obtain ⟨q4, q5, q6⟩ := CX.out _ (s8.r false); have d8 := s8.d false; rw [upk_same] at d8; have MC := Lib.hid (MF.out w8 F8 d8); clear st8 st8' s8 d8)
        | (go_at_call 76; (with_reducible refine MC.out.mono ?_); rintro r w9 ⟨rfl, rfl⟩))
    all_goals
      go_wp2
      go_ret
      exact ⟨by first | rfl | simp, _, S8.out⟩
  | true =>
    simp only [kz, if_true, if_false, Bool.false_eq_true]
    have R1 := Lib.hid (NX.out w (H.out.d true))
    obtain ⟨p0, p1, p2, p3, p4, -, -, -⟩ := H.out.q
    go_wp2_with fail
    refine R1.out.mono ?_
    rintro r w1 ⟨a1, c1, rfl, o1, d1, u1, b1⟩
    have S1 := Lib.hid (H.out.readD true d1 u1 b1)
    have O1 := Lib.hid o1
    have R2 := Lib.hid (NX.out w1 (S1.out.d true))
    obtain ⟨p0, p1, p2, p3, p4, -, -, -⟩ := S1.out.q
    clear o1 d1 u1 b1 R1
    go_wp2_with fail
    refine R2.out.mono ?_
    rintro r w2 ⟨a2, c2, rfl, o2, d2, u2, b2⟩
    have S2 := Lib.hid (S1.out.readD true d2 u2 b2)
    have O1b := Lib.hid (O1.out.upd u2 (fun j e => by rw [e]; exact ((H.out.d true).fl _ (H.out.d true).dk.at_).2))
    have O2 := Lib.hid o2
    have R3 := Lib.hid (NY.out w2 (S2.out.r true))
    obtain ⟨p0, p1, p2, p3, p4, -, -, -⟩ := S2.out.q
    clear o2 d2 u2 b2 R2 O1
    go_wp2_with fail
    refine R3.out.mono ?_
    rintro r w3 ⟨a3, c3, rfl, o3, b3⟩
    have S3 := Lib.hid (S2.out.below b3)
    have O3 := Lib.hid o3
    have O2c := Lib.hid (O2.out.below b3)
    have E1 := Lib.hid (EqFiles_same C a1 a3 c1 c3 w3 (O1b.out.below b3).fil o3 (by omega) BSH.out)
    obtain ⟨p0, p1, p2, p3, p4, -, -, -⟩ := S3.out.q
    clear o3 b3 R3 O1b O2
    go_wp2_with fail
    refine E1.out.mono ?_
    rintro r w4 ⟨rfl, b4⟩
    have S4 := Lib.hid (S3.out.below b4)
    have E2 := Lib.hid (EqFiles_same C a2 a3 c2 c3 w4 (O2c.out.below b4).fil (O3.out.below b4) (by omega) BSH.out)
    obtain ⟨p0, p1, p2, p3, p4, -, -, -⟩ := S4.out.q
    clear b4 E1 O2c O3
    go_wp2_with fail
    refine E2.out.mono ?_
    rintro r w5 ⟨rfl, b5⟩
    have S5 := Lib.hid (S4.out.below b5)
    obtain ⟨p0, p1, p2, p3, p4, -, -, -⟩ := S5.out.q
    clear b5 E2
    go_upto_region 9 with fail
    have S6 := Lib.hid (S5.out.below (w' := w5.drew) (bel_drew (Below.refl _ _)))
    have OC := Lib.hid (OF.out w5.drew (F true) (S6.out.d true))
    obtain ⟨q0, q1, q2, q3, -, -, -, -⟩ := S6.out.q
    obtain ⟨q4, q5, q6⟩ := CX.out _ (S6.out.r true)
    clear S1 S2 S3 S4 H NX NY
    go_region_held3 (fun w' => w'.cell? ⟨sb, 1, none⟩ = some (.pointer (some ⟨db true, 0, none⟩)) ∧ w'.cell? ⟨sb, 3, none⟩ = some (.pointer (some ⟨rb true, 0, none⟩)) ∧ w'.cell? ⟨rb true, 4, none⟩ = some (.bool o) ∧ w'.cell? ⟨rb true, 5, none⟩ = some (.int .i64 (nw : Int)) ∧ w'.cell? ⟨rb true, 0, none⟩ = some (.int .i64 (nr : Int)))
      (first
        | go_keep)
      (first
        | (go_at_call 16; (with_reducible refine OC.out.mono ?_); rintro r w7 ⟨rfl, st7⟩; obtain ⟨F7, s7⟩ := S6.out.stepD st7; rw [upk_eta] at s7; have S7 := Lib.hid s7; obtain ⟨q0, q1, q2, q3, -, -, -, -⟩ := s7.q; obtain ⟨q4, q5, q6⟩ := CX.out _ (s7.r true); have d7 := s7.d true; rw [upk_same] at d7; have WC := Lib.hid (WF.out w7 F7 d7); clear st7 s7 d7)
        | (go_at_call 14; (with_reducible refine WC.out.mono ?_); rintro r w8 ⟨rfl, st8⟩; have st8' : DkStep w7 w8 w0.heap.size (db true) (upk F true F7 true) (s true) := Eq.mp (congrArg (fun X => DkStep w7 w8 w0.heap.size (db true) X (s true)) (upk_same F true F7).symm) st8; obtain ⟨F8, s8⟩ := S7.out.stepD st8'; rw [upk_eta] at s8; have S8 := Lib.hid s8; obtain ⟨q0, q1, q2, q3, -, -, -, -⟩ := s8.q; obtain ⟨q4, q5, q6⟩ := CX.out _ (s8.r true); have d8 := s8.d true; rw [upk_same] at d8; have MC := Lib.hid (MF.out w8 F8 d8); clear st8 st8' s8 d8)
        | (go_at_call 76; (with_reducible refine MC.out.mono ?_); rintro r w9 ⟨rfl, rfl⟩))
    all_goals
      go_wp2
      go_ret
      exact ⟨by first | rfl | simp, _, S8.out⟩
end Go.Proofs.YtcmllfnhdodbdaaGreatDoor
/- posternlaw9: the stage's bytes and back, where nothing is marked. -/
namespace Go.Proofs.YtcmllfnhdodbdaaGreatDoor
set_option linter.unusedVariables false
set_option linter.unusedSimpArgs false
open Go.RowKit Go.Maps
theorem Sta.q7 {w0 w : World} {sb bb ab : Nat} {db rb : Bool → Nat} {F G : Bool → Nat → Prop} {s z : Bool → DS} {K : Nat → Prop} {turn spent : Int} (h : Sta w0 w sb bb ab db rb F G s z K turn spent) : w.cell? ⟨sb, 4, none⟩ = some (.bool false) ∧ w.cell? ⟨sb, 7, none⟩ = some (.int .i64 turn) ∧ w.cell? ⟨sb, 8, none⟩ = some (.int .i64 spent) ∧ w.frozen? ⟨sb, 7, none⟩ = false ∧ w.frozen? ⟨sb, 8, none⟩ = false :=
  ⟨by rw [cell_of_row' h.blk]; rfl, by rw [cell_of_row' h.blk]; rfl, by rw [cell_of_row' h.blk]; rfl, frozen_of_row h.blk 7, frozen_of_row h.blk 8⟩
set_option maxRecDepth 100000 in
set_option maxHeartbeats 2000000 in
theorem bytes9s_calls {w0 w : World} {sb bb ab : Nat} {db rb : Bool → Nat} {F G : Bool → Nat → Prop} {s : Bool → DS} {K : Nat → Prop} {turn spent : Int} (h : Sta w0 w sb bb ab db rb F G s s K turn spent) (ht1 : 0 ≤ turn) (ht2 : turn ≤ 1000000) (ba : Option Addr) (b : List UInt8) (bc : Nat) (hy : Byt w ba b) (hys : ∀ ad, ba = some ad → b ≠ [] → ad.block ≠ sb) (hb : b.length ≤ 100000000000000) :
    Calls Tryz.prog 61 #[.pointer (some ⟨sb, 0, none⟩), .slice ba b.length bc] w fun r w' => ∃ g cap, r = .returned (.slice (some ⟨g, 0, none⟩) b.length cap) ∧ Lnt w' w.heap.size g cap b ∧ Sta w0 w' sb bb ab db rb F G s s K (turn + 1) spent ∧ Upd (fun i => i = sb) w w' := by
  obtain ⟨p4, p7, -, f7, -⟩ := h.q7
  have wt : IntKind.i64.wrap (turn + 1) = turn + 1 := IntWalk.i64_in _ (by omega)
  have S1 := Lib.hid (h.count 7 (.int .i64 (turn + 1)) (turn + 1) spent rfl)
  have U1 := Lib.hid (show Upd (fun i => i = sb) w (w.setCell ⟨sb, 7, none⟩ (.int .i64 (turn + 1))) from (Upd.refl (fun i => i = sb) w).setCell (fun _ => rfl) _)
  have LC := Lib.hid (Lend_calls ba bc b (w.setCell ⟨sb, 7, none⟩ (.int .i64 (turn + 1))) (hy.upd U1.out (fun ad e hne s => hys ad e hne s)) hb)
  have ZS : Hid ((w.setCell ⟨sb, 7, none⟩ (.int .i64 (turn + 1))).heap.size = w.heap.size) := by show _ = _; simp [World.setCell]
  clear h hy hys
  go_enter Tryz.func61, Tryz.ntmps61
  go_wp2_with fail
  refine LC.out.mono ?_
  rintro r w2 ⟨g, cap, rfl, hl, hb2⟩
  rw [ZS.out] at hl
  have S2 := Lib.hid (S1.out.below hb2)
  have U2 := Lib.hid (U1.out.same ((Upd.ofBelow hb2).mono (fun _ s _ => s.elim)))
  have HL := Lib.hid hl
  clear hl hb2 LC
  go_wp2
  go_ret
  exact ⟨g, cap, rfl, HL.out, S2.out, U2.out⟩
set_option maxRecDepth 100000 in
set_option maxHeartbeats 2000000 in
theorem back9s_calls {w0 w : World} {sb bb ab : Nat} {db rb : Bool → Nat} {F G : Bool → Nat → Prop} {s z : Bool → DS} {K : Nat → Prop} {turn spent : Int} (h : Sta w0 w sb bb ab db rb F G s z K turn spent) (base g cap : Nat) (ba : Option Addr) (b : List UInt8) (bc : Nat) (hl : Lnt w base g cap b) (hy : Byt w ba b) (hb : b.length ≤ 100000000000000) :
    Calls Tryz.prog 62 #[.pointer (some ⟨sb, 0, none⟩), .slice (some ⟨g, 0, none⟩) b.length cap, .slice ba b.length bc] w fun r w' => r = .returned (.bool true) ∧ Upd (fun k => k = g) w w' := by
  obtain ⟨p4, p7, -, -, -⟩ := h.q7
  have x1 : (convert 33 9 (.slice (some ⟨g, 0, none⟩) b.length cap)).run Tryz.prog w = .ok (.string ⟨b.toArray⟩) w := conv_bytes Tryz.underlying33 Tryz.underlying5 Tryz.underlying9 hl.byt
  have x2 : (convert 33 9 (.slice ba b.length bc)).run Tryz.prog w = .ok (.string ⟨b.toArray⟩) w := conv_bytes Tryz.underlying33 Tryz.underlying5 Tryz.underlying9 hy
  have tb : (b == b) = true := by simp
  have IC := Lib.hid (Intact_calls base g cap b ba bc w hl hy hb)
  have OC := Lib.hid (fun m : Nat => OverL_calls base g cap b (w.drewN m) (Own.below hl (bel_drewN (Below.refl _ _) m)) hb)
  clear h hl hy
  go_enter Tryz.func62, Tryz.ntmps62
  go_wp2_with fail
  refine IC.out.mono ?_
  rintro r w1 ⟨m, rfl, rfl⟩
  go_wp2_with fail
  refine (OC.out m).mono ?_
  rintro r w2 ⟨rfl, hu⟩
  have HU := Lib.hid (((Upd.refl (fun k => k = g) w).drewN m).same hu)
  clear hu
  go_wp2
  go_ret
  exact ⟨rfl, HU.out⟩
end Go.Proofs.YtcmllfnhdodbdaaGreatDoor
namespace Go.Proofs.YtcmllfnhdodbdaaGreatDoor
set_option linter.unusedVariables false
set_option linter.unusedSimpArgs false
open Go.RowKit Go.Maps
theorem whole_w {s : DS} {f : DS → DS} (hf : (f s.wr).writes = s.writes + 1) : (s.whole f).2.writes ≤ s.writes + 1 := by
  unfold DS.whole
  split
  · show (if 0 < s.keep then f s.wr else s.wr).writes ≤ _
    split
    · rw [hf]; exact Nat.le_refl _
    · exact Nat.le_refl _
  · show (f s.wr).writes ≤ _
    rw [hf]; exact Nat.le_refl _
theorem cut_w (s : DS) (nm : List UInt8) (n : Int) : (s.cut nm n).2.writes ≤ s.writes + 1 := by
  unfold DS.cut
  split
  · exact Nat.le_succ _
  · split
    · exact Nat.le_succ _
    · exact whole_w rfl
theorem rename_w (s : DS) (a b : List UInt8) : (s.rename a b).2.writes ≤ s.writes + 1 := by
  unfold DS.rename
  split
  · exact Nat.le_succ _
  · refine whole_w ?_
    show (if a = b then s.wr else (s.wr.del a).put b (bytC s.C a)).writes = _
    split <;> rfl
theorem remove_w (s : DS) (nm : List UInt8) : (s.remove nm).2.writes ≤ s.writes + 1 := by
  unfold DS.remove
  split
  · exact Nat.le_succ _
  · exact whole_w rfl
theorem append_w (s : DS) (nm b : List UInt8) : (s.append nm b).2.writes ≤ s.writes + 1 := by
  unfold DS.append
  split
  · exact Nat.le_succ _
  · split
    · exact Nat.le_succ _
    · split
      · show (if hasC s.C nm = true ∨ 0 < s.keep then s.wr.put nm (bytC s.C nm ++ keptB b s.keep) else s.wr).writes ≤ _
        split <;> exact Nat.le_refl _
      · exact Nat.le_refl _
section
variable {w0 w w' : World} {sb bb ab : Nat} {db rb : Bool → Nat} {F G : Bool → Nat → Prop} {s z : Bool → DS} {K : Nat → Prop} {turn spent : Int}
theorem Sta.upd {S : Nat → Prop} (h : Sta w0 w sb bb ab db rb F G s z K turn spent) (hu : Upd S w w') (hs : ∀ i, S i → w0.heap.size ≤ i ∧ i ≠ sb ∧ (∀ k, ¬ F k i) ∧ (∀ k, ¬ G k i) ∧ ¬ K i) : Sta w0 w' sb bb ab db rb F G s z K turn spent :=
  ⟨(hu.block _ h.slt (fun e => (hs _ e).2.1 rfl)).trans h.blk, fun k => (h.d k).upd hu (fun i hi hf => (hs i hi).2.2.1 k hf), fun k => (h.r k).upd hu (fun i hi => (hs i hi).2.2.2.1 k), h.ff, h.gg, h.fg, h.sf, h.sg, h.bk.upd hu (fun i hi => (hs i hi).2.2.2.2), h.kf, h.kg, h.ks, h.sl, h.bel.trans (hu.below (fun i hi _ => (hs i hi).1) h.bw)⟩
theorem Sta.klt (h : Sta w0 w sb bb ab db rb F G s z K turn spent) : ∀ i, K i → i < w.heap.size := by
  obtain ⟨_, _, _, _, _, _, _, _, _, _, h5⟩ := h.bk
  exact fun i hi => (h5 i hi).2
theorem Sta.stepD2 {k : Bool} {t : DS} (h : Sta w0 w sb bb ab db rb F G s z K turn spent) (hs : DkStep w w' w0.heap.size (db k) (F k) t) : ∃ F', Sta w0 w' sb bb ab db rb (upk F k F') G (upk s k t) z K turn spent ∧ ∀ j i, upk F k F' j i → F j i ∨ (j = k ∧ w.heap.size ≤ i) := by
  obtain ⟨F', h1, h2, h3, h4⟩ := hs
  have hK : ∀ i, K i → i < w.heap.size := by obtain ⟨_, _, _, _, _, _, _, _, _, _, h5⟩ := h.bk; exact fun i hi => (h5 i hi).2
  have c : ∀ j i, upk F k F' j i → F j i ∨ (j = k ∧ w.heap.size ≤ i) := by
    intro j i hi
    by_cases e : j = k
    · subst e
      rw [upk_same] at hi
      exact (h4 i hi).imp_right (fun h9 => ⟨rfl, h9⟩)
    · rw [upk_other _ e] at hi
      exact .inl hi
  refine ⟨F', ⟨(h2.block _ h.slt (fun e => h.sf k _ e rfl)).trans h.blk, fun j => ?_, fun j => (h.r j).upd h2 (fun i hi => h.fg k j i hi), fun a b hab i ha hb => ?_, h.gg, fun a j i ha hg => ?_, fun j i hi => ?_, h.sg, h.bk.upd h2 (fun i hi => h.kf k i hi), fun j i hi hk => ?_, h.kg, h.ks, h.sl, h.bel.trans h3⟩, c⟩
  · by_cases e : j = k
    · subst e
      rw [upk_same, upk_same]
      exact h1
    · rw [upk_other _ e, upk_other _ e]
      exact (h.d j).upd h2 (fun i hi => h.ff k j (fun e' => e e'.symm) i hi)
  · rcases c a i ha with h5 | ⟨e1, h5⟩ <;> rcases c b i hb with h6 | ⟨e2, h6⟩
    · exact h.ff a b hab i h5 h6
    · have := ((h.d a).fl i h5).2; omega
    · have := ((h.d b).fl i h6).2; omega
    · exact hab (e1.trans e2.symm)
  · rcases c a i ha with h5 | ⟨_, h5⟩
    · exact h.fg a j i h5 hg
    · have := ((h.r j).fl i hg).2; omega
  · rcases c j i hi with h5 | ⟨_, h5⟩
    · exact h.sf j i h5
    · have := h.slt; omega
  · rcases c j i hi with h5 | ⟨_, h5⟩
    · exact h.kf j i h5 hk
    · have := hK i hk; omega
theorem Sta.cut9 (h : Sta w0 w sb bb ab db rb F G s s K turn spent) (k : Bool) (nm : List UInt8) (n : Int) (hnm : nm.length ≤ 140737488351232) (hw : (s k).writes ≤ 1000000) :
    ∃ (e : Int) (t : DS), Hid (∀ wx, DkS wx w0.heap.size (db k) (F k) (s k) → Calls Tryz.prog 34 #[.pointer (some ⟨db k, 0, none⟩), .string ⟨nm.toArray⟩, .int .i64 n] wx fun r w' => r = .returned (.int .i64 e) ∧ DkStep wx w' w0.heap.size (db k) (F k) t) ∧
      Hid (∀ wx Gx, RfS wx w0.heap.size (rb k) Gx (s k) → Calls Tryz.prog 64 #[.pointer (some ⟨rb k, 0, none⟩), .string ⟨nm.toArray⟩, .int .i64 n] wx fun r w' => r = .returned (.int .i64 e) ∧ RfStep wx w' w0.heap.size (rb k) Gx t) ∧ Hid (t.writes ≤ (s k).writes + 1) :=
  ⟨((s k).cut nm n).1, ((s k).cut nm n).2, Lib.hid (fun wx hx => (Cut_dk w0.heap.size (db k) (F k) (s k) nm n wx hx.dk hnm (by omega)).mono (fun _ _ hr => ⟨hr.1, hx.step hr.2⟩)), Lib.hid (fun wx Gx hx => Cut9_calls hx nm n hnm (by omega)), Lib.hid (cut_w _ _ _)⟩
theorem Sta.ren9 (h : Sta w0 w sb bb ab db rb F G s s K turn spent) (k : Bool) (nm tn : List UInt8) (hnm : nm.length ≤ 140737488351232) (htn : tn.length ≤ 140737488351232) (hw : (s k).writes ≤ 1000000) :
    ∃ (e : Int) (t : DS), Hid (∀ wx, DkS wx w0.heap.size (db k) (F k) (s k) → Calls Tryz.prog 35 #[.pointer (some ⟨db k, 0, none⟩), .string ⟨nm.toArray⟩, .string ⟨tn.toArray⟩] wx fun r w' => r = .returned (.int .i64 e) ∧ DkStep wx w' w0.heap.size (db k) (F k) t) ∧
      Hid (∀ wx Gx, RfS wx w0.heap.size (rb k) Gx (s k) → Calls Tryz.prog 65 #[.pointer (some ⟨rb k, 0, none⟩), .string ⟨nm.toArray⟩, .string ⟨tn.toArray⟩] wx fun r w' => r = .returned (.int .i64 e) ∧ RfStep wx w' w0.heap.size (rb k) Gx t) ∧ Hid (t.writes ≤ (s k).writes + 1) :=
  ⟨((s k).rename nm tn).1, ((s k).rename nm tn).2, Lib.hid (fun wx hx => (Rename_dk w0.heap.size (db k) (F k) (s k) nm tn wx hx.dk hnm htn (by omega)).mono (fun _ _ hr => ⟨hr.1, hx.step hr.2⟩)), Lib.hid (fun wx Gx hx => Rename9_calls hx nm tn hnm htn (by omega)), Lib.hid (rename_w _ _ _)⟩
theorem Sta.rem9 (h : Sta w0 w sb bb ab db rb F G s s K turn spent) (k : Bool) (nm : List UInt8) (hnm : nm.length ≤ 140737488351232) (hw : (s k).writes ≤ 1000000) :
    ∃ (e : Int) (t : DS), Hid (∀ wx, DkS wx w0.heap.size (db k) (F k) (s k) → Calls Tryz.prog 36 #[.pointer (some ⟨db k, 0, none⟩), .string ⟨nm.toArray⟩] wx fun r w' => r = .returned (.int .i64 e) ∧ DkStep wx w' w0.heap.size (db k) (F k) t) ∧
      Hid (∀ wx Gx, RfS wx w0.heap.size (rb k) Gx (s k) → Calls Tryz.prog 66 #[.pointer (some ⟨rb k, 0, none⟩), .string ⟨nm.toArray⟩] wx fun r w' => r = .returned (.int .i64 e) ∧ RfStep wx w' w0.heap.size (rb k) Gx t) ∧ Hid (t.writes ≤ (s k).writes + 1) :=
  ⟨((s k).remove nm).1, ((s k).remove nm).2, Lib.hid (fun wx hx => (Remove_dk w0.heap.size (db k) (F k) (s k) nm wx hx.dk hnm (by omega)).mono (fun _ _ hr => ⟨hr.1, hx.step hr.2⟩)), Lib.hid (fun wx Gx hx => Remove9_calls hx nm hnm (by omega)), Lib.hid (remove_w _ _)⟩
theorem Sta.app9 (h : Sta w0 w sb bb ab db rb F G s s K turn spent) (k : Bool) (nm b : List UInt8) (ba : Option Addr) (bc : Nat) (hnm : nm.length ≤ 140737488351232) (hbc : b.length ≤ bc) (hb : b.length ≤ 140737488351232) (hw : (s k).writes ≤ 1000000) :
    ∃ (e : Int) (t : DS), Hid (∀ wx ia ic, DkS wx w0.heap.size (db k) (F k) (s k) → Byt wx ia b → b.length ≤ ic → Calls Tryz.prog 26 #[.pointer (some ⟨db k, 0, none⟩), .string ⟨nm.toArray⟩, .slice ia b.length ic] wx fun r w' => r = .returned (.int .i64 e) ∧ DkStep wx w' w0.heap.size (db k) (F k) t) ∧
      Hid (∀ wx Gx, RfS wx w0.heap.size (rb k) Gx (s k) → Byt wx ba b → Calls Tryz.prog 63 #[.pointer (some ⟨rb k, 0, none⟩), .string ⟨nm.toArray⟩, .slice ba b.length bc] wx fun r w' => r = .returned (.int .i64 e) ∧ RfStep wx w' w0.heap.size (rb k) Gx t) ∧ Hid (t.writes ≤ (s k).writes + 1) :=
  ⟨((s k).append nm b).1, ((s k).append nm b).2, Lib.hid (fun wx ia ic hx hy hc => (Append_dk w0.heap.size (db k) (F k) (s k) nm b ia ic wx hx.dk hy hc hnm (by omega)).mono (fun _ _ hr => ⟨hr.1, hx.step hr.2⟩)), Lib.hid (fun wx Gx hx hy => Append9_calls hx nm b ba bc hnm hy hbc hb (by omega)), Lib.hid (append_w _ _ _)⟩
theorem PutP.cell {k : Bool} {room : Int} {l : Con} {b o : Nat} {v : Value} (hp : PutP w w' sb k room l) (hne : b = sb → o ≠ kn k ∧ o ≠ 2 + kn k) (h : w.cell? ⟨b, o, none⟩ = some v) : w'.cell? ⟨b, o, none⟩ = some v := by
  have hlt : b < w.heap.size := World.block_lt_of_cell? w _ h
  unfold PutP at hp
  cases hq : (loadR room l).2 with
  | none => rw [hq] at hp; exact (hp.cell (p := ⟨b, o, none⟩) hlt).trans h
  | some s =>
    rw [hq] at hp
    obtain ⟨w1, d, r, F, G, hb, -, rfl⟩ := hp
    have n1 : (⟨sb, 2 + kn k, none⟩ : Addr) ≠ ⟨b, o, none⟩ := by
      intro e
      injection e with e1 e2
      exact (hne e1.symm).2 e2.symm
    have n2 : (⟨sb, kn k, none⟩ : Addr) ≠ ⟨b, o, none⟩ := by
      intro e
      injection e with e1 e2
      exact (hne e1.symm).1 e2.symm
    exact (World.cell?_setCell_other _ _ _ _ n1).trans ((World.cell?_setCell_other _ _ _ _ n2).trans ((hb.cell (p := ⟨b, o, none⟩) hlt).trans h))
/-- The files of the document's disk, as they are asked for. -/
theorem Sta.files9 (h : Sta w0 w sb bb ab db rb F G s s K turn spent) (k : Bool) :
    ∃ C : Con, C.length ≤ 64 ∧ (∀ p ∈ C, p.1.length ≤ 140737488351232 ∧ p.2.length ≤ 268435456) ∧ Calls Tryz.prog 72 #[.pointer (some ⟨rb k, 0, none⟩)] w fun r w' => ∃ a c, r = .returned (.slice a C.length c) ∧ Fil w' a C ∧ Below w.heap.size w w' := by
  have ok := (h.r k).ok
  refine ⟨(s k).C, ok.len, fun p hp => ⟨?_, ?_⟩, (Files9_calls (h.r k)).mono ?_⟩
  · have h1 := ok.nm p hp
    simp only [nmOk, Bool.and_eq_true, decide_eq_true_eq] at h1
    omega
  · have h1 := byt_le_sum ok.so p.1; rw [bytC_mem ok.so hp] at h1; have h2 := ok.sum; have h3 := ok.r2; omega
  · rintro r w' ⟨v, M, rfl, hM, hf, hb⟩
    obtain ⟨a, c, rfl, -, hfil⟩ := hf.fil
    rw [hM] at hfil
    have e : M.length = (s k).C.length := by rw [← hM]; simp [conF]
    exact ⟨a, c, by rw [e], hfil, hb⟩
end
end Go.Proofs.YtcmllfnhdodbdaaGreatDoor
