/- posternlaw3.done: Done, twice, and the document's; both answers are kept. -/
import Derived.Test.YtjiciklnhcmfaaaGreatDoorRefW
import Derived.Test.YtjiciklnhcmfaaaGreatDoorLateA
namespace Go.Proofs.YtjiciklnhcmfaaaGreatDoor
set_option linter.unusedVariables false
set_option linter.unusedSimpArgs false
open Go.RowKit
section
variable {w w' w3 : World} {base : Nat} {Pr : Nat → Prop} {tb bb : Nat} {L : List Gt} {vg vw : Value} {E : List Ent} {vb vo : Value} {bat : Nat} {tn dn : Int} {us : Nat}
theorem LB.add1 (h : LB w base Pr tb bb L vg vw E vb vo bat tn dn us) {v : Value} {x : List UInt8} (ha : AddP w w3 base Pr tb L vg vw v x) (hv : ∀ k, v.ownBlock = some k → ¬ BkF bb vb vo E k) :
    ∃ (g : Gt) (vg' vw' : Value), LB w3 base Pr tb bb (L ++ [g]) vg' vw' E vb vo bat tn dn us ∧ (g.val = v ∧ g.x = x) ∧ (∀ k, LtF tb vg' vw' (L ++ [g]) k → LtF tb vg vw L k ∨ w.heap.size ≤ k ∨ v.ownBlock = some k) ∧ Upd (fun k => k = tb ∨ vg.ownBlock = some k ∨ vw.ownBlock = some k) w w3 := by
  obtain ⟨g, vg', vw', l3, gv, gx, fg, up⟩ := ha
  have hf := h.foot
  have inl : ∀ k, (k = tb ∨ vg.ownBlock = some k ∨ vw.ownBlock = some k) → LtF tb vg vw L k := by
    rintro k (e | e | e)
    · exact .inl e
    · exact .inr (.inl e)
    · exact .inr (.inr (.inl e))
  refine ⟨g, vg', vw', ⟨l3, h.bk.upd up (fun k s => h.dis k (inl k s)), h.cnt, ?_⟩, ⟨gv, gx⟩, fg, up⟩
  intro k hk hq
  rcases fg k hk with e | e | e
  · exact h.dis k e hq
  · have := (hf k (.inr hq)).2.1; omega
  · exact hv k e hq
end
set_option maxRecDepth 100000 in
set_option maxHeartbeats 4000000 in
theorem done_calls (w : World) (base : Nat) (Pr : Nat → Prop) (tb bb m : Nat) (h : LBx w base Pr tb bb m) (hm : m ≤ 1000) (pb po qb qo : Nat) (l : List UInt8) (e : Int) (v u : Value) (ha : Wri w pb po base l e v) (hb : Wri w qb qo base l e u) (hl : l.length ≤ 100000000000) :
    Calls Tryz.prog 5 #[.pointer (some ⟨pb, po, none⟩), .pointer (some ⟨qb, qo, none⟩), .pointer (some ⟨tb, 0, none⟩)] w fun r w' => r = .returned (.bool true) ∧ LBx w' base Pr tb bb (m + 2) ∧ Upd (Free base Pr) w w' := by
  obtain ⟨L, vg, vw, E, vb, vo, bat, tn, dn, us, hlen, hLB⟩ := h
  have tge := hLB.lt.tbge
  have tlt := lt_of_block hLB.lt.blk
  have D1 := Lib.hid (Done_calls pb po base w v l e ha (by omega))
  have D2 := Lib.hid (fun w1 (hb1 : Below w.heap.size w w1) => Done_calls pb po base w1 v l e (ha.below hb1) (by omega))
  have D3 := Lib.hid (fun w1 (hb1 : Below w.heap.size w w1) => RWDone_calls qb qo base w1 u l e (hb.below hb1) (by omega))
  have H := Lib.hid hLB; have LN := Lib.hid hlen; have TG := Lib.hid tge; have TL := Lib.hid tlt
  have ql : (wDone l e).1.length ≤ 200000000000 := by
    unfold wDone
    by_cases he : e = 0
    · rw [if_pos he]; show l.length ≤ _; omega
    · rw [if_neg he]; exact Nat.zero_le _
  clear ha hb hLB hlen tge tlt
  generalize wDone l e = q at *
  obtain ⟨q1, q2⟩ := q
  replace ql : q1.length ≤ 200000000000 := ql
  go_enter Tryz.func5, Tryz.ntmps5
  go_wp2_with fail
  refine D1.out.mono ?_
  rintro r w1 ⟨v1, rfl, ho1, hb1⟩
  replace ho1 : Own w1 w.heap.size 5 1 v1 q1.length (bys q1) := ho1
  obtain ⟨a1, c1, rfl, -, -, -, hv1⟩ := own_vn ho1
  have D2b := Lib.hid (D2.out w1 hb1)
  have O1 := Lib.hid ho1; have B1 := Lib.hid hb1
  clear ho1 hb1 hv1
  go_wp2_with fail
  refine D2b.out.mono ?_
  rintro r w2 ⟨v2, rfl, ho2, hb2⟩
  replace ho2 : Own w2 w1.heap.size 5 1 v2 q1.length (bys q1) := ho2
  obtain ⟨a2, c2, rfl, -, -, -, hv2⟩ := own_vn ho2
  have B2 := Lib.hid (B1.out.trans (hb2.mono B1.out.size))
  have O12 := Lib.hid (O1.out.below hb2)
  have S12 := Lib.hid hb2.size
  have D3b := Lib.hid (D3.out w2 B2.out)
  have O2 := Lib.hid ho2
  clear ho2 hb2 hv2
  go_wp2_with fail
  refine D3b.out.mono ?_
  rintro r w3 ⟨v3, rfl, ho3, hb3⟩
  replace ho3 : Own w3 w2.heap.size 5 1 v3 q1.length (bys q1) := ho3
  obtain ⟨a3, c3, rfl, -, -, hy3, hv3⟩ := own_vn ho3
  have B3 := Lib.hid (B2.out.trans (hb3.mono B2.out.size))
  have S01 := Lib.hid B1.out.size
  have O13 : Hid (Own w3 base 5 1 (.slice a1 q1.length c1) q1.length (bys q1)) := (O12.out.below hb3).mono (by have := TG.out; have := TL.out; omega)
  have O23 : Hid (Own w3 base 5 1 (.slice a2 q1.length c2) q1.length (bys q1)) := (O2.out.below hb3).mono (by have := TG.out; have := TL.out; have := S01.out; omega)
  have W1 : Hid (∀ k, (Value.slice a1 q1.length c1).ownBlock = some k → w.heap.size ≤ k ∧ k < w1.heap.size) := fun k hk => O1.out.lt k hk
  have W2 : Hid (∀ k, (Value.slice a2 q1.length c2).ownBlock = some k → w1.heap.size ≤ k ∧ k < w2.heap.size) := fun k hk => O2.out.lt k hk
  have W3 : Hid (∀ k, a3.map (·.block) = some k → w2.heap.size ≤ k ∧ k < w3.heap.size) := by
    intro k hk
    obtain ⟨ad, rfl, rfl⟩ := Option.map_eq_some_iff.1 hk
    exact (hv3 ad rfl).2
  have Y3 := Lib.hid hy3
  have S23 := Lib.hid hb3.size
  have LB3 := Lib.hid (H.out.upd (Upd.ofBelow B3.out) (fun _ s => s.elim))
  have FT := Lib.hid H.out.foot
  have PRL := Lib.hid H.out.lt.pr
  have AD := Lib.hid (Add_calls w3 base Pr tb L vg vw LB3.out.lt (by have := LN.out; omega) a1 c1 q1 O13.out (by omega) (fun k hk => ⟨fun hp => by have h1 := (PRL.out k hp).1; have h2 := (W1.out k hk).1; omega, fun e => by have h1 := (FT.out k (.inl e)).2.1; have h2 := (W1.out k hk).1; omega⟩) a3 c3 Y3.out (fun k hk e => by have h1 := (FT.out k (.inl e)).2.1; have h2 := (W3.out k hk).1; have := S01.out; have := S12.out; omega))
  clear ho3 hb3 hy3 hv3
  go_wp2_with fail
  refine AD.out.mono ?_
  rintro r w4 ⟨rfl, hadd⟩
  obtain ⟨g, vg', vw', lb4, gv4, fg4, up4⟩ := LB3.out.add1 hadd (fun k hk e => by have h1 := (FT.out k (.inr e)).2.1; have h2 := (W1.out k hk).1; omega)
  have NT : Hid (∀ k, w.heap.size ≤ k → ¬ (k = tb ∨ vg.ownBlock = some k ∨ vw.ownBlock = some k)) := by
    intro k hk s
    have ft := FT.out k
    rcases s with e | e | e
    · have := (ft (.inl (.inl e))).2.1; omega
    · have := (ft (.inl (.inr (.inl e)))).2.1; omega
    · have := (ft (.inl (.inr (.inr (.inl e))))).2.1; omega
  have O24 := Lib.hid (O23.out.upd up4 (fun k hk => NT.out k (by have := (W2.out k hk).1; have := S01.out; omega)))
  have Y14 := Lib.hid ((Own.byt O13.out).1.upd up4 (fun ad ha _ => NT.out ad.block (W1.out ad.block (by rw [ha]; rfl)).1))
  have Y34 := Lib.hid (Y3.out.upd up4 (fun ad ha _ => NT.out ad.block (by have := (W3.out ad.block (by rw [ha]; rfl)).1; have := S01.out; have := S12.out; omega)))
  have LB4 := Lib.hid lb4
  have GV4 := Lib.hid gv4
  have FG4 := Lib.hid fg4
  have UP4 := Lib.hid up4
  have NF4 : Hid (∀ k, w.heap.size ≤ k → k < w3.heap.size → (Value.slice a1 q1.length c1).ownBlock ≠ some k → ¬ LtF tb vg' vw' (L ++ [g]) k) := by
    intro k h1 h2 h3 s
    rcases FG4.out k s with e | e | e
    · have := (FT.out k (.inl e)).2.1; omega
    · omega
    · exact h3 e
  have AD2 := Lib.hid (Add_calls w4 base Pr tb (L ++ [g]) vg' vw' LB4.out.lt (by have := LN.out; rw [List.length_append, List.length_singleton]; omega) a2 c2 q1 O24.out (by omega) (fun k hk => ⟨fun hp => by have h1 := (PRL.out k hp).1; have h2 := (W2.out k hk).1; have := S01.out; omega, NF4.out k (by have := (W2.out k hk).1; have := S01.out; omega) (by have := (W2.out k hk).2; have := S23.out; omega) (fun e => by have := (W1.out k e).2; have := (W2.out k hk).1; omega)⟩) a3 c3 Y34.out (fun k hk => NF4.out k (by have := (W3.out k hk).1; have := S01.out; have := S12.out; omega) (W3.out k hk).2 (fun e => by have := (W1.out k e).2; have := (W3.out k hk).1; have := S12.out; omega)))
  clear hadd lb4 fg4 up4 gv4
  go_wp2_with fail
  refine AD2.out.mono ?_
  rintro r w5 ⟨rfl, hadd⟩
  have VF : Hid (∀ k, (Value.slice a2 q1.length c2).ownBlock = some k → ¬ BkF bb vb vo E k) := fun k hk e => by have h1 := (FT.out k (.inr e)).2.1; have h2 := (W2.out k hk).1; have := S01.out; omega
  obtain ⟨g2, vg2, vw2, lb5, gv5, fg5, up5⟩ := LB4.out.add1 hadd VF.out
  have NT5 : Hid (∀ k, w.heap.size ≤ k → k < w3.heap.size → (Value.slice a1 q1.length c1).ownBlock ≠ some k → ¬ (k = tb ∨ vg'.ownBlock = some k ∨ vw'.ownBlock = some k)) := by
    intro k h1 h2 h3 s
    refine NF4.out k h1 h2 h3 ?_
    rcases s with e | e | e
    · exact .inl e
    · exact .inr (.inl e)
    · exact .inr (.inr (.inl e))
  have Y15 : Byt w5 a1 q1 := by
    have h1 := lb5.lt.gok g (by simp)
    rw [GV4.out.1, GV4.out.2] at h1
    exact (Own.byt h1).1
  have Y25 : Byt w5 a2 q1 := by
    have h1 := lb5.lt.gok g2 (by simp)
    rw [gv5.1, gv5.2] at h1
    exact (Own.byt h1).1
  have Y35 : Byt w5 a3 q1 := Y34.out.upd up5 (fun ad ha _ => NT5.out ad.block (by have := (W3.out ad.block (by rw [ha]; rfl)).1; have := S01.out; have := S12.out; omega) (W3.out ad.block (by rw [ha]; rfl)).2 (fun e => by have := (W1.out _ e).2; have := (W3.out ad.block (by rw [ha]; rfl)).1; have := S12.out; omega))
  have FI : Hid (LBx w5 base Pr tb bb (m + 2) ∧ Upd (Free base Pr) w w5) := by
    refine ⟨⟨L ++ [g] ++ [g2], vg2, vw2, E, vb, vo, bat, tn, dn, us, by have := LN.out; simp; omega, lb5⟩, ?_⟩
    have ft4 := LB4.out.foot
    have fr : ∀ k, LtF tb vg' vw' (L ++ [g]) k → Free base Pr k := fun k hk => ⟨(ft4 k (.inl hk)).1, (ft4 k (.inl hk)).2.2⟩
    have fr0 : ∀ k, LtF tb vg vw L k → Free base Pr k := fun k hk => ⟨(FT.out k (.inl hk)).1, (FT.out k (.inl hk)).2.2⟩
    have u1 : Upd (Free base Pr) w w4 := (Upd.ofBelowB B3.out).trans UP4.out (fun k s hk => by have := TG.out; omega) (fun k s hk => by
      rcases s with e | e | e
      · exact fr0 k (.inl e)
      · exact fr0 k (.inr (.inl e))
      · exact fr0 k (.inr (.inr (.inl e))))
    refine u1.trans up5 (fun _ s _ => s) (fun k s hk => ?_)
    rcases s with e | e | e
    · exact fr k (.inl e)
    · exact fr k (.inr (.inl e))
    · exact fr k (.inr (.inr (.inl e)))
  clear hadd lb5 gv5 fg5 up5
  have x1 : (convert 23 9 (.slice a1 q1.length c1)).run Tryz.prog w5 = .ok (.string ⟨q1.toArray⟩) w5 := conv_bytes Tryz.underlying23 Tryz.underlying5 Tryz.underlying9 Y15
  have x2 : (convert 23 9 (.slice a2 q1.length c2)).run Tryz.prog w5 = .ok (.string ⟨q1.toArray⟩) w5 := conv_bytes Tryz.underlying23 Tryz.underlying5 Tryz.underlying9 Y25
  have x3 : (convert 23 9 (.slice a3 q1.length c3)).run Tryz.prog w5 = .ok (.string ⟨q1.toArray⟩) w5 := conv_bytes Tryz.underlying23 Tryz.underlying5 Tryz.underlying9 Y35
  clear Y15 Y25 Y35
  go_wp2_with (go_at_call 27; refine (num_calls _ _).mono ?_; rintro r wx ⟨rfl, rfl⟩)
  go_ret
  exact ⟨rfl, FI.out.1, FI.out.2⟩
end Go.Proofs.YtjiciklnhcmfaaaGreatDoor
