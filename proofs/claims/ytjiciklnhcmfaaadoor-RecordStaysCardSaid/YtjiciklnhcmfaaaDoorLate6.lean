/- posternlaw3.framed, unframed: the program's frames and the document's, side by side. -/
import Derived.Test.YtjiciklnhcmfaaaDoorLate5
import Derived.Test.YtjiciklnhcmfaaaDoorUnfr3
import Derived.Test.YtjiciklnhcmfaaaDoorWorks
namespace Go.Proofs.YtjiciklnhcmfaaaDoor
set_option linter.unusedVariables false
set_option linter.unusedSimpArgs false
open Go.RowKit
section
variable {w w' : World} {base : Nat} {Pr : Nat → Prop} {tb bb : Nat} {L : List Gt} {vg vw : Value} {E : List Ent} {vb vo : Value} {bat : Nat} {tn dn : Int} {us : Nat}
theorem LB.add {w2 w3 : World} (h : LB w base Pr tb bb L vg vw E vb vo bat tn dn us) (hb : Below w.heap.size w w2) {v : Value} {x : List UInt8} (ha : AddP w2 w3 base Pr tb L vg vw v x) (hv : ∀ k, v.ownBlock = some k → w.heap.size ≤ k) :
    LBx w3 base Pr tb bb (L.length + 1) ∧ Upd (Free base Pr) w w3 := by
  obtain ⟨g, vg', vw', l3, gv, gx, fg, up⟩ := ha
  have h2 := h.upd (Upd.ofBelow hb) (fun _ s => s.elim)
  have hf := h.foot
  have s2 := hb.size
  have inl : ∀ k, (k = tb ∨ vg.ownBlock = some k ∨ vw.ownBlock = some k) → LtF tb vg vw L k := by
    rintro k (e | e | e)
    · exact .inl e
    · exact .inr (.inl e)
    · exact .inr (.inr (.inl e))
  refine ⟨⟨L ++ [g], vg', vw', E, vb, vo, bat, tn, dn, us, by simp, ⟨l3, h2.bk.upd up (fun k s => h.dis k (inl k s)), h.cnt, ?_⟩⟩, ?_⟩
  · intro k hk hq
    have := (hf k (.inr hq)).2.1
    rcases fg k hk with e | e | e
    · exact h.dis k e hq
    · omega
    · have := hv k e; omega
  · refine (Upd.ofBelowB hb).trans up (fun k s hk => by omega) (fun k s hk => ?_)
    obtain ⟨f1, f2, f3⟩ := hf k (.inl (inl k s))
    exact ⟨f1, f3⟩
end
theorem Byt.free {w w' : World} {base : Nat} {Pr : Nat → Prop} {a : Option Addr} {l : List UInt8} (h : Byt w a l) (hu : Upd (Free base Pr) w w') (hp : l ≠ [] → ∀ k, a.map (·.block) = some k → Pr k ∨ k < base) : Byt w' a l :=
  h.upd hu (fun ad ha hne s => by
    subst ha
    rcases hp hne _ rfl with h | h
    · exact s.2 h
    · exact absurd (show ad.block < base from h) (Nat.not_lt.2 s.1))
theorem Tab.free {w w' : World} {base : Nat} {Pr : Nat → Prop} (h : Tab w) (hu : Upd (Free base Pr) w w') (hg : 0 < base) : Tab w' := h.upd hu (fun s => by have := s.1; omega)
set_option maxRecDepth 100000 in
set_option maxHeartbeats 2000000 in
theorem framed_calls (w : World) (base : Nat) (Pr : Nat → Prop) (tb bb m : Nat) (h : LBx w base Pr tb bb m) (hm : m ≤ 1000) (ia ba : Option Addr) (ic bc : Nat) (l : List UInt8) (hi : Byt w ia l) (hb : Byt w ba l) (hl : l.length ≤ 100000000000) (ht : Tab w) (hg : 0 < base)
    (hpi : l ≠ [] → ∀ k, ia.map (·.block) = some k → Pr k ∨ k < base) (hpb : l ≠ [] → ∀ k, ba.map (·.block) = some k → Pr k ∨ k < base) :
    Calls Tryd.prog 11 #[.slice ia l.length ic, .slice ba l.length bc, .pointer (some ⟨tb, 0, none⟩)] w fun r w' => r = .returned (.bool true) ∧ LBx w' base Pr tb bb (m + 1) ∧ Upd (Free base Pr) w w' := by
  obtain ⟨L, vg, vw, E, vb, vo, bat, tn, dn, us, hlen, hLB⟩ := h
  have tlt := lt_of_block hLB.lt.blk
  have tge := hLB.lt.tbge
  have hgw : 0 < w.heap.size := by omega
  have FC := Lib.hid (Frame_calls w l ia ic hi ht hgw (by omega))
  have F3 := Lib.hid (fun w1 (hb1 : Below w.heap.size w w1) => Frame3_calls w1 l ba bc (hb.below hb1) (by omega))
  have HI := Lib.hid hi; have HB := Lib.hid hb; have HT := Lib.hid ht; have PI := Lib.hid hpi; have PB := Lib.hid hpb; have HG := Lib.hid hg
  have H := Lib.hid hLB
  have LN := Lib.hid hlen
  have ql : (FrameR l).1.length ≤ 200000000000 := by
    unfold FrameR
    split
    · rw [frm_length]; omega
    · simp
  clear hi hb ht hpi hpb hLB hgw hg hlen
  generalize FrameR l = q at *
  obtain ⟨q1, q2⟩ := q
  simp only at ql
  go_enter Tryd.func11, Tryd.ntmps11
  go_wp2_with fail
  refine FC.out.mono ?_
  rintro r w1 ⟨v1, rfl, ho1, hb1⟩
  simp only at ho1
  obtain ⟨a1, c1, rfl, -, -, -, hv1⟩ := own_vn ho1
  have F3b := Lib.hid (F3.out w1 hb1)
  have O1 := Lib.hid ho1; have B1 := Lib.hid hb1; have V1 := Lib.hid hv1
  clear ho1 hb1 hv1
  go_wp2_with fail
  refine F3b.out.mono ?_
  rintro r w2 ⟨v2, rfl, ho2, hb2⟩
  simp only at ho2
  obtain ⟨a2, c2, rfl, -, -, hy2, hv2⟩ := own_vn ho2
  have B2 := Lib.hid (B1.out.trans (hb2.mono B1.out.size))
  have s1 := B1.out.size
  have O12 : Hid (Own w2 base 5 1 (.slice a1 q1.length c1) q1.length (bys q1)) := (O1.out.below hb2).mono (by omega)
  have W1 : Hid (∀ k, (Value.slice a1 q1.length c1).ownBlock = some k → w.heap.size ≤ k) := fun k hk => (O1.out.lt k hk).1
  have W2 : Hid (∀ k, a2.map (·.block) = some k → w.heap.size ≤ k) := by
    intro k hk
    obtain ⟨ad, rfl, rfl⟩ := Option.map_eq_some_iff.1 hk
    have := (hv2 ad rfl).2.1
    omega
  have Y2 := Lib.hid hy2
  have ft := H.out.foot
  have LT2 := Lib.hid (H.out.lt.upd (Upd.ofBelow B2.out) (fun _ s => s.elim))
  have AD := Lib.hid (Add_calls w2 base Pr tb L vg vw LT2.out (by have := LN.out; omega) a1 c1 q1 O12.out (by omega) (fun k hk => ⟨fun hp => by have h1 := (H.out.lt.pr k hp).1; have h2 := W1.out k hk; omega, fun e => by have h1 := (ft k (.inl e)).2.1; have h2 := W1.out k hk; omega⟩) a2 c2 hy2 (fun k hk e => by have h1 := (ft k (.inl e)).2.1; have h2 := W2.out k hk; omega))
  clear ho2 hb2 hy2 hv2 ft s1
  go_wp2_with fail
  refine AD.out.mono ?_
  rintro r w3 ⟨rfl, ha⟩
  have FIN := H.out.add B2.out ha W1.out
  have FI := Lib.hid FIN
  have Y13 : Byt w3 a1 q1 := by
    obtain ⟨g, vg', vw', l3, gv, gx, fg, up⟩ := ha
    refine (Own.byt O12.out).1.upd up ?_
    intro ad hae _ s
    subst hae
    have h2 := W1.out ad.block rfl
    have ft := H.out.foot ad.block
    rcases s with e | e | e
    · have := (ft (.inl (.inl e))).2.1; omega
    · have := (ft (.inl (.inr (.inl e)))).2.1; omega
    · have := (ft (.inl (.inr (.inr (.inl e))))).2.1; omega
  have Y23 : Byt w3 a2 q1 := by
    obtain ⟨g, vg', vw', l3, gv, gx, fg, up⟩ := ha
    refine Y2.out.upd up ?_
    intro ad hae _ s
    subst hae
    have h2 := W2.out ad.block rfl
    have ft := H.out.foot ad.block
    rcases s with e | e | e
    · have := (ft (.inl (.inl e))).2.1; omega
    · have := (ft (.inl (.inr (.inl e)))).2.1; omega
    · have := (ft (.inl (.inr (.inr (.inl e))))).2.1; omega
  have x1 : (convert 55 9 (.slice a1 q1.length c1)).run Tryd.prog w3 = .ok (.string ⟨q1.toArray⟩) w3 := conv_bytes Tryd.underlying55 Tryd.underlying5 Tryd.underlying9 Y13
  have x2 : (convert 55 9 (.slice a2 q1.length c2)).run Tryd.prog w3 = .ok (.string ⟨q1.toArray⟩) w3 := conv_bytes Tryd.underlying55 Tryd.underlying5 Tryd.underlying9 Y23
  have S1 := Lib.hid (SumN_calls ia ic w3 l (by omega) (HI.out.free FIN.2 PI.out) (HT.out.free FIN.2 HG.out))
  have S2 := Lib.hid (RSum_calls ba bc w3 l (by omega) (HB.out.free FIN.2 PB.out))
  clear Y13 Y23 FIN ha
  go_wp2_with (go_at_call 21; refine (num_calls _ _).mono ?_; rintro r wx ⟨rfl, rfl⟩)
  clear x1 x2
  generalize sumN l = sl at *
  go_wp2_with fail
  refine S1.out.mono ?_
  rintro r wx ⟨rfl, rfl⟩
  go_wp2_with fail
  refine S2.out.mono ?_
  rintro r wx ⟨rfl, rfl⟩
  go_wp2
  go_ret
  exact ⟨rfl, FI.out.1.mono (by have := LN.out; omega), FI.out.2⟩
theorem UnframeR_len (l : List UInt8) : (UnframeR l).1.length ≤ l.length := by
  unfold UnframeR
  split
  · simp
  · split
    · simp
    · split
      · simp
      · split
        · simp
        · split
          · simp
          · split
            · simp
            · split
              · simp
              · simp; omega
set_option maxRecDepth 100000 in
set_option maxHeartbeats 2000000 in
theorem unframed_calls (w : World) (base : Nat) (Pr : Nat → Prop) (tb bb m : Nat) (h : LBx w base Pr tb bb m) (hm : m ≤ 1000) (ia ba : Option Addr) (ic bc : Nat) (l : List UInt8) (hi : Byt w ia l) (hb : Byt w ba l) (hl : l.length ≤ 100000000000) (hic : l.length ≤ ic) (hbc : l.length ≤ bc) (ht : Tab w) (hg : 0 < base)
    (hpi : l ≠ [] → ∀ k, ia.map (·.block) = some k → Pr k ∨ k < base) (hpb : l ≠ [] → ∀ k, ba.map (·.block) = some k → Pr k ∨ k < base) :
    Calls Tryd.prog 16 #[.slice ia l.length ic, .slice ba l.length bc, .pointer (some ⟨tb, 0, none⟩)] w fun r w' => r = .returned (.bool true) ∧ LBx w' base Pr tb bb (m + 1) ∧ Upd (Free base Pr) w w' := by
  obtain ⟨L, vg, vw, E, vb, vo, bat, tn, dn, us, hlen, hLB⟩ := h
  have tlt := lt_of_block hLB.lt.blk
  have tge := hLB.lt.tbge
  have hgw : 0 < w.heap.size := by omega
  have FC := Lib.hid (Unframe_calls w l ia ic hi hic (by omega) ht)
  have F3 := Lib.hid (fun w1 (hb1 : Below w.heap.size w w1) => Unframe3_calls w1 l ba bc (hb.below hb1) hbc (by omega))
  have HI := Lib.hid hi; have HB := Lib.hid hb; have HT := Lib.hid ht; have PI := Lib.hid hpi; have PB := Lib.hid hpb; have HG := Lib.hid hg
  have H := Lib.hid hLB
  have LN := Lib.hid hlen
  have ql : (UnframeR l).1.length ≤ 200000000000 := by have := UnframeR_len l; omega
  clear hi hb ht hpi hpb hLB hgw hg hlen
  generalize UnframeR l = q at *
  obtain ⟨q1, q3, q2⟩ := q
  simp only at ql
  go_enter Tryd.func16, Tryd.ntmps16
  go_wp2_with fail
  refine FC.out.mono ?_
  rintro r w1 ⟨v1, rfl, ho1, hb1⟩
  simp only at ho1
  obtain ⟨a1, c1, rfl, -, -, -, hv1⟩ := own_vn ho1
  have F3b := Lib.hid (F3.out w1 hb1)
  have O1 := Lib.hid ho1; have B1 := Lib.hid hb1; have V1 := Lib.hid hv1
  clear ho1 hb1 hv1
  go_wp2_with fail
  refine F3b.out.mono ?_
  rintro r w2 ⟨v2, rfl, ho2, hb2⟩
  simp only at ho2
  obtain ⟨a2, c2, rfl, -, -, hy2, hv2⟩ := own_vn ho2
  have B2 := Lib.hid (B1.out.trans (hb2.mono B1.out.size))
  have s1 := B1.out.size
  have O12 : Hid (Own w2 base 5 1 (.slice a1 q1.length c1) q1.length (bys q1)) := (O1.out.below hb2).mono (by omega)
  have W1 : Hid (∀ k, (Value.slice a1 q1.length c1).ownBlock = some k → w.heap.size ≤ k) := fun k hk => (O1.out.lt k hk).1
  have W2 : Hid (∀ k, a2.map (·.block) = some k → w.heap.size ≤ k) := by
    intro k hk
    obtain ⟨ad, rfl, rfl⟩ := Option.map_eq_some_iff.1 hk
    have := (hv2 ad rfl).2.1
    omega
  have Y2 := Lib.hid hy2
  have ft := H.out.foot
  have LT2 := Lib.hid (H.out.lt.upd (Upd.ofBelow B2.out) (fun _ s => s.elim))
  have AD := Lib.hid (Add_calls w2 base Pr tb L vg vw LT2.out (by have := LN.out; omega) a1 c1 q1 O12.out (by omega) (fun k hk => ⟨fun hp => by have h1 := (H.out.lt.pr k hp).1; have h2 := W1.out k hk; omega, fun e => by have h1 := (ft k (.inl e)).2.1; have h2 := W1.out k hk; omega⟩) a2 c2 hy2 (fun k hk e => by have h1 := (ft k (.inl e)).2.1; have h2 := W2.out k hk; omega))
  clear ho2 hb2 hy2 hv2 ft s1
  go_wp2_with fail
  refine AD.out.mono ?_
  rintro r w3 ⟨rfl, ha⟩
  have FIN := H.out.add B2.out ha W1.out
  have FI := Lib.hid FIN
  have Y13 : Byt w3 a1 q1 := by
    obtain ⟨g, vg', vw', l3, gv, gx, fg, up⟩ := ha
    refine (Own.byt O12.out).1.upd up ?_
    intro ad hae _ s
    subst hae
    have h2 := W1.out ad.block rfl
    have ft := H.out.foot ad.block
    rcases s with e | e | e
    · have := (ft (.inl (.inl e))).2.1; omega
    · have := (ft (.inl (.inr (.inl e)))).2.1; omega
    · have := (ft (.inl (.inr (.inr (.inl e))))).2.1; omega
  have Y23 : Byt w3 a2 q1 := by
    obtain ⟨g, vg', vw', l3, gv, gx, fg, up⟩ := ha
    refine Y2.out.upd up ?_
    intro ad hae _ s
    subst hae
    have h2 := W2.out ad.block rfl
    have ft := H.out.foot ad.block
    rcases s with e | e | e
    · have := (ft (.inl (.inl e))).2.1; omega
    · have := (ft (.inl (.inr (.inl e)))).2.1; omega
    · have := (ft (.inl (.inr (.inr (.inl e))))).2.1; omega
  have x1 : (convert 55 9 (.slice a1 q1.length c1)).run Tryd.prog w3 = .ok (.string ⟨q1.toArray⟩) w3 := conv_bytes Tryd.underlying55 Tryd.underlying5 Tryd.underlying9 Y13
  have x2 : (convert 55 9 (.slice a2 q1.length c2)).run Tryd.prog w3 = .ok (.string ⟨q1.toArray⟩) w3 := conv_bytes Tryd.underlying55 Tryd.underlying5 Tryd.underlying9 Y23
  clear Y13 Y23 FIN ha
  go_wp2_with (go_at_call 21; refine (num_calls _ _).mono ?_; rintro r wx ⟨rfl, rfl⟩)
  clear x1 x2
  go_wp2
  go_ret
  exact ⟨rfl, FI.out.1.mono (by have := LN.out; omega), FI.out.2⟩
end Go.Proofs.YtjiciklnhcmfaaaDoor
