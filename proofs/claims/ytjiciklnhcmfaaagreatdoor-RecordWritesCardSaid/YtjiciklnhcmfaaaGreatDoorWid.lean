/- (*record.Writer).ID. -/
import Derived.Test.YtjiciklnhcmfaaaGreatDoorBox
namespace Go.Proofs.YtjiciklnhcmfaaaGreatDoor
set_option linter.unusedVariables false
set_option linter.unusedSimpArgs false
open Go.RowKit
/-- The cells of sixteen bytes. -/
def idv (dl : List UInt8) : Array Value := (bys dl).toArray
def wID (l : List UInt8) (e : Int) (dl : List UInt8) : List UInt8 × Int := if e = 0 then (l ++ dl, 0) else (l, e)
theorem Src_id {w : World} {g : Nat} {dl : List UInt8} (hd : dl.length = 16) (h : w.heap[g]? = some (.cells (idv dl) 64 (0, 0))) : Src Tryz.prog 1 23 (.slice (some ⟨g, 0, none⟩) 16 16) 16 (bys dl) w := by
  have hb : Byt w (some ⟨g, 0, none⟩) dl := by
    intro i hi
    refine ⟨g, 0, rfl, ?_⟩
    rw [Nat.zero_add, cell_of_row' h]
    show ((bys dl).toArray)[i]? = _
    rw [List.getElem?_toArray, bys_get hi]
  have hs := Src_byt (P := Tryz.prog) (tx := 23) Tryz.underlying23 hb (c := 16) (fun _ => .inr trivial)
  rw [hd] at hs
  exact hs
set_option maxRecDepth 100000 in
set_option maxHeartbeats 1000000 in
theorem ID_calls (pb po base : Nat) (dl : List UInt8) (hd : dl.length = 16) (w : World) (v : Value) (l : List UInt8) (e : Int) (h : Wri w pb po base l e v) (hb : base ≤ pb) (hl : l.length ≤ 140737488000000) :
    Calls Tryz.prog 22 #[.pointer (some ⟨pb, po, none⟩), .agg (idv dl)] w fun r w' => r = .returned (.tuple #[]) ∧ ∃ v', Wri w' pb po base (wID l e dl).1 (wID l e dl).2 v' ∧ WUpd w w' pb po v v' := by
  obtain ⟨w1, hw1⟩ : ∃ q, w.alloc (.cells (idv dl) 64) = q := ⟨_, rfl⟩
  have U1 : Upd (fun _ => False) w w1 := by rw [← hw1]; exact (Upd.refl _ w).alloc _
  have H1 := Lib.hid (h.upd U1 (fun s => s) (fun _ _ s => s))
  have WU1 : Hid (WUpd w w1 pb po v v) := ⟨U1.mono (fun _ s _ => s.elim), fun o _ _ => ⟨U1.cell h.lt (fun s => s), U1.frozen h.lt (fun s => s)⟩, .inl rfl⟩
  have hk := heap_alloc_new w (.cells (idv dl) 64)
  rw [hw1] at hk
  have HK := Lib.hid hk
  have HW := Lib.hid hw1
  have h1lt : pb < w1.heap.size := H1.out.lt
  clear hk hw1 U1
  by_cases he : e = 0
  · subst he
    rw [show wID l 0 dl = (l ++ dl, 0) from if_pos rfl]
    have M1 : Hid (l.length + 16 ≤ maxLen) := by show _ ≤ _; unfold maxLen; omega
    have M2 : Hid ((l.length + 16) * 1 ≤ 140737488355328) := by show _ ≤ _; omega
    have M3 : Hid (base ≤ w1.heap.size) := by show _ ≤ _; omega
    have S1 := Lib.hid (show Src Tryz.prog 1 23 (.slice (some ⟨w.heap.size, 0, none⟩) 16 16) 16 (bys dl) w1.drew from Src_id hd HK.out)
    obtain ⟨c0, c1, f0, f1, _, _⟩ := h
    have e1 : (w.alloc (.cells (idv dl) 64)).cell? ⟨pb, po + 1, none⟩ = some (.int .i64 0) := by rw [HW.out]; exact H1.out.c1
    go_enter Tryz.func22, Tryz.ntmps22
    go_wp2_with (first | (with_reducible refine wpList_box (o := ⟨some 3, _, _, _, _, _⟩) rfl 64 (.tmp 1) rfl (idv dl) rfl ?_))
    rw [HW.out]
    clear e1
    obtain ⟨d0, d1, g0, g1, _, _⟩ := H1.out
    clear c0 c1 f0 f1
    go_region_law (refine step_append rfl (.tmp 13) (.tmp 14) 23 23 rfl base 5 (.int .u8 0) 1 1 Tryz.underlying23 infoByte rfl (v := v) (n := l.length) (xs := bys l) H1.out.own.drew rfl (xv := .slice (some ⟨w.heap.size, 0, none⟩) 16 16) (m := 16) (news := bys dl) S1.out rfl M1.out M2.out M3.out ?_; intro v2 w2 ho2 hg2 _ hv2; obtain ⟨g, cap, rfl⟩ := ho2.shape (Nat.succ_pos _); have U2 : Hid (Upd (fun k => v.ownBlock = some k) w1 w2) := ((Upd.refl _ w1).drew).grown hg2 (fun _ h _ => h); have s0 := U2.out.cell' H1.out.c0 H1.out.ne; have s1 := (U2.out.frozen (p := ⟨pb, po, none⟩) H1.out.lt H1.out.ne).trans H1.out.f0; have O2 := Lib.hid ho2; clear ho2 hg2; have V2 := Lib.hid hv2; clear hv2)
    all_goals
      go_wp2
      go_end0
      have hlen : (l ++ dl).length = l.length + 16 := by rw [List.length_append, hd]
      obtain ⟨R1, R2⟩ := H1.out.put (l' := l ++ dl) (v' := .slice (some ⟨g, 0, none⟩) (l.length + 16) cap) hb (by
        have := O2.out
        rw [← bys_append] at this
        rw [hlen]
        exact this) U2.out (by
        rcases V2.out with e | e
        · exact .inl e
        · exact .inr (fun i hi => by rw [e] at hi; injection hi with hi; exact Nat.le_of_eq hi))
      exact ⟨rfl, _, R1, WU1.out.trans R2⟩
  · rw [show wID l e dl = (l, e) from if_neg he]
    have t : (e == 0) = false := by rw [beq_eq_false_iff_ne]; exact he
    obtain ⟨c0, c1, f0, f1, _, _⟩ := h
    clear he
    have e1 : (w.alloc (.cells (idv dl) 64)).cell? ⟨pb, po + 1, none⟩ = some (.int .i64 e) := by rw [HW.out]; exact H1.out.c1
    go_enter Tryz.func22, Tryz.ntmps22
    go_wp2_with (first | (with_reducible refine wpList_box (o := ⟨some 3, _, _, _, _, _⟩) rfl 64 (.tmp 1) rfl (idv dl) rfl ?_))
    rw [HW.out]
    go_end0
    exact ⟨rfl, v, H1.out, WU1.out⟩
end Go.Proofs.YtjiciklnhcmfaaaGreatDoor
