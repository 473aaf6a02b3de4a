/- disk.Cut's closure. -/
import Derived.Test.YtcmllfnhdodbdaaDoorFls3
import Derived.StillTailTactics
namespace Go.Proofs.YtcmllfnhdodbdaaDoor
set_option linter.unusedVariables false
set_option linter.unusedSimpArgs false
open Go.RowKit Go.Maps
/-- What a write makes of a disk, as its closure tells it. -/
def WF (w w' : World) (base db mb : Nat) (m : Int) (k' : DkV) (L L' : List Fl) : Prop :=
  ∃ D', Dsk w' base db mb m k' L' D' ∧ Upd (DkF db mb L) w w' ∧ ∀ i, DkF db mb L' i → DkF db mb L i ∨ w.heap.size ≤ i
theorem foot_put {db mb : Nat} {L : List Fl} {f : Fl} (hf : ∀ k, f.at_ k → FlF mb L k) : ∀ i, DkF db mb (putF L f) i → DkF db mb L i := by
  rintro i (s | s | ⟨g, hg, s⟩)
  · exact .inl s
  · exact .inr (.inl s)
  · rcases mem_putF.1 hg with ⟨h1, _⟩ | rfl
    · exact .inr (.inr ⟨g, h1, s⟩)
    · exact .inr (hf i s)
theorem foot_del {db mb : Nat} {L : List Fl} {nm : List UInt8} : ∀ i, DkF db mb (delF L nm) i → DkF db mb L i := by
  rintro i (s | s | ⟨g, hg, s⟩)
  · exact .inl s
  · exact .inr (.inl s)
  · exact .inr (.inr ⟨g, (mem_delF.1 hg).1, s⟩)
set_option maxRecDepth 100000 in
set_option maxHeartbeats 2000000 in
theorem cutC_calls (base db mb : Nat) (m : Int) (k : DkV) (L : List Fl) (D : DataW Value) (nm : List UInt8) (n : Nat) (da wa sa na : Nat) (w : World) (h : Dsk w base db mb m k L D) (hle : n ≤ (bytF L nm).length) (hlb : (bytF L nm).length ≤ 268435456)
    (hd : w.cell? ⟨da, 0, none⟩ = some (.pointer (some ⟨db, 0, none⟩))) (hw : w.cell? ⟨wa, 0, none⟩ = some (valF L nm)) (hs : w.cell? ⟨sa, 0, none⟩ = some (.int .i64 n)) (hn : w.cell? ⟨na, 0, none⟩ = some (.string ⟨nm.toArray⟩))
    (nd : ¬ DkF db mb L da) (nw : ¬ DkF db mb L wa) (ns : ¬ DkF db mb L sa) (nn : ¬ DkF db mb L na) (hnm : nm.length ≤ 140737488351232) (hL : L.length ≤ 1000) (hu : 0 ≤ k.used ∧ k.used ≤ 268435456) :
    Calls Tryd.prog 39 #[.pointer (some ⟨da, 0, none⟩), .pointer (some ⟨wa, 0, none⟩), .pointer (some ⟨sa, 0, none⟩), .pointer (some ⟨na, 0, none⟩)] w fun r w' => r = .returned (.tuple #[]) ∧
      ∃ a c, WF w w' base db mb m { k with used := k.used - (((bytF L nm).length : Int) - n) } L (putF L ⟨nm, (bytF L nm).take n, a, c⟩) := by
  obtain ⟨a, c, hv, hc, -, -, hown⟩ := h.fls.val_shape nm
  obtain ⟨t, ht⟩ : ∃ t, (bytF L nm).length = t := ⟨_, rfl⟩
  have hlt : ∀ (i : Nat), ¬ DkF db mb L i → ¬ i = db := fun i hi e => hi (.inl e)
  have hlm : ∀ (i : Nat), ¬ DkF db mb L i → ¬ i = mb := fun i hi e => hi (.inr (.inl e))
  have cd := h.cell 3
  have x4 : w.cell? ⟨db, 4, none⟩ = some (.map (some mb)) := h.cell 4
  have x3 : w.cell? ⟨db, 3, none⟩ = some (.int .i64 k.used) := h.cell 3
  have f3 := h.froz 3
  have d2 := Dsk.set (m := m) (k := k) (mb := mb) 3 (.int .i64 (k.used - ((t : Int) - n))) m { k with used := k.used - ((t : Int) - n) } rfl h.blk h.dge h.fls
  have U2 := Lib.hid ((Upd.refl (fun i => i = db) w).setCell (p := ⟨db, 3, none⟩) (fun _ => rfl) (.int .i64 (k.used - ((t : Int) - n))))
  have PUT := Lib.hid (fun (w1 : World) (h1 : Fls w1 base mb L D) => h1.cutTo nm n (by unfold maxLen; omega) (by unfold maxLen; omega) hle hv)
  rw [hv, ht] at hw
  rw [ht] at hc
  have D2 := Lib.hid d2
  have HT := Lib.hid ht; have HO := Lib.hid hown
  have MDB := Lib.hid (hlt da nd); have MWB := Lib.hid (hlt wa nw); have MSB := Lib.hid (hlt sa ns); have MNB := Lib.hid (hlt na nn)
  have i1 : (n : Int) ≤ (t : Int) := by rw [ht] at hle; omega
  have i2 : (n : Int) ≤ (c : Int) := by rw [ht] at hle; omega
  have i3 : n ≤ c := by omega
  have i4 : n ≤ t := by omega
  have i5 : (t : Int) ≤ 268435456 := by rw [ht] at hlb; omega
  obtain ⟨u1, u2⟩ := hu
  rw [ht]
  clear hv ht hle hlb d2 h cd hown hlt hlm
  go_enter Tryd.func39, Tryd.ntmps39
  go_wp2_with fail
  go_still_tail 11, (by kernel_rfl)
  go_wp2_with fail
  obtain ⟨w1, hw1⟩ : ∃ q, (w.setCell ⟨db, 3, none⟩ (.int .i64 (k.used - ((t : Int) - (n : Int))))).drew = q := ⟨_, rfl⟩
  have U3 := Lib.hid (U2.out.drew)
  have D3 := Lib.hid (D2.out.drewN 1)
  have E1 : (w.setCell ⟨db, 3, none⟩ (.int .i64 (k.used - ((t : Int) - (n : Int))))).drewN 1 = w1 := hw1
  rw [E1] at D3
  rw [hw1] at U3
  clear E1
  have y0 := U3.out.cell' hd MDB.out
  have y1 := U3.out.cell' hw MWB.out
  have y2 := U3.out.cell' hs MSB.out
  have y3 := U3.out.cell' hn MNB.out
  have y4 : w1.cell? ⟨db, 4, none⟩ = some (.map (some mb)) := D3.out.cell 4
  rw [hw1]
  clear hd hw hs hn x4 x3 f3 hw1 D2 U2
  obtain ⟨w2, hr2, hf2, hu2⟩ := PUT.out w1.drew (D3.out.drewN 1).fls
  have F2 := Lib.hid hf2; have UU2 := Lib.hid hu2
  clear hf2 hu2 PUT
  have FIN : Hid (WF w w2 base db mb m { k with used := k.used - ((t : Int) - (n : Int)) } L (putF L ⟨nm, (bytF L nm).take n, a, c⟩)) := by
    have NM : ¬ db = mb := by
      intro s
      obtain ⟨es, c, hb2, _⟩ := D3.out.fls.map
      have h1 := D3.out.blk
      rw [s, hb2] at h1
      cases h1
    refine ⟨_, ⟨(UU2.out.block db (lt_of_block D3.out.blk) NM).trans D3.out.blk, D3.out.dge, F2.out⟩, (U3.out.drew).trans UU2.out (fun i s _ => .inl s) (fun i s _ => .inr (.inl s)), fun i s => .inl (foot_put ?_ i s)⟩
    intro i hi
    exact (HO.out i ((ownBlock_len ..).trans hi)).2.2
  clear HT HO F2 UU2 U3 D3
  cases a with
  | none =>
    go_still_tail 8, (by kernel_rfl)
    go_wp2
    go_end0
    exact ⟨rfl, _, _, FIN.out⟩
  | some ad =>
    go_still_tail 8, (by kernel_rfl)
    go_wp2
    go_end0
    exact ⟨rfl, _, _, FIN.out⟩
end Go.Proofs.YtcmllfnhdodbdaaDoor
