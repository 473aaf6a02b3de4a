/- disk.Remove's closure. -/
import Derived.Test.YtcmllfnhdodbdaaDoorWk
import Derived.IntWalk
namespace Go.Proofs.YtcmllfnhdodbdaaDoor
set_option linter.unusedVariables false
set_option linter.unusedSimpArgs false
open Go.RowKit Go.Maps
set_option maxRecDepth 100000 in
set_option maxHeartbeats 2000000 in
theorem remC_calls (base db mb : Nat) (m : Int) (k : DkV) (L : List Fl) (D : DataW Value) (nm : List UInt8) (da na : Nat) (w : World) (h : Dsk w base db mb m k L D) (hlb : (bytF L nm).length ≤ 268435456)
    (hd : w.cell? ⟨da, 0, none⟩ = some (.pointer (some ⟨db, 0, none⟩))) (hn : w.cell? ⟨na, 0, none⟩ = some (.string ⟨nm.toArray⟩))
    (nd : ¬ DkF db mb L da) (nn : ¬ DkF db mb L na) (hnm : nm.length ≤ 140737488351232) (hu : 0 ≤ k.used ∧ k.used ≤ 268435456) :
    Calls Tryd.prog 43 #[.pointer (some ⟨da, 0, none⟩), .pointer (some ⟨na, 0, none⟩)] w fun r w' => r = .returned (.tuple #[]) ∧
      WF w w' base db mb m { k with used := k.used - ((bytF L nm).length : Int) } L (delF L nm) := by
  have NMX : nm.length ≤ maxLen := by unfold maxLen; omega
  have LK := fun (w' : World) (hb : Below w.heap.size w w') => (h.below hb).fls.look nm NMX
  obtain ⟨a, c, hv, hc, -, -, -⟩ := h.fls.val_shape nm
  obtain ⟨t, ht⟩ : ∃ t, (bytF L nm).length = t := ⟨_, rfl⟩
  rw [hv, ht] at LK
  have k1 := LK w.drew (bel_drewN (Below.refl _ _) 1)
  have hlt : ∀ (i : Nat), ¬ DkF db mb L i → ¬ i = db := fun i hi e => hi (.inl e)
  have x4 : w.cell? ⟨db, 4, none⟩ = some (.map (some mb)) := h.cell 4
  have x3 : w.cell? ⟨db, 3, none⟩ = some (.int .i64 k.used) := h.cell 3
  have f3 := h.froz 3
  have d2 := Dsk.set (m := m) (k := k) (mb := mb) 3 (.int .i64 (k.used - (t : Int))) m { k with used := k.used - (t : Int) } rfl h.blk h.dge h.fls
  have U2 := Lib.hid ((Upd.refl (fun i => i = db) w).setCell (p := ⟨db, 3, none⟩) (fun _ => rfl) (.int .i64 (k.used - (t : Int))))
  have D2 := Lib.hid d2
  have MDB := Lib.hid (hlt da nd); have MNB := Lib.hid (hlt na nn)
  have i5 : (t : Int) ≤ 268435456 := by rw [ht] at hlb; omega
  obtain ⟨u1, u2⟩ := hu
  rw [ht]
  have NM := Lib.hid NMX
  clear hv ht hlb d2 h hlt LK hc NMX
  have i4 : IntKind.i64.wrap (k.used - (t : Int)) = k.used - (t : Int) := IntWalk.i64_in _ (by omega)
  go_enter Tryd.func43, Tryd.ntmps43
  go_wp2_with fail
  go_still_tail 14, (by kernel_rfl)
  go_wp2_with fail
  clear i4
  obtain ⟨w1, hw1⟩ : ∃ q, (w.setCell ⟨db, 3, none⟩ (.int .i64 (k.used - (t : Int)))).drew = q := ⟨_, rfl⟩
  have U3 := Lib.hid (U2.out.drew)
  have D3 := Lib.hid (D2.out.drewN 1)
  have E1 : (w.setCell ⟨db, 3, none⟩ (.int .i64 (k.used - (t : Int)))).drewN 1 = w1 := hw1
  rw [E1] at D3
  rw [hw1] at U3
  clear E1
  have y0 := U3.out.cell' hd MDB.out
  have y3 := U3.out.cell' hn MNB.out
  have y4 : w1.cell? ⟨db, 4, none⟩ = some (.map (some mb)) := D3.out.cell 4
  rw [hw1]
  clear hd hn x4 x3 f3 hw1 D2 U2 k1
  obtain ⟨w2, hr2', hf2, hu2⟩ := (D3.out.drewN 1).fls.del nm NM.out 0
  have hr2 : (Builtin.delete_ #[71, 9] 0 #[.map (some mb), .string ⟨nm.toArray⟩]).run Tryd.prog w1.drew = .ok (.tuple #[]) w2 := hr2'
  have F2 := Lib.hid hf2; have UU2 := Lib.hid hu2
  clear hf2 hu2 hr2'
  have FIN : Hid (WF w w2 base db mb m { k with used := k.used - (t : Int) } L (delF L nm)) := by
    have NMM : ¬ db = mb := by
      intro s
      obtain ⟨es, c, hb2, _⟩ := D3.out.fls.map
      have h1 := D3.out.blk
      rw [s, hb2] at h1
      cases h1
    exact ⟨_, ⟨(UU2.out.block db (lt_of_block D3.out.blk) NMM).trans D3.out.blk, D3.out.dge, F2.out⟩, (U3.out.drew).trans UU2.out (fun i s _ => .inl s) (fun i s _ => .inr (.inl s)), fun i s => .inl (foot_del i s)⟩
  clear F2 UU2 U3 D3
  go_still_tail 5, (by kernel_rfl)
  go_wp2
  go_end0
  exact ⟨rfl, FIN.out⟩
end Go.Proofs.YtcmllfnhdodbdaaDoor
