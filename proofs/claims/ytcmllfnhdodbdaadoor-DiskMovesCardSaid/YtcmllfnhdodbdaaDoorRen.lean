/- disk.Rename's closure. -/
import Derived.Test.YtcmllfnhdodbdaaDoorWk
import Derived.IntWalk
namespace Go.Proofs.YtcmllfnhdodbdaaDoor
set_option linter.unusedVariables false
set_option linter.unusedSimpArgs false
open Go.RowKit Go.Maps
theorem blk_ne_map {w : World} {base db mb : Nat} {m : Int} {k : DkV} {L : List Fl} {D : DataW Value} (h : Dsk w base db mb m k L D) : ¬ db = mb := by
  intro s
  obtain ⟨es, c, hb2, _⟩ := h.fls.map
  have h1 := h.blk
  rw [s, hb2] at h1
  cases h1
set_option maxRecDepth 100000 in
set_option maxHeartbeats 1000000 in
theorem renC_same (nm : List UInt8) (fa ta da : Nat) (w : World) (hf : w.cell? ⟨fa, 0, none⟩ = some (.string ⟨nm.toArray⟩)) (ht : w.cell? ⟨ta, 0, none⟩ = some (.string ⟨nm.toArray⟩)) :
    Calls Tryd.prog 53 #[.pointer (some ⟨fa, 0, none⟩), .pointer (some ⟨ta, 0, none⟩), .pointer (some ⟨da, 0, none⟩)] w fun r w' => r = .returned (.tuple #[]) ∧ w = w' := by
  go_enter Tryd.func53, Tryd.ntmps53
  go_wp2
  ((try simp only [Exit.inBlock, Exit.then]); refine bodyPost_ret (results_none rfl _ _ _) rfl ?_)
  exact ⟨rfl, rfl⟩
set_option maxRecDepth 100000 in
set_option maxHeartbeats 2000000 in
theorem renC_calls (base db mb : Nat) (m : Int) (k : DkV) (L : List Fl) (D : DataW Value) (a b : List UInt8) (fa ta da : Nat) (w : World) (h : Dsk w base db mb m k L D) (hne : a ≠ b) (has : hasF L a = true) (hlb : (bytF L b).length ≤ 268435456)
    (hf : w.cell? ⟨fa, 0, none⟩ = some (.string ⟨a.toArray⟩)) (ht : w.cell? ⟨ta, 0, none⟩ = some (.string ⟨b.toArray⟩)) (hd : w.cell? ⟨da, 0, none⟩ = some (.pointer (some ⟨db, 0, none⟩)))
    (nf : ¬ DkF db mb L fa) (nt : ¬ DkF db mb L ta) (nd : ¬ DkF db mb L da) (ha : a.length ≤ 140737488351232) (hb : b.length ≤ 140737488351232) (hL : L.length ≤ 1000) (hu : 0 ≤ k.used ∧ k.used ≤ 268435456) :
    Calls Tryd.prog 53 #[.pointer (some ⟨fa, 0, none⟩), .pointer (some ⟨ta, 0, none⟩), .pointer (some ⟨da, 0, none⟩)] w fun r w' => r = .returned (.tuple #[]) ∧
      ∃ f : Fl, f.nm = b ∧ f.by_ = bytF L a ∧ WF w w' base db mb m { k with used := k.used - ((bytF L b).length : Int) } L (putF (delF L a) f) := by
  have AMX : a.length ≤ maxLen := by unfold maxLen; omega
  have BMX : b.length ≤ maxLen := by unfold maxLen; omega
  have LMX : L.length < maxLen := by unfold maxLen; omega
  have LK := fun (w' : World) (hb : Below w.heap.size w w') => (h.below hb).fls.look b BMX
  obtain ⟨va, vc, hv, -, -, -, -⟩ := h.fls.val_shape b
  obtain ⟨t, hvt⟩ : ∃ t, (bytF L b).length = t := ⟨_, rfl⟩
  rw [hv, hvt] at LK
  have k1 := LK w.drew (bel_drewN (Below.refl _ _) 1)
  have hlt : ∀ (i : Nat), ¬ DkF db mb L i → ¬ i = db := fun i hi e => hi (.inl e)
  have hlm : ∀ (i : Nat), ¬ DkF db mb L i → ¬ i = mb := fun i hi e => hi (.inr (.inl e))
  have x4 : w.cell? ⟨db, 4, none⟩ = some (.map (some mb)) := h.cell 4
  have x3 : w.cell? ⟨db, 3, none⟩ = some (.int .i64 k.used) := h.cell 3
  have f3 := h.froz 3
  have d2 := Dsk.set (m := m) (k := k) (mb := mb) 3 (.int .i64 (k.used - (t : Int))) m { k with used := k.used - (t : Int) } rfl h.blk h.dge h.fls
  have U2 := Lib.hid ((Upd.refl (fun i => i = db) w).setCell (p := ⟨db, 3, none⟩) (fun _ => rfl) (.int .i64 (k.used - (t : Int))))
  have D2 := Lib.hid d2
  have M1 := Lib.hid (hlt fa nf); have M2 := Lib.hid (hlt ta nt); have M3 := Lib.hid (hlt da nd)
  have N1 := Lib.hid (hlm fa nf); have N2 := Lib.hid (hlm ta nt); have N3 := Lib.hid (hlm da nd)
  have i5 : (t : Int) ≤ 268435456 := by rw [hvt] at hlb; omega
  obtain ⟨u1, u2⟩ := hu
  rw [hvt]
  have AM := Lib.hid AMX; have BM := Lib.hid BMX; have LM := Lib.hid LMX; have NE := Lib.hid hne; have HAS := Lib.hid has
  have te : (a == b) = false := by simpa using hne
  clear hv hvt hlb d2 h hlt hlm LK AMX BMX LMX hne has ha hb hL
  have i4 : IntKind.i64.wrap (k.used - (t : Int)) = k.used - (t : Int) := IntWalk.i64_in _ (by omega)
  go_enter Tryd.func53, Tryd.ntmps53
  go_wp2_with fail
  go_still_tail 14, (by kernel_rfl)
  go_wp2_with fail
  clear i4 te
  obtain ⟨w1, hw1⟩ : ∃ q, (w.setCell ⟨db, 3, none⟩ (.int .i64 (k.used - (t : Int)))).drew = q := ⟨_, rfl⟩
  have U3 := Lib.hid (U2.out.drew)
  have D3 := Lib.hid (D2.out.drewN 1)
  have E1 : (w.setCell ⟨db, 3, none⟩ (.int .i64 (k.used - (t : Int)))).drewN 1 = w1 := hw1
  rw [E1] at D3
  rw [hw1] at U3
  clear E1
  have y0 := U3.out.cell' hf M1.out
  have y1 := U3.out.cell' ht M2.out
  have y2 := U3.out.cell' hd M3.out
  have y4 : w1.cell? ⟨db, 4, none⟩ = some (.map (some mb)) := D3.out.cell 4
  rw [hw1]
  clear hf ht hd x4 x3 f3 hw1 D2 U2 k1
  -- the file under the other name, too
  obtain ⟨fva, fvc, hfv, -, -, -, hfo⟩ := D3.out.fls.val_shape a
  obtain ⟨ft, hft⟩ : ∃ t, (bytF L a).length = t := ⟨_, rfl⟩
  have k2 : (Instr.lookup 71 (.map (some mb)) (.string ⟨a.toArray⟩) false).run Tryd.prog w1.drew = .ok (valF L a) w1.drew := (D3.out.drewN 1).fls.look a AM.out
  obtain ⟨w2, hr2, hm2, hu2⟩ := (D3.out.drewN 1).fls.move1 a b BM.out LM.out
  have k3 : (Instr.mapUpdate 71 (.map (some mb)) (.string ⟨b.toArray⟩) (valF L a)).run Tryd.prog w1.drew = .ok () w2 := hr2
  rw [hfv, hft] at k2 k3
  have MV := Lib.hid hm2; have UU2 := Lib.hid hu2; have HFO := Lib.hid hfo; have HFV := Lib.hid hfv; have HFT := Lib.hid hft
  clear hr2 hm2 hu2 hfo hfv hft
  go_still_tail 11, (by kernel_rfl)
  go_wp2_with fail
  clear k2 k3
  have z0 := UU2.out.cell' (p := ⟨fa, 0, none⟩) y0 N1.out
  have z2 := UU2.out.cell' (p := ⟨da, 0, none⟩) y2 N3.out
  have NMM : ¬ db = mb := blk_ne_map D3.out
  have BK2 : w2.heap[db]? = some (.cells (dcells m { k with used := k.used - (t : Int) } mb) 73 (0, 0)) := (UU2.out.block db (lt_of_block D3.out.blk) NMM).trans D3.out.blk
  have z4 : w2.cell? ⟨db, 4, none⟩ = some (.map (some mb)) := by rw [cell_of_row' BK2]; rfl
  have BKH := Lib.hid BK2; have NMH := Lib.hid NMM
  clear y0 y1 y2 y4 BK2 NMM
  obtain ⟨w4, hr4, hf4, hu4⟩ := Mov.move2 (w := w2.drewN 1) D3.out.fls (MV.out.upd (S := fun _ => False) ⟨rfl, rfl, rfl, Nat.le_refl _, fun _ _ _ => rfl⟩ (fun _ s _ => s)) NE.out HAS.out AM.out 0
  have k4 : (Builtin.delete_ #[71, 9] 0 #[.map (some mb), .string ⟨a.toArray⟩]).run Tryd.prog w2.drew = .ok (.tuple #[]) w4 := hr4
  obtain ⟨f, D', f1, f2, f3, f4⟩ := hf4
  have FIN : Hid (∃ f : Fl, f.nm = b ∧ f.by_ = bytF L a ∧ WF w w4 base db mb m { k with used := k.used - (t : Int) } L (putF (delF L a) f)) := by
    refine ⟨f, f1, f2, D', ⟨(hu4.block db (lt_of_block BKH.out) NMH.out).trans BKH.out, D3.out.dge, f4⟩, ?_, fun i s => .inl ?_⟩
    · refine ((U3.out.drew).trans UU2.out (S := DkF db mb L) (fun i s _ => .inl s) (fun i s _ => .inr (.inl s))).trans (Upd.same (Upd.drew (Upd.refl (fun k => k = mb) w2)) hu4) (fun i s _ => s) (fun i s _ => .inr (.inl s))
    · rcases s with s | s | ⟨g, hg, s⟩
      · exact .inl s
      · exact .inr (.inl s)
      · rcases mem_putF.1 hg with ⟨h1, _⟩ | rfl
        · exact .inr (.inr ⟨g, (mem_delF.1 h1).1, s⟩)
        · refine .inr (HFO.out i ?_).2.2
          have s' : g.val.ownBlock = some i := s
          rw [f3, HFV.out] at s'
          exact s'
  clear hr4 hu4 f1 f2 f3 f4 MV UU2 U3 D3 HFO
  go_still_tail 5, (by kernel_rfl)
  go_wp2
  go_end0
  exact ⟨rfl, FIN.out⟩
end Go.Proofs.YtcmllfnhdodbdaaDoor
