/- (*disk.Disk).Remove. -/
import Derived.Test.YtnbpkignkfabkaaGreatDoorWk
import Derived.IntWalk
import Derived.Test.YtnbpkignkfabkaaGreatDoorCutOn
/- disk.Remove's closure. -/
namespace Go.Proofs.YtnbpkignkfabkaaGreatDoor
set_option linter.unusedVariables false
set_option linter.unusedSimpArgs false
open Go.RowKit Go.Maps
set_option maxRecDepth 100000 in
set_option maxHeartbeats 2000000 in
theorem remC_calls (base db mb : Nat) (m : Int) (k : DkV) (L : List Fl) (D : DataW Value) (nm : List UInt8) (da na : Nat) (w : World) (h : Dsk w base db mb m k L D) (hlb : (bytF L nm).length ≤ 268435456)
    (hd : w.cell? ⟨da, 0, none⟩ = some (.pointer (some ⟨db, 0, none⟩))) (hn : w.cell? ⟨na, 0, none⟩ = some (.string ⟨nm.toArray⟩))
    (nd : ¬ DkF db mb L da) (nn : ¬ DkF db mb L na) (hnm : nm.length ≤ 140737488351232) (hu : 0 ≤ k.used ∧ k.used ≤ 268435456) :
    Calls Tryz.prog 123 #[.pointer (some ⟨da, 0, none⟩), .pointer (some ⟨na, 0, none⟩)] w fun r w' => r = .returned (.tuple #[]) ∧
      WF w w' base db mb m { k with used := k.used - ((bytF L nm).length : Int) } L (delF L nm) := by
  have NMX : nm.length ≤ maxLen := by unfold maxLen; omega
  have LK := fun (w' : World) (hb : Below w.heap.size w w') => (h.below hb).fls.look nm NMX
  obtain ⟨a, c, hv, hc, -, -, -⟩ := h.fls.val_shape nm
  obtain ⟨t, ht⟩ : ∃ t, (bytF L nm).length = t := ⟨_, rfl⟩
  rw [hv, ht] at LK
  have k1 := LK w.drew (bel_drewN (Below.refl _ _) 1)
  have hlt : ∀ (i : Nat), ¬ DkF db mb L i → ¬ i = db := fun i hi e => hi (.inl e)
  have x4 : w.cell? ⟨db, 4, none⟩ = some (.map (some mb)) := h.cell 4
  have x3 : w.cell? ⟨db, 3, none⟩ = some (.int .i64 k.used) := h.cell 3
  have f3 := h.froz 3
  have d2 := Dsk.set (m := m) (k := k) (mb := mb) 3 (.int .i64 (k.used - (t : Int))) m { k with used := k.used - (t : Int) } rfl h.blk h.dge h.fls
  have U2 := Lib.hid ((Upd.refl (fun i => i = db) w).setCell (p := ⟨db, 3, none⟩) (fun _ => rfl) (.int .i64 (k.used - (t : Int))))
  have D2 := Lib.hid d2
  have MDB := Lib.hid (hlt da nd); have MNB := Lib.hid (hlt na nn)
  have i5 : (t : Int) ≤ 268435456 := by rw [ht] at hlb; omega
  obtain ⟨u1, u2⟩ := hu
  rw [ht]
  have NM := Lib.hid NMX
  clear hv ht hlb d2 h hlt LK hc NMX
  have i4 : IntKind.i64.wrap (k.used - (t : Int)) = k.used - (t : Int) := IntWalk.i64_in _ (by omega)
  go_enter Tryz.func123, Tryz.ntmps123
  go_wp2_with fail
  go_still_tail 14, (by kernel_rfl)
  go_wp2_with fail
  clear i4
  obtain ⟨w1, hw1⟩ : ∃ q, (w.setCell ⟨db, 3, none⟩ (.int .i64 (k.used - (t : Int)))).drew = q := ⟨_, rfl⟩
  have U3 := Lib.hid (U2.out.drew)
  have D3 := Lib.hid (D2.out.drewN 1)
  have E1 : (w.setCell ⟨db, 3, none⟩ (.int .i64 (k.used - (t : Int)))).drewN 1 = w1 := hw1
  rw [E1] at D3
  rw [hw1] at U3
  clear E1
  have y0 := U3.out.cell' hd MDB.out
  have y3 := U3.out.cell' hn MNB.out
  have y4 : w1.cell? ⟨db, 4, none⟩ = some (.map (some mb)) := D3.out.cell 4
  rw [hw1]
  clear hd hn x4 x3 f3 hw1 D2 U2 k1
  obtain ⟨w2, hr2', hf2, hu2⟩ := (D3.out.drewN 1).fls.del nm NM.out 0
  have hr2 : (Builtin.delete_ #[105, 9] 0 #[.map (some mb), .string ⟨nm.toArray⟩]).run Tryz.prog w1.drew = .ok (.tuple #[]) w2 := hr2'
  have F2 := Lib.hid hf2; have UU2 := Lib.hid hu2
  clear hf2 hu2 hr2'
  have FIN : Hid (WF w w2 base db mb m { k with used := k.used - (t : Int) } L (delF L nm)) := by
    have NMM : ¬ db = mb := by
      intro s
      obtain ⟨es, c, hb2, _⟩ := D3.out.fls.map
      have h1 := D3.out.blk
      rw [s, hb2] at h1
      cases h1
    exact ⟨_, ⟨(UU2.out.block db (lt_of_block D3.out.blk) NMM).trans D3.out.blk, D3.out.dge, F2.out⟩, (U3.out.drew).trans UU2.out (fun i s _ => .inl s) (fun i s _ => .inr (.inl s)), fun i s => .inl (foot_del i s)⟩
  clear F2 UU2 U3 D3
  go_still_tail 5, (by kernel_rfl)
  go_wp2
  go_end0
  exact ⟨rfl, FIN.out⟩
end Go.Proofs.YtnbpkignkfabkaaGreatDoor
namespace Go.Proofs.YtnbpkignkfabkaaGreatDoor
set_option linter.unusedVariables false
set_option linter.unusedSimpArgs false
open Go.RowKit Go.Maps Go.MuLone
def boxR (db : Nat) (nm : List UInt8) (w : World) : World := (w.alloc (.cells #[.pointer (some ⟨db, 0, none⟩)] 26)).alloc (.cells #[.string ⟨nm.toArray⟩] 9)
theorem boxR_below (db : Nat) (nm : List UInt8) (w : World) : Below w.heap.size w (boxR db nm w) := ((Below.refl _ w).alloc (Nat.le_refl _) _).alloc (by simp) _
theorem boxR_size (db : Nat) (nm : List UInt8) (w : World) : (boxR db nm w).heap.size = w.heap.size + 1 + 1 := by unfold boxR; rw [World.size_alloc, World.size_alloc]
theorem boxR_cells (db : Nat) (nm : List UInt8) (w : World) :
    (boxR db nm w).cell? ⟨w.heap.size, 0, none⟩ = some (.pointer (some ⟨db, 0, none⟩)) ∧ (boxR db nm w).cell? ⟨w.heap.size + 1, 0, none⟩ = some (.string ⟨nm.toArray⟩) := by
  unfold boxR
  refine ⟨?_, ?_⟩
  · rw [cell_of_row' ((Below.heap_alloc _ _ _ (by rw [World.size_alloc]; omega)).trans (heap_alloc_new w _))]; rfl
  · have hh := heap_alloc_new (w.alloc (.cells #[.pointer (some ⟨db, 0, none⟩)] 26)) (.cells #[.string ⟨nm.toArray⟩] 9)
    rw [World.size_alloc] at hh
    rw [cell_of_row' hh]; rfl
set_option maxRecDepth 100000 in
set_option maxHeartbeats 4000000 in
theorem Remove_dk (base db : Nat) (F : Nat → Prop) (s : DS) (nm : List UInt8) (w : World) (h : Dk w base F db s) (hnm : nm.length ≤ 140737488351232) (hw : s.writes ≤ 4611686018427387904) :
    Calls Tryz.prog 62 #[.pointer (some ⟨db, 0, none⟩), .string ⟨nm.toArray⟩] w fun r w' => DkR w w' base db F (s.remove nm) r := by
  obtain ⟨mb, L, D, h, hr, hok, hF⟩ := h
  have hlt := h.lt
  obtain ⟨w0, hw0⟩ : ∃ q, boxR db nm w = q := ⟨_, rfl⟩
  have b0 : Below w.heap.size w w0 := by rw [← hw0]; exact boxR_below ..
  have s0 : w0.heap.size = w.heap.size + 1 + 1 := by rw [← hw0]; exact boxR_size ..
  have h0 := h.below b0
  obtain ⟨q0, q1⟩ := boxR_cells db nm w
  rw [hw0] at q0 q1
  have n0 : ¬ db = w.heap.size := by omega
  have n1 : ¬ db = w.heap.size + 1 := by omega
  have SZ0 : Hid (w0.heap.size = w.heap.size + 1 + 1) := s0
  have h1 := h0.lock 1
  have z0 : (w0.setCell ⟨db, 0, none⟩ (.int .i32 1)).heap.size = w0.heap.size := by simp [World.setCell]
  have h2 := h1.below ((Below.refl _ _).alloc (Nat.le_refl _) (.cells #[.string ⟨nm.toArray⟩] 9))
  have MC := may_calls base db mb 1 s.k L D true w0.heap.size 1 [nm] _ h2 (fun i hi => by
    have hi' : i = 0 := by simp at hi; exact hi
    subst hi'
    have hh := heap_alloc_new (w0.setCell ⟨db, 0, none⟩ (.int .i32 1)) (.cells #[.string ⟨nm.toArray⟩] 9)
    rw [z0] at hh
    rw [cell_of_row' hh]; rfl) (by simp) (by simp) (fun x hx => by rw [List.mem_singleton] at hx; rw [hx]; exact hnm)
  rw [show [nm].length = 1 from rfl, kmay hr] at MC
  have MCH := Lib.hid MC
  unfold boxR at hw0
  have H0 := Lib.hid h0; have H2 := Lib.hid h2; have B0 := Lib.hid b0; have W0 := Lib.hid hw0
  have U2 := Lib.hid ((upd_lock (db := db) (Below.refl w0.heap.size w0) (.int .i32 1)).alloc (.cells #[.string ⟨nm.toArray⟩] 9))
  have Q0 := Lib.hid q0; have Q1 := Lib.hid q1
  have HNM := Lib.hid hnm; have HWR := Lib.hid hw; have RP := Lib.hid hr; have OK := Lib.hid hok; have HF := Lib.hid hF
  have FOOT := Lib.hid (fun i (hi : DkF db mb L i) => show i < w.heap.size from by
    rcases hi with rfl | hi
    · exact hlt
    · exact (h.fls.lt i hi).2)
  have U0 := Lib.hid (Upd.mono (S' := fun i => i = db) (Upd.ofBelow b0) (fun _ s _ => s.elim))
  clear hnm MC h0 h1 h2 b0 s0 hw0 h z0 hw hr hok hF
  unfold DkR
  obtain ⟨⟨ec, s'⟩, hcut⟩ : ∃ q, s.remove nm = q := ⟨_, rfl⟩
  rw [hcut]
  have HC := Lib.hid hcut
  clear hcut
  by_cases e : s.may true [nm] = 0
  · have CE2 : Hid ((ec, s') = s.whole fun t => t.del nm) := by
      show _ = _; rw [← HC.out]; unfold DS.remove; rw [if_neg (by omega)]
    rw [e] at MCH
    clear e
    have hmf : ∀ (fn : Fn) (first cap : Array Value) (w : World), (Instr.makeFunc fn first cap).run Tryz.prog w = .ok (.func fn first cap) w := fun _ _ _ _ => rfl
    go_enter_defers Tryz.func62, Tryz.ntmps62
    go_wp2_with fail
    rw [W0.out]
    refine (lock_free muLib ⟨db, 0, none⟩ _ (H0.out.cell 0) (H0.out.froz 0)).mono ?_
    rintro r w1 ⟨rfl, rfl⟩
    go_wp2_with fail
    refine MCH.out.mono ?_
    rintro r w6 ⟨rfl, hb3⟩
    have H6 := Lib.hid (H2.out.below hb3)
    have U3 := Lib.hid (U2.out.same ((Upd.ofBelow hb3).mono (fun _ s _ => s.elim)))
    have U6 := Lib.hid (U0.out.same U3.out)
    clear hb3 q0 q1
    have q0 := U3.out.cell' Q0.out (fun s => n0 s.symm)
    have q1 := U3.out.cell' Q1.out (fun s => n1 s.symm)
    have foot : ∀ i, w.heap.size ≤ i → ¬ DkF db mb L i := fun i hi s => by have := FOOT.out i s; omega
    have up6 : ∀ w1, Upd (fun i => i = db) w6 w1 → ∀ (p : Nat) (y : Value), w6.cell? ⟨p, 0, none⟩ = some y → w.heap.size ≤ p → w1.cell? ⟨p, 0, none⟩ = some y := fun w1 g2 p y hy hp => g2.cell' hy (fun s => foot p hp (.inl s))
    have hbl : bytF L nm = bytC s.C nm := RP.out.byt nm
    have hB := OK.out.byt nm
    have hS := OK.out.sum; have hR := OK.out.r2
    have hbl2 : (bytF L nm).length ≤ 268435456 := by rw [hbl]; exact hB
    have WC := whole_calls base db mb s.k 1 L D 123 #[.pointer (some ⟨w.heap.size, 0, none⟩), .pointer (some ⟨w.heap.size + 1, 0, none⟩)]
      (fun w1 w' => WF w1 w' base db mb 1 { wrK s.k with used := (wrK s.k).used - ((bytF L nm).length : Int) } L (delF L nm)) w6 H6.out ⟨by have := HWR.out; show (s.writes : Int) ≤ _; omega, by show _ ≤ (s.writes : Int); omega⟩ ⟨OK.out.a2, by have := OK.out.a1; show _ ≤ s.armed; omega⟩ (fun xs w' => Tryz.call123 xs w')
      (fun w1 g1 g2 => remC_calls base db mb 1 (wrK s.k) L D nm w.heap.size (w.heap.size + 1) w1 g1 hbl2 (up6 w1 g2 _ _ q0 (by omega)) (up6 w1 g2 _ _ q1 (by omega))
        (foot _ (by omega)) (foot _ (by omega)) HNM.out ⟨by show (0 : Int) ≤ (sumC s.C : Int); omega, by show (sumC s.C : Int) ≤ 268435456; omega⟩)
    have WCH := Lib.hid WC
    clear WC hbl hB hS hR hbl2 foot up6
    go_wp2_with fail
    refine WCH.out.mono ?_
    rintro r w9 hr
    have WT := whole_to (f := fun t => t.del nm) RP.out OK.out hr (fun w1 w' hwf => by
      have hbl : bytF L nm = bytC s.C nm := RP.out.byt nm
      refine ⟨_, ?_, RP.out.del nm⟩
      rw [kwr, hbl] at hwf
      rw [k_del OK.out.so nm (s.wr.k.used - ((bytC s.C nm).length : Int)) rfl] at hwf
      exact hwf) (OK.out.wr.del nm)
    obtain ⟨g1, g2⟩ := WT
    rw [← CE2.out] at g1 g2
    have FIN := Lib.hid (g2.done U6.out HF.out)
    subst g1
    obtain ⟨L', D', G1, -⟩ := g2
    have GW := Lib.hid G1
    clear G1 hr
    go_wp2
    refine leaves_cons (f := 55) (args := #[.pointer (some ⟨db, 0, none⟩)]) (by simp) (by simp [go_sem]) ?_
    refine (unlock_deferred muLib ⟨db, 0, none⟩ .returning _ (GW.out.cell 0) (GW.out.froz 0)).mono ?_
    rintro r u' w9 ⟨rfl, rfl, rfl⟩
    exact ⟨_, results_tmp rfl _ _ _, rfl, FIN.out⟩
  · have CE : Hid ((ec, s') = (s.may true [nm], s)) := by show _ = _; rw [← HC.out]; unfold DS.remove; rw [if_pos e]
    have te : (s.may true [nm] != 0) = true := by rw [bne_iff_ne]; exact e
    rw [← (Prod.mk.inj CE.out).1] at te MCH
    clear e
    go_enter_defers Tryz.func62, Tryz.ntmps62
    go_wp2_with fail
    rw [W0.out]
    refine (lock_free muLib ⟨db, 0, none⟩ _ (H0.out.cell 0) (H0.out.froz 0)).mono ?_
    rintro r w1 ⟨rfl, rfl⟩
    go_wp2_with fail
    refine MCH.out.mono ?_
    rintro r w3 ⟨rfl, hb3⟩
    have H3 := Lib.hid (H2.out.below hb3)
    have U3 := Lib.hid ((U0.out.same U2.out).same ((Upd.ofBelow hb3).mono (fun _ s _ => s.elim)))
    clear hb3
    go_wp2
    refine leaves_cons (f := 55) (args := #[.pointer (some ⟨db, 0, none⟩)]) (by simp) (by simp [go_sem]) ?_
    refine (unlock_deferred muLib ⟨db, 0, none⟩ .returning _ (H3.out.cell 0) (H3.out.froz 0)).mono ?_
    rintro r u' w4 ⟨rfl, rfl, rfl⟩
    exact ⟨_, results_tmp rfl _ _ _, rfl, by rw [(Prod.mk.inj CE.out).2]; exact DkTo.same (s := s) HF.out (H3.out.lock 0) RP.out OK.out (U3.out.setCell (p := ⟨db, 0, none⟩) (fun _ => rfl) _)⟩
end Go.Proofs.YtnbpkignkfabkaaGreatDoor
