/- (*disk.Disk).Rename. -/
import Derived.Test.YtcmllfnhdodbdaaGreatDoorWk
import Derived.IntWalk
import Derived.Test.YtcmllfnhdodbdaaGreatDoorCutOn
/- disk.Rename's closure. -/
namespace Go.Proofs.YtcmllfnhdodbdaaGreatDoor
set_option linter.unusedVariables false
set_option linter.unusedSimpArgs false
open Go.RowKit Go.Maps
theorem blk_ne_map {w : World} {base db mb : Nat} {m : Int} {k : DkV} {L : List Fl} {D : DataW Value} (h : Dsk w base db mb m k L D) : ¬ db = mb := by
  intro s
  obtain ⟨es, c, hb2, _⟩ := h.fls.map
  have h1 := h.blk
  rw [s, hb2] at h1
  cases h1
set_option maxRecDepth 100000 in
set_option maxHeartbeats 1000000 in
theorem renC_same (nm : List UInt8) (fa ta da : Nat) (w : World) (hf : w.cell? ⟨fa, 0, none⟩ = some (.string ⟨nm.toArray⟩)) (ht : w.cell? ⟨ta, 0, none⟩ = some (.string ⟨nm.toArray⟩)) :
    Calls Tryz.prog 55 #[.pointer (some ⟨fa, 0, none⟩), .pointer (some ⟨ta, 0, none⟩), .pointer (some ⟨da, 0, none⟩)] w fun r w' => r = .returned (.tuple #[]) ∧ w = w' := by
  go_enter Tryz.func55, Tryz.ntmps55
  go_wp2
  ((try simp only [Exit.inBlock, Exit.then]); refine bodyPost_ret (results_none rfl _ _ _) rfl ?_)
  exact ⟨rfl, rfl⟩
set_option maxRecDepth 100000 in
set_option maxHeartbeats 2000000 in
theorem renC_calls (base db mb : Nat) (m : Int) (k : DkV) (L : List Fl) (D : DataW Value) (a b : List UInt8) (fa ta da : Nat) (w : World) (h : Dsk w base db mb m k L D) (hne : a ≠ b) (has : hasF L a = true) (hlb : (bytF L b).length ≤ 268435456)
    (hf : w.cell? ⟨fa, 0, none⟩ = some (.string ⟨a.toArray⟩)) (ht : w.cell? ⟨ta, 0, none⟩ = some (.string ⟨b.toArray⟩)) (hd : w.cell? ⟨da, 0, none⟩ = some (.pointer (some ⟨db, 0, none⟩)))
    (nf : ¬ DkF db mb L fa) (nt : ¬ DkF db mb L ta) (nd : ¬ DkF db mb L da) (ha : a.length ≤ 140737488351232) (hb : b.length ≤ 140737488351232) (hL : L.length ≤ 1000) (hu : 0 ≤ k.used ∧ k.used ≤ 268435456) :
    Calls Tryz.prog 55 #[.pointer (some ⟨fa, 0, none⟩), .pointer (some ⟨ta, 0, none⟩), .pointer (some ⟨da, 0, none⟩)] w fun r w' => r = .returned (.tuple #[]) ∧
      ∃ f : Fl, f.nm = b ∧ f.by_ = bytF L a ∧ WF w w' base db mb m { k with used := k.used - ((bytF L b).length : Int) } L (putF (delF L a) f) := by
  have AMX : a.length ≤ maxLen := by unfold maxLen; omega
  have BMX : b.length ≤ maxLen := by unfold maxLen; omega
  have LMX : L.length < maxLen := by unfold maxLen; omega
  have LK := fun (w' : World) (hb : Below w.heap.size w w') => (h.below hb).fls.look b BMX
  obtain ⟨va, vc, hv, -, -, -, -⟩ := h.fls.val_shape b
  obtain ⟨t, hvt⟩ : ∃ t, (bytF L b).length = t := ⟨_, rfl⟩
  rw [hv, hvt] at LK
  have k1 := LK w.drew (bel_drewN (Below.refl _ _) 1)
  have hlt : ∀ (i : Nat), ¬ DkF db mb L i → ¬ i = db := fun i hi e => hi (.inl e)
  have hlm : ∀ (i : Nat), ¬ DkF db mb L i → ¬ i = mb := fun i hi e => hi (.inr (.inl e))
  have x4 : w.cell? ⟨db, 4, none⟩ = some (.map (some mb)) := h.cell 4
  have x3 : w.cell? ⟨db, 3, none⟩ = some (.int .i64 k.used) := h.cell 3
  have f3 := h.froz 3
  have d2 := Dsk.set (m := m) (k := k) (mb := mb) 3 (.int .i64 (k.used - (t : Int))) m { k with used := k.used - (t : Int) } rfl h.blk h.dge h.fls
  have U2 := Lib.hid ((Upd.refl (fun i => i = db) w).setCell (p := ⟨db, 3, none⟩) (fun _ => rfl) (.int .i64 (k.used - (t : Int))))
  have D2 := Lib.hid d2
  have M1 := Lib.hid (hlt fa nf); have M2 := Lib.hid (hlt ta nt); have M3 := Lib.hid (hlt da nd)
  have N1 := Lib.hid (hlm fa nf); have N2 := Lib.hid (hlm ta nt); have N3 := Lib.hid (hlm da nd)
  have i5 : (t : Int) ≤ 268435456 := by rw [hvt] at hlb; omega
  obtain ⟨u1, u2⟩ := hu
  rw [hvt]
  have AM := Lib.hid AMX; have BM := Lib.hid BMX; have LM := Lib.hid LMX; have NE := Lib.hid hne; have HAS := Lib.hid has
  have te : (a == b) = false := by simpa using hne
  clear hv hvt hlb d2 h hlt hlm LK AMX BMX LMX hne has ha hb hL
  have i4 : IntKind.i64.wrap (k.used - (t : Int)) = k.used - (t : Int) := IntWalk.i64_in _ (by omega)
  go_enter Tryz.func55, Tryz.ntmps55
  go_wp2_with fail
  go_still_tail 14, (by kernel_rfl)
  go_wp2_with fail
  clear i4 te
  obtain ⟨w1, hw1⟩ : ∃ q, (w.setCell ⟨db, 3, none⟩ (.int .i64 (k.used - (t : Int)))).drew = q := ⟨_, rfl⟩
  have U3 := Lib.hid (U2.out.drew)
  have D3 := Lib.hid (D2.out.drewN 1)
  have E1 : (w.setCell ⟨db, 3, none⟩ (.int .i64 (k.used - (t : Int)))).drewN 1 = w1 := hw1
  rw [E1] at D3
  rw [hw1] at U3
  clear E1
  have y0 := U3.out.cell' hf M1.out
  have y1 := U3.out.cell' ht M2.out
  have y2 := U3.out.cell' hd M3.out
  have y4 : w1.cell? ⟨db, 4, none⟩ = some (.map (some mb)) := D3.out.cell 4
  rw [hw1]
  clear hf ht hd x4 x3 f3 hw1 D2 U2 k1
  -- the file under the other name, too
  obtain ⟨fva, fvc, hfv, -, -, -, hfo⟩ := D3.out.fls.val_shape a
  obtain ⟨ft, hft⟩ : ∃ t, (bytF L a).length = t := ⟨_, rfl⟩
  have k2 : (Instr.lookup 67 (.map (some mb)) (.string ⟨a.toArray⟩) false).run Tryz.prog w1.drew = .ok (valF L a) w1.drew := (D3.out.drewN 1).fls.look a AM.out
  obtain ⟨w2, hr2, hm2, hu2⟩ := (D3.out.drewN 1).fls.move1 a b BM.out LM.out
  have k3 : (Instr.mapUpdate 67 (.map (some mb)) (.string ⟨b.toArray⟩) (valF L a)).run Tryz.prog w1.drew = .ok () w2 := hr2
  rw [hfv, hft] at k2 k3
  have MV := Lib.hid hm2; have UU2 := Lib.hid hu2; have HFO := Lib.hid hfo; have HFV := Lib.hid hfv; have HFT := Lib.hid hft
  clear hr2 hm2 hu2 hfo hfv hft
  go_still_tail 11, (by kernel_rfl)
  go_wp2_with fail
  clear k2 k3
  have z0 := UU2.out.cell' (p := ⟨fa, 0, none⟩) y0 N1.out
  have z2 := UU2.out.cell' (p := ⟨da, 0, none⟩) y2 N3.out
  have NMM : ¬ db = mb := blk_ne_map D3.out
  have BK2 : w2.heap[db]? = some (.cells (dcells m { k with used := k.used - (t : Int) } mb) 69 (0, 0)) := (UU2.out.block db (lt_of_block D3.out.blk) NMM).trans D3.out.blk
  have z4 : w2.cell? ⟨db, 4, none⟩ = some (.map (some mb)) := by rw [cell_of_row' BK2]; rfl
  have BKH := Lib.hid BK2; have NMH := Lib.hid NMM
  clear y0 y1 y2 y4 BK2 NMM
  obtain ⟨w4, hr4, hf4, hu4⟩ := Mov.move2 (w := w2.drewN 1) D3.out.fls (MV.out.upd (S := fun _ => False) ⟨rfl, rfl, rfl, Nat.le_refl _, fun _ _ _ => rfl⟩ (fun _ s _ => s)) NE.out HAS.out AM.out 0
  have k4 : (Builtin.delete_ #[67, 9] 0 #[.map (some mb), .string ⟨a.toArray⟩]).run Tryz.prog w2.drew = .ok (.tuple #[]) w4 := hr4
  obtain ⟨f, D', f1, f2, f3, f4⟩ := hf4
  have FIN : Hid (∃ f : Fl, f.nm = b ∧ f.by_ = bytF L a ∧ WF w w4 base db mb m { k with used := k.used - (t : Int) } L (putF (delF L a) f)) := by
    refine ⟨f, f1, f2, D', ⟨(hu4.block db (lt_of_block BKH.out) NMH.out).trans BKH.out, D3.out.dge, f4⟩, ?_, fun i s => .inl ?_⟩
    · refine ((U3.out.drew).trans UU2.out (S := DkF db mb L) (fun i s _ => .inl s) (fun i s _ => .inr (.inl s))).trans (Upd.same (Upd.drew (Upd.refl (fun k => k = mb) w2)) hu4) (fun i s _ => s) (fun i s _ => .inr (.inl s))
    · rcases s with s | s | ⟨g, hg, s⟩
      · exact .inl s
      · exact .inr (.inl s)
      · rcases mem_putF.1 hg with ⟨h1, _⟩ | rfl
        · exact .inr (.inr ⟨g, (mem_delF.1 h1).1, s⟩)
        · refine .inr (HFO.out i ?_).2.2
          have s' : g.val.ownBlock = some i := s
          rw [f3, HFV.out] at s'
          exact s'
  clear hr4 hu4 f1 f2 f3 f4 MV UU2 U3 D3 HFO
  go_still_tail 5, (by kernel_rfl)
  go_wp2
  go_end0
  exact ⟨rfl, FIN.out⟩
end Go.Proofs.YtcmllfnhdodbdaaGreatDoor
namespace Go.Proofs.YtcmllfnhdodbdaaGreatDoor
set_option linter.unusedVariables false
set_option linter.unusedSimpArgs false
open Go.RowKit Go.Maps Go.MuLone
def boxN (db : Nat) (a b : List UInt8) (w : World) : World := ((w.alloc (.cells #[.pointer (some ⟨db, 0, none⟩)] 26)).alloc (.cells #[.string ⟨a.toArray⟩] 9)).alloc (.cells #[.string ⟨b.toArray⟩] 9)
theorem boxN_below (db : Nat) (a b : List UInt8) (w : World) : Below w.heap.size w (boxN db a b w) := (((Below.refl _ w).alloc (Nat.le_refl _) _).alloc (by simp) _).alloc (by simp; omega) _
theorem boxN_size (db : Nat) (a b : List UInt8) (w : World) : (boxN db a b w).heap.size = w.heap.size + 1 + 1 + 1 := by unfold boxN; rw [World.size_alloc, World.size_alloc, World.size_alloc]
theorem boxN_cells (db : Nat) (a b : List UInt8) (w : World) :
    (boxN db a b w).cell? ⟨w.heap.size, 0, none⟩ = some (.pointer (some ⟨db, 0, none⟩)) ∧ (boxN db a b w).cell? ⟨w.heap.size + 1, 0, none⟩ = some (.string ⟨a.toArray⟩) ∧ (boxN db a b w).cell? ⟨w.heap.size + 1 + 1, 0, none⟩ = some (.string ⟨b.toArray⟩) := by
  unfold boxN
  refine ⟨?_, ?_, ?_⟩
  · rw [cell_of_row' ((Below.heap_alloc _ _ _ (by rw [World.size_alloc, World.size_alloc]; omega)).trans ((Below.heap_alloc _ _ _ (by rw [World.size_alloc]; omega)).trans (heap_alloc_new w _)))]; rfl
  · have hh := heap_alloc_new (w.alloc (.cells #[.pointer (some ⟨db, 0, none⟩)] 26)) (.cells #[.string ⟨a.toArray⟩] 9)
    rw [World.size_alloc] at hh
    rw [cell_of_row' ((Below.heap_alloc _ _ _ (by rw [World.size_alloc, World.size_alloc]; omega)).trans hh)]; rfl
  · have hh := heap_alloc_new ((w.alloc (.cells #[.pointer (some ⟨db, 0, none⟩)] 26)).alloc (.cells #[.string ⟨a.toArray⟩] 9)) (.cells #[.string ⟨b.toArray⟩] 9)
    rw [World.size_alloc, World.size_alloc] at hh
    rw [cell_of_row' hh]; rfl
def renF (a b x : List UInt8) (t : DS) : DS := if a = b then t else (t.del a).put b x
theorem DS.rename_eq (s : DS) (a b : List UInt8) : s.rename a b = if s.may true [a, b] ≠ 0 then (s.may true [a, b], s) else s.whole (renF a b (bytC s.C a)) := rfl
theorem DS.ok.renF {s : DS} (h : s.ok) (a b : List UInt8) (hm : s.may true [a, b] = 0) : (renF a b (bytC s.C a) s.wr).ok := by
  obtain ⟨_, h2, h3⟩ := s.may_cases _ _ hm
  unfold Go.Proofs.YtcmllfnhdodbdaaGreatDoor.renF
  split
  · exact h.wr
  · have h4 : hasC s.C a = true := h3 rfl
    have l1 := len_del h.so a
    rw [if_pos h4] at l1
    have l2 := h.len
    have s1 := sum_del h.so a
    have s2 := h.sum
    refine (h.wr.del a).put b _ (by simp at h2; exact h2.2) (.inr ?_) ?_
    · show (delC s.C a).length < 64
      omega
    · show sumC (delC s.C a) + (bytC s.C a).length ≤ s.room + _
      omega
theorem k_ren {s : DS} (hs : SortedC s.C) {a b : List UInt8} (hne : a ≠ b) (u : Int) (hu : u = (sumC s.C : Int) - (bytC s.C b).length) : { s.wr.k with used := u } = ((s.wr.del a).put b (bytC s.C a)).k := by
  have h1 := sum_del hs a
  have h2 := sum_set (sorted_delC a hs) b (bytC s.C a)
  rw [bytC_del_other hs (fun e => hne e.symm)] at h2
  have e : u = ((sumC (setC (delC s.C a) b (bytC s.C a)) : Nat) : Int) := by omega
  rw [e]
  rfl
set_option maxRecDepth 100000 in
set_option maxHeartbeats 4000000 in
theorem Rename_dk (base db : Nat) (F : Nat → Prop) (s : DS) (a b : List UInt8) (w : World) (h : Dk w base F db s) (hna : a.length ≤ 140737488351232) (hnb : b.length ≤ 140737488351232) (hw : s.writes ≤ 4611686018427387904) :
    Calls Tryz.prog 35 #[.pointer (some ⟨db, 0, none⟩), .string ⟨a.toArray⟩, .string ⟨b.toArray⟩] w fun r w' => DkR w w' base db F (s.rename a b) r := by
  obtain ⟨mb, L, D, h, hr, hok, hF⟩ := h
  have hlt := h.lt
  obtain ⟨w0, hw0⟩ : ∃ q, boxN db a b w = q := ⟨_, rfl⟩
  have b0 : Below w.heap.size w w0 := by rw [← hw0]; exact boxN_below ..
  have s0 : w0.heap.size = w.heap.size + 1 + 1 + 1 := by rw [← hw0]; exact boxN_size ..
  have h0 := h.below b0
  obtain ⟨q0, q1, q2⟩ := boxN_cells db a b w
  rw [hw0] at q0 q1 q2
  have n0 : ¬ db = w.heap.size := by omega
  have n1 : ¬ db = w.heap.size + 1 := by omega
  have n2 : ¬ db = w.heap.size + 1 + 1 := by omega
  have SZ0 : Hid (w0.heap.size = w.heap.size + 1 + 1 + 1) := s0
  have h1 := h0.lock 1
  have z0 : (w0.setCell ⟨db, 0, none⟩ (.int .i32 1)).heap.size = w0.heap.size := by simp [World.setCell]
  have h2 := h1.below ((Below.refl _ _).alloc (Nat.le_refl _) (.cells #[.string ⟨a.toArray⟩, .string ⟨b.toArray⟩] 9))
  have MC := may_calls base db mb 1 s.k L D true w0.heap.size 2 [a, b] _ h2 (fun i hi => by
    have hi' : i = 0 ∨ i = 1 := by simp at hi; omega
    have hh := heap_alloc_new (w0.setCell ⟨db, 0, none⟩ (.int .i32 1)) (.cells #[.string ⟨a.toArray⟩, .string ⟨b.toArray⟩] 9)
    rw [z0] at hh
    rcases hi' with rfl | rfl
    · rw [cell_of_row' hh]; rfl
    · rw [cell_of_row' hh]; rfl) (by simp) (by simp) (fun x hx => by
      rcases List.mem_cons.1 hx with rfl | hx
      · exact hna
      · rw [List.mem_singleton] at hx; rw [hx]; exact hnb)
  rw [show [a, b].length = 2 from rfl, kmay hr] at MC
  have MCH := Lib.hid MC
  unfold boxN at hw0
  have H0 := Lib.hid h0; have H2 := Lib.hid h2; have B0 := Lib.hid b0; have W0 := Lib.hid hw0
  have U2 := Lib.hid ((upd_lock (db := db) (Below.refl w0.heap.size w0) (.int .i32 1)).alloc (.cells #[.string ⟨a.toArray⟩, .string ⟨b.toArray⟩] 9))
  have Q0 := Lib.hid q0; have Q1 := Lib.hid q1; have Q2 := Lib.hid q2
  have HNA := Lib.hid hna; have HNB := Lib.hid hnb; have HWR := Lib.hid hw; have RP := Lib.hid hr; have OK := Lib.hid hok; have HF := Lib.hid hF
  have FOOT := Lib.hid (fun i (hi : DkF db mb L i) => show i < w.heap.size from by
    rcases hi with rfl | hi
    · exact hlt
    · exact (h.fls.lt i hi).2)
  have U0 := Lib.hid (Upd.mono (S' := fun i => i = db) (Upd.ofBelow b0) (fun _ s _ => s.elim))
  clear hna hnb MC h0 h1 h2 b0 s0 hw0 h z0 hw hr hok hF
  unfold DkR
  obtain ⟨⟨ec, s'⟩, hcut⟩ : ∃ q, s.rename a b = q := ⟨_, rfl⟩
  rw [hcut]
  have HC := Lib.hid hcut
  clear hcut
  by_cases e : s.may true [a, b] = 0
  · have CE2 : Hid ((ec, s') = s.whole (renF a b (bytC s.C a))) := by
      show _ = _; rw [← HC.out, DS.rename_eq, if_neg (by omega)]
    have OKF := Lib.hid (OK.out.renF a b e)
    have HAS : Hid (hasC s.C a = true) := (s.may_cases _ _ e).2.2 rfl
    rw [e] at MCH
    clear e
    have hmf : ∀ (fn : Fn) (first cap : Array Value) (w : World), (Instr.makeFunc fn first cap).run Tryz.prog w = .ok (.func fn first cap) w := fun _ _ _ _ => rfl
    go_enter_defers Tryz.func35, Tryz.ntmps35
    go_wp2_with fail
    rw [W0.out]
    refine (lock_free muLib ⟨db, 0, none⟩ _ (H0.out.cell 0) (H0.out.froz 0)).mono ?_
    rintro r w1 ⟨rfl, rfl⟩
    go_wp2_with fail
    refine MCH.out.mono ?_
    rintro r w6 ⟨rfl, hb3⟩
    have H6 := Lib.hid (H2.out.below hb3)
    have U3 := Lib.hid (U2.out.same ((Upd.ofBelow hb3).mono (fun _ s _ => s.elim)))
    have U6 := Lib.hid (U0.out.same U3.out)
    clear hb3 q0 q1 q2
    have q0 := U3.out.cell' Q0.out (fun s => n0 s.symm)
    have q1 := U3.out.cell' Q1.out (fun s => n1 s.symm)
    have q2 := U3.out.cell' Q2.out (fun s => n2 s.symm)
    have foot : ∀ i, w.heap.size ≤ i → ¬ DkF db mb L i := fun i hi s => by have := FOOT.out i s; omega
    have up6 : ∀ w1, Upd (fun i => i = db) w6 w1 → ∀ (p : Nat) (y : Value), w6.cell? ⟨p, 0, none⟩ = some y → w.heap.size ≤ p → w1.cell? ⟨p, 0, none⟩ = some y := fun w1 g2 p y hy hp => g2.cell' hy (fun s => foot p hp (.inl s))
    have hB := OK.out.byt b
    have hS := OK.out.sum; have hR := OK.out.r2
    have hbl2 : (bytF L b).length ≤ 268435456 := by rw [RP.out.byt]; exact hB
    have hLl : L.length ≤ 1000 := by rw [RP.out.len]; have := OK.out.len; omega
    have WC := whole_calls base db mb s.k 1 L D 55 #[.pointer (some ⟨w.heap.size + 1, 0, none⟩), .pointer (some ⟨w.heap.size + 1 + 1, 0, none⟩), .pointer (some ⟨w.heap.size, 0, none⟩)]
      (fun w1 w' => if a = b then Dsk w1 base db mb 1 (wrK s.k) L D ∧ w1 = w' else ∃ f : Fl, f.nm = b ∧ f.by_ = bytF L a ∧ WF w1 w' base db mb 1 { wrK s.k with used := (wrK s.k).used - ((bytF L b).length : Int) } L (putF (delF L a) f)) w6 H6.out ⟨by have := HWR.out; show (s.writes : Int) ≤ _; omega, by show _ ≤ (s.writes : Int); omega⟩ ⟨OK.out.a2, by have := OK.out.a1; show _ ≤ s.armed; omega⟩ (fun xs w' => Tryz.call55 xs w')
      (fun w1 g1 g2 => by
        have z0 := up6 w1 g2 _ _ q0 (by omega)
        have z1 := up6 w1 g2 _ _ q1 (by omega)
        have z2 := up6 w1 g2 _ _ q2 (by omega)
        by_cases c : a = b
        · have z2' := z2
          rw [← c] at z2'
          refine (renC_same a (w.heap.size + 1) (w.heap.size + 1 + 1) w.heap.size w1 z1 z2').mono ?_
          rintro r w' ⟨hr, hw⟩
          exact ⟨hr, by rw [if_pos c]; exact ⟨g1, hw⟩⟩
        · refine (renC_calls base db mb 1 (wrK s.k) L D a b (w.heap.size + 1) (w.heap.size + 1 + 1) w.heap.size w1 g1 c (by rw [RP.out.has]; exact HAS.out) hbl2 z1 z2 z0 (foot _ (by omega)) (foot _ (by omega)) (foot _ (by omega)) HNA.out HNB.out hLl ⟨by show (0 : Int) ≤ (sumC s.C : Int); omega, by show (sumC s.C : Int) ≤ 268435456; omega⟩).mono ?_
          rintro r w' ⟨hr, hq⟩
          exact ⟨hr, by rw [if_neg c]; exact hq⟩)
    have WCH := Lib.hid WC
    clear WC hB hS hR hbl2 hLl foot up6
    go_wp2_with fail
    refine WCH.out.mono ?_
    rintro r w9 hr
    have WT := whole_to (f := renF a b (bytC s.C a)) RP.out OK.out hr (fun w1 w' hq => by
      unfold renF
      by_cases c : a = b
      · rw [if_pos c] at hq
        rw [if_pos c]
        obtain ⟨g1, rfl⟩ := hq
        rw [kwr] at g1
        exact ⟨L, ⟨D, g1, Upd.refl _ _, fun i s => .inl s⟩, RP.out⟩
      · rw [if_neg c] at hq
        rw [if_neg c]
        obtain ⟨f, f1, f2, hwf⟩ := hq
        refine ⟨putF (delF L a) f, ?_, ?_⟩
        · rw [kwr, RP.out.byt b] at hwf
          rw [k_ren OK.out.so c (s.wr.k.used - ((bytC s.C b).length : Int)) rfl] at hwf
          exact hwf
        · have h9 := (RP.out.del a).put f
          rw [f1, f2, RP.out.byt a] at h9
          exact h9) OKF.out
    obtain ⟨g1, g2⟩ := WT
    rw [← CE2.out] at g1 g2
    have FIN := Lib.hid (g2.done U6.out HF.out)
    subst g1
    obtain ⟨L', D', G1, -⟩ := g2
    have GW := Lib.hid G1
    clear G1 hr
    go_wp2
    refine leaves_cons (f := 30) (args := #[.pointer (some ⟨db, 0, none⟩)]) (by simp) (by simp [go_sem]) ?_
    refine (unlock_deferred muLib ⟨db, 0, none⟩ .returning _ (GW.out.cell 0) (GW.out.froz 0)).mono ?_
    rintro r u' w9 ⟨rfl, rfl, rfl⟩
    exact ⟨_, results_tmp rfl _ _ _, rfl, FIN.out⟩
  · have CE : Hid ((ec, s') = (s.may true [a, b], s)) := by show _ = _; rw [← HC.out]; rw [DS.rename_eq, if_pos e]
    have te : (s.may true [a, b] != 0) = true := by rw [bne_iff_ne]; exact e
    rw [← (Prod.mk.inj CE.out).1] at te MCH
    clear e
    go_enter_defers Tryz.func35, Tryz.ntmps35
    go_wp2_with fail
    rw [W0.out]
    refine (lock_free muLib ⟨db, 0, none⟩ _ (H0.out.cell 0) (H0.out.froz 0)).mono ?_
    rintro r w1 ⟨rfl, rfl⟩
    go_wp2_with fail
    refine MCH.out.mono ?_
    rintro r w3 ⟨rfl, hb3⟩
    have H3 := Lib.hid (H2.out.below hb3)
    have U3 := Lib.hid ((U0.out.same U2.out).same ((Upd.ofBelow hb3).mono (fun _ s _ => s.elim)))
    clear hb3
    go_wp2
    refine leaves_cons (f := 30) (args := #[.pointer (some ⟨db, 0, none⟩)]) (by simp) (by simp [go_sem]) ?_
    refine (unlock_deferred muLib ⟨db, 0, none⟩ .returning _ (H3.out.cell 0) (H3.out.froz 0)).mono ?_
    rintro r u' w4 ⟨rfl, rfl, rfl⟩
    exact ⟨_, results_tmp rfl _ _ _, rfl, by rw [(Prod.mk.inj CE.out).2]; exact DkTo.same (s := s) HF.out (H3.out.lock 0) RP.out OK.out (U3.out.setCell (p := ⟨db, 0, none⟩) (fun _ => rfl) _)⟩
end Go.Proofs.YtcmllfnhdodbdaaGreatDoor
