/- (*disk.Disk).Rename. -/
import Derived.Test.YtcmllfnhdodbdaaDoorRen
import Derived.Test.YtcmllfnhdodbdaaDoorCutOn
namespace Go.Proofs.YtcmllfnhdodbdaaDoor
set_option linter.unusedVariables false
set_option linter.unusedSimpArgs false
open Go.RowKit Go.Maps Go.MuLone
def boxN (db : Nat) (a b : List UInt8) (w : World) : World := ((w.alloc (.cells #[.pointer (some ⟨db, 0, none⟩)] 24)).alloc (.cells #[.string ⟨a.toArray⟩] 9)).alloc (.cells #[.string ⟨b.toArray⟩] 9)
theorem boxN_below (db : Nat) (a b : List UInt8) (w : World) : Below w.heap.size w (boxN db a b w) := (((Below.refl _ w).alloc (Nat.le_refl _) _).alloc (by simp) _).alloc (by simp; omega) _
theorem boxN_size (db : Nat) (a b : List UInt8) (w : World) : (boxN db a b w).heap.size = w.heap.size + 1 + 1 + 1 := by unfold boxN; rw [World.size_alloc, World.size_alloc, World.size_alloc]
theorem boxN_cells (db : Nat) (a b : List UInt8) (w : World) :
    (boxN db a b w).cell? ⟨w.heap.size, 0, none⟩ = some (.pointer (some ⟨db, 0, none⟩)) ∧ (boxN db a b w).cell? ⟨w.heap.size + 1, 0, none⟩ = some (.string ⟨a.toArray⟩) ∧ (boxN db a b w).cell? ⟨w.heap.size + 1 + 1, 0, none⟩ = some (.string ⟨b.toArray⟩) := by
  unfold boxN
  refine ⟨?_, ?_, ?_⟩
  · rw [cell_of_row' ((Below.heap_alloc _ _ _ (by rw [World.size_alloc, World.size_alloc]; omega)).trans ((Below.heap_alloc _ _ _ (by rw [World.size_alloc]; omega)).trans (heap_alloc_new w _)))]; rfl
  · have hh := heap_alloc_new (w.alloc (.cells #[.pointer (some ⟨db, 0, none⟩)] 24)) (.cells #[.string ⟨a.toArray⟩] 9)
    rw [World.size_alloc] at hh
    rw [cell_of_row' ((Below.heap_alloc _ _ _ (by rw [World.size_alloc, World.size_alloc]; omega)).trans hh)]; rfl
  · have hh := heap_alloc_new ((w.alloc (.cells #[.pointer (some ⟨db, 0, none⟩)] 24)).alloc (.cells #[.string ⟨a.toArray⟩] 9)) (.cells #[.string ⟨b.toArray⟩] 9)
    rw [World.size_alloc, World.size_alloc] at hh
    rw [cell_of_row' hh]; rfl
def renF (a b x : List UInt8) (t : DS) : DS := if a = b then t else (t.del a).put b x
theorem DS.rename_eq (s : DS) (a b : List UInt8) : s.rename a b = if s.may true [a, b] ≠ 0 then (s.may true [a, b], s) else s.whole (renF a b (bytC s.C a)) := rfl
theorem DS.ok.renF {s : DS} (h : s.ok) (a b : List UInt8) (hm : s.may true [a, b] = 0) : (renF a b (bytC s.C a) s.wr).ok := by
  obtain ⟨_, h2, h3⟩ := s.may_cases _ _ hm
  unfold Go.Proofs.YtcmllfnhdodbdaaDoor.renF
  split
  · exact h.wr
  · have h4 : hasC s.C a = true := h3 rfl
    have l1 := len_del h.so a
    rw [if_pos h4] at l1
    have l2 := h.len
    have s1 := sum_del h.so a
    have s2 := h.sum
    refine (h.wr.del a).put b _ (by simp at h2; exact h2.2) (.inr ?_) ?_
    · show (delC s.C a).length < 64
      omega
    · show sumC (delC s.C a) + (bytC s.C a).length ≤ s.room + _
      omega
theorem k_ren {s : DS} (hs : SortedC s.C) {a b : List UInt8} (hne : a ≠ b) (u : Int) (hu : u = (sumC s.C : Int) - (bytC s.C b).length) : { s.wr.k with used := u } = ((s.wr.del a).put b (bytC s.C a)).k := by
  have h1 := sum_del hs a
  have h2 := sum_set (sorted_delC a hs) b (bytC s.C a)
  rw [bytC_del_other hs (fun e => hne e.symm)] at h2
  have e : u = ((sumC (setC (delC s.C a) b (bytC s.C a)) : Nat) : Int) := by omega
  rw [e]
  rfl
set_option maxRecDepth 100000 in
set_option maxHeartbeats 4000000 in
theorem Rename_dk (base db : Nat) (F : Nat → Prop) (s : DS) (a b : List UInt8) (w : World) (h : Dk w base F db s) (hna : a.length ≤ 140737488351232) (hnb : b.length ≤ 140737488351232) (hw : s.writes ≤ 4611686018427387904) :
    Calls Tryd.prog 45 #[.pointer (some ⟨db, 0, none⟩), .string ⟨a.toArray⟩, .string ⟨b.toArray⟩] w fun r w' => DkR w w' base db F (s.rename a b) r := by
  obtain ⟨mb, L, D, h, hr, hok, hF⟩ := h
  have hlt := h.lt
  obtain ⟨w0, hw0⟩ : ∃ q, boxN db a b w = q := ⟨_, rfl⟩
  have b0 : Below w.heap.size w w0 := by rw [← hw0]; exact boxN_below ..
  have s0 : w0.heap.size = w.heap.size + 1 + 1 + 1 := by rw [← hw0]; exact boxN_size ..
  have h0 := h.below b0
  obtain ⟨q0, q1, q2⟩ := boxN_cells db a b w
  rw [hw0] at q0 q1 q2
  have n0 : ¬ db = w.heap.size := by omega
  have n1 : ¬ db = w.heap.size + 1 := by omega
  have n2 : ¬ db = w.heap.size + 1 + 1 := by omega
  have SZ0 : Hid (w0.heap.size = w.heap.size + 1 + 1 + 1) := s0
  have h1 := h0.lock 1
  have z0 : (w0.setCell ⟨db, 0, none⟩ (.int .i32 1)).heap.size = w0.heap.size := by simp [World.setCell]
  have h2 := h1.below ((Below.refl _ _).alloc (Nat.le_refl _) (.cells #[.string ⟨a.toArray⟩, .string ⟨b.toArray⟩] 9))
  have MC := may_calls base db mb 1 s.k L D true w0.heap.size 2 [a, b] _ h2 (fun i hi => by
    have hi' : i = 0 ∨ i = 1 := by simp at hi; omega
    have hh := heap_alloc_new (w0.setCell ⟨db, 0, none⟩ (.int .i32 1)) (.cells #[.string ⟨a.toArray⟩, .string ⟨b.toArray⟩] 9)
    rw [z0] at hh
    rcases hi' with rfl | rfl
    · rw [cell_of_row' hh]; rfl
    · rw [cell_of_row' hh]; rfl) (by simp) (by simp) (fun x hx => by
      rcases List.mem_cons.1 hx with rfl | hx
      · exact hna
      · rw [List.mem_singleton] at hx; rw [hx]; exact hnb)
  rw [show [a, b].length = 2 from rfl, kmay hr] at MC
  have MCH := Lib.hid MC
  unfold boxN at hw0
  have H0 := Lib.hid h0; have H2 := Lib.hid h2; have B0 := Lib.hid b0; have W0 := Lib.hid hw0
  have U2 := Lib.hid ((upd_lock (db := db) (Below.refl w0.heap.size w0) (.int .i32 1)).alloc (.cells #[.string ⟨a.toArray⟩, .string ⟨b.toArray⟩] 9))
  have Q0 := Lib.hid q0; have Q1 := Lib.hid q1; have Q2 := Lib.hid q2
  have HNA := Lib.hid hna; have HNB := Lib.hid hnb; have HWR := Lib.hid hw; have RP := Lib.hid hr; have OK := Lib.hid hok; have HF := Lib.hid hF
  have FOOT := Lib.hid (fun i (hi : DkF db mb L i) => show i < w.heap.size from by
    rcases hi with rfl | hi
    · exact hlt
    · exact (h.fls.lt i hi).2)
  have U0 := Lib.hid (Upd.mono (S' := fun i => i = db) (Upd.ofBelow b0) (fun _ s _ => s.elim))
  clear hna hnb MC h0 h1 h2 b0 s0 hw0 h z0 hw hr hok hF
  unfold DkR
  obtain ⟨⟨ec, s'⟩, hcut⟩ : ∃ q, s.rename a b = q := ⟨_, rfl⟩
  rw [hcut]
  have HC := Lib.hid hcut
  clear hcut
  by_cases e : s.may true [a, b] = 0
  · have CE2 : Hid ((ec, s') = s.whole (renF a b (bytC s.C a))) := by
      show _ = _; rw [← HC.out, DS.rename_eq, if_neg (by omega)]
    have OKF := Lib.hid (OK.out.renF a b e)
    have HAS : Hid (hasC s.C a = true) := (s.may_cases _ _ e).2.2 rfl
    rw [e] at MCH
    clear e
    have hmf : ∀ (fn : Fn) (first cap : Array Value) (w : World), (Instr.makeFunc fn first cap).run Tryd.prog w = .ok (.func fn first cap) w := fun _ _ _ _ => rfl
    go_enter_defers Tryd.func45, Tryd.ntmps45
    go_wp2_with fail
    rw [W0.out]
    refine (lock_free muLib ⟨db, 0, none⟩ _ (H0.out.cell 0) (H0.out.froz 0)).mono ?_
    rintro r w1 ⟨rfl, rfl⟩
    go_wp2_with fail
    refine MCH.out.mono ?_
    rintro r w6 ⟨rfl, hb3⟩
    have H6 := Lib.hid (H2.out.below hb3)
    have U3 := Lib.hid (U2.out.same ((Upd.ofBelow hb3).mono (fun _ s _ => s.elim)))
    have U6 := Lib.hid (U0.out.same U3.out)
    clear hb3 q0 q1 q2
    have q0 := U3.out.cell' Q0.out (fun s => n0 s.symm)
    have q1 := U3.out.cell' Q1.out (fun s => n1 s.symm)
    have q2 := U3.out.cell' Q2.out (fun s => n2 s.symm)
    have foot : ∀ i, w.heap.size ≤ i → ¬ DkF db mb L i := fun i hi s => by have := FOOT.out i s; omega
    have up6 : ∀ w1, Upd (fun i => i = db) w6 w1 → ∀ (p : Nat) (y : Value), w6.cell? ⟨p, 0, none⟩ = some y → w.heap.size ≤ p → w1.cell? ⟨p, 0, none⟩ = some y := fun w1 g2 p y hy hp => g2.cell' hy (fun s => foot p hp (.inl s))
    have hB := OK.out.byt b
    have hS := OK.out.sum; have hR := OK.out.r2
    have hbl2 : (bytF L b).length ≤ 268435456 := by rw [RP.out.byt]; exact hB
    have hLl : L.length ≤ 1000 := by rw [RP.out.len]; have := OK.out.len; omega
    have WC := whole_calls base db mb s.k 1 L D 53 #[.pointer (some ⟨w.heap.size + 1, 0, none⟩), .pointer (some ⟨w.heap.size + 1 + 1, 0, none⟩), .pointer (some ⟨w.heap.size, 0, none⟩)]
      (fun w1 w' => if a = b then Dsk w1 base db mb 1 (wrK s.k) L D ∧ w1 = w' else ∃ f : Fl, f.nm = b ∧ f.by_ = bytF L a ∧ WF w1 w' base db mb 1 { wrK s.k with used := (wrK s.k).used - ((bytF L b).length : Int) } L (putF (delF L a) f)) w6 H6.out ⟨by have := HWR.out; show (s.writes : Int) ≤ _; omega, by show _ ≤ (s.writes : Int); omega⟩ ⟨OK.out.a2, by have := OK.out.a1; show _ ≤ s.armed; omega⟩ (fun xs w' => Tryd.call53 xs w')
      (fun w1 g1 g2 => by
        have z0 := up6 w1 g2 _ _ q0 (by omega)
        have z1 := up6 w1 g2 _ _ q1 (by omega)
        have z2 := up6 w1 g2 _ _ q2 (by omega)
        by_cases c : a = b
        · have z2' := z2
          rw [← c] at z2'
          refine (renC_same a (w.heap.size + 1) (w.heap.size + 1 + 1) w.heap.size w1 z1 z2').mono ?_
          rintro r w' ⟨hr, hw⟩
          exact ⟨hr, by rw [if_pos c]; exact ⟨g1, hw⟩⟩
        · refine (renC_calls base db mb 1 (wrK s.k) L D a b (w.heap.size + 1) (w.heap.size + 1 + 1) w.heap.size w1 g1 c (by rw [RP.out.has]; exact HAS.out) hbl2 z1 z2 z0 (foot _ (by omega)) (foot _ (by omega)) (foot _ (by omega)) HNA.out HNB.out hLl ⟨by show (0 : Int) ≤ (sumC s.C : Int); omega, by show (sumC s.C : Int) ≤ 268435456; omega⟩).mono ?_
          rintro r w' ⟨hr, hq⟩
          exact ⟨hr, by rw [if_neg c]; exact hq⟩)
    have WCH := Lib.hid WC
    clear WC hB hS hR hbl2 hLl foot up6
    go_wp2_with fail
    refine WCH.out.mono ?_
    rintro r w9 hr
    have WT := whole_to (f := renF a b (bytC s.C a)) RP.out OK.out hr (fun w1 w' hq => by
      unfold renF
      by_cases c : a = b
      · rw [if_pos c] at hq
        rw [if_pos c]
        obtain ⟨g1, rfl⟩ := hq
        rw [kwr] at g1
        exact ⟨L, ⟨D, g1, Upd.refl _ _, fun i s => .inl s⟩, RP.out⟩
      · rw [if_neg c] at hq
        rw [if_neg c]
        obtain ⟨f, f1, f2, hwf⟩ := hq
        refine ⟨putF (delF L a) f, ?_, ?_⟩
        · rw [kwr, RP.out.byt b] at hwf
          rw [k_ren OK.out.so c (s.wr.k.used - ((bytC s.C b).length : Int)) rfl] at hwf
          exact hwf
        · have h9 := (RP.out.del a).put f
          rw [f1, f2, RP.out.byt a] at h9
          exact h9) OKF.out
    obtain ⟨g1, g2⟩ := WT
    rw [← CE2.out] at g1 g2
    have FIN := Lib.hid (g2.done U6.out HF.out)
    subst g1
    obtain ⟨L', D', G1, -⟩ := g2
    have GW := Lib.hid G1
    clear G1 hr
    go_wp2
    refine leaves_cons (f := 30) (args := #[.pointer (some ⟨db, 0, none⟩)]) (by simp) (by simp [go_sem]) ?_
    refine (unlock_deferred muLib ⟨db, 0, none⟩ .returning _ (GW.out.cell 0) (GW.out.froz 0)).mono ?_
    rintro r u' w9 ⟨rfl, rfl, rfl⟩
    exact ⟨_, results_tmp rfl _ _ _, rfl, FIN.out⟩
  · have CE : Hid ((ec, s') = (s.may true [a, b], s)) := by show _ = _; rw [← HC.out]; rw [DS.rename_eq, if_pos e]
    have te : (s.may true [a, b] != 0) = true := by rw [bne_iff_ne]; exact e
    rw [← (Prod.mk.inj CE.out).1] at te MCH
    clear e
    go_enter_defers Tryd.func45, Tryd.ntmps45
    go_wp2_with fail
    rw [W0.out]
    refine (lock_free muLib ⟨db, 0, none⟩ _ (H0.out.cell 0) (H0.out.froz 0)).mono ?_
    rintro r w1 ⟨rfl, rfl⟩
    go_wp2_with fail
    refine MCH.out.mono ?_
    rintro r w3 ⟨rfl, hb3⟩
    have H3 := Lib.hid (H2.out.below hb3)
    have U3 := Lib.hid ((U0.out.same U2.out).same ((Upd.ofBelow hb3).mono (fun _ s _ => s.elim)))
    clear hb3
    go_wp2
    refine leaves_cons (f := 30) (args := #[.pointer (some ⟨db, 0, none⟩)]) (by simp) (by simp [go_sem]) ?_
    refine (unlock_deferred muLib ⟨db, 0, none⟩ .returning _ (H3.out.cell 0) (H3.out.froz 0)).mono ?_
    rintro r u' w4 ⟨rfl, rfl, rfl⟩
    exact ⟨_, results_tmp rfl _ _ _, rfl, by rw [(Prod.mk.inj CE.out).2]; exact DkTo.same (s := s) HF.out (H3.out.lock 0) RP.out OK.out (U3.out.setCell (p := ⟨db, 0, none⟩) (fun _ => rfl) _)⟩
end Go.Proofs.YtcmllfnhdodbdaaDoor
