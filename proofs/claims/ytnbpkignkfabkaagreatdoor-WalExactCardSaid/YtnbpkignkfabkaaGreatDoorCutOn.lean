/- (*disk.Disk).Cut. -/
import Derived.Test.YtnbpkignkfabkaaGreatDoorWk
namespace Go.Proofs.YtnbpkignkfabkaaGreatDoor
set_option linter.unusedVariables false
set_option linter.unusedSimpArgs false
open Go.RowKit Go.Maps Go.MuLone
def boxC (db : Nat) (nm : List UInt8) (n : Int) (w : World) : World :=
  ((w.alloc (.cells #[.pointer (some ⟨db, 0, none⟩)] 26)).alloc (.cells #[.string ⟨nm.toArray⟩] 9)).alloc (.cells #[.int .i64 n] 3)
theorem boxC_below (db : Nat) (nm : List UInt8) (n : Int) (w : World) : Below w.heap.size w (boxC db nm n w) := (((Below.refl _ w).alloc (Nat.le_refl _) _).alloc (by simp) _).alloc (by simp; omega) _
theorem boxC_size (db : Nat) (nm : List UInt8) (n : Int) (w : World) : (boxC db nm n w).heap.size = w.heap.size + 1 + 1 + 1 := by unfold boxC; rw [World.size_alloc, World.size_alloc, World.size_alloc]
theorem boxC_cells (db : Nat) (nm : List UInt8) (n : Int) (w : World) :
    (boxC db nm n w).cell? ⟨w.heap.size, 0, none⟩ = some (.pointer (some ⟨db, 0, none⟩)) ∧ (boxC db nm n w).cell? ⟨w.heap.size + 1, 0, none⟩ = some (.string ⟨nm.toArray⟩) ∧ (boxC db nm n w).cell? ⟨w.heap.size + 1 + 1, 0, none⟩ = some (.int .i64 n) := by
  unfold boxC
  refine ⟨?_, ?_, ?_⟩
  · rw [cell_of_row' ((Below.heap_alloc _ _ _ (by rw [World.size_alloc, World.size_alloc]; omega)).trans ((Below.heap_alloc _ _ _ (by rw [World.size_alloc]; omega)).trans (heap_alloc_new w _)))]; rfl
  · have hh := heap_alloc_new (w.alloc (.cells #[.pointer (some ⟨db, 0, none⟩)] 26)) (.cells #[.string ⟨nm.toArray⟩] 9)
    rw [World.size_alloc] at hh
    rw [cell_of_row' ((Below.heap_alloc _ _ _ (by rw [World.size_alloc, World.size_alloc]; omega)).trans hh)]; rfl
  · have hh := heap_alloc_new ((w.alloc (.cells #[.pointer (some ⟨db, 0, none⟩)] 26)).alloc (.cells #[.string ⟨nm.toArray⟩] 9)) (.cells #[.int .i64 n] 3)
    rw [World.size_alloc, World.size_alloc] at hh
    rw [cell_of_row' hh]; rfl
/-- Behind the look-up: what stood there, in a box. -/
def Got1 (w wx : World) (va : Option Addr) (vl vc : Nat) (v8 : Value) : Prop :=
  ∃ wa, v8 = .pointer (some ⟨wa, 0, none⟩) ∧ wx.cell? ⟨wa, 0, none⟩ = some (.slice va vl vc) ∧ w.heap.size ≤ wa ∧ Below w.heap.size w wx
theorem got1_a (w : World) (va : Option Addr) (vl vc : Nat) : Got1 w (w.alloc (.cells #[.slice va vl vc] 74)).drew va vl vc (.pointer (some ⟨w.heap.size, 0, none⟩)) := by
  refine ⟨_, rfl, ?_, Nat.le_refl _, bel_drewN ((Below.refl _ _).alloc (Nat.le_refl _) _) 1⟩
  show World.cell? (w.alloc _) _ = _
  rw [cell_of_row' (heap_alloc_new w _)]; rfl
set_option maxRecDepth 100000 in
set_option maxHeartbeats 4000000 in
theorem Cut_dk (base db : Nat) (F : Nat → Prop) (s : DS) (nm : List UInt8) (n : Int) (w : World) (h : Dk w base F db s) (hnm : nm.length ≤ 140737488351232) (hw : s.writes ≤ 4611686018427387904) :
    Calls Tryz.prog 51 #[.pointer (some ⟨db, 0, none⟩), .string ⟨nm.toArray⟩, .int .i64 n] w fun r w' => DkR w w' base db F (s.cut nm n) r := by
  obtain ⟨mb, L, D, h, hr, hok, hF⟩ := h
  have hlt := h.lt
  obtain ⟨w0, hw0⟩ : ∃ q, boxC db nm n w = q := ⟨_, rfl⟩
  have b0 : Below w.heap.size w w0 := by rw [← hw0]; exact boxC_below ..
  have s0 : w0.heap.size = w.heap.size + 1 + 1 + 1 := by rw [← hw0]; exact boxC_size ..
  have h0 := h.below b0
  obtain ⟨q0, q1, q2⟩ := boxC_cells db nm n w
  rw [hw0] at q0 q1 q2
  have n0 : ¬ db = w.heap.size := by omega
  have n1 : ¬ db = w.heap.size + 1 := by omega
  have n2 : ¬ db = w.heap.size + 1 + 1 := by omega
  have SZ0 : Hid (w0.heap.size = w.heap.size + 1 + 1 + 1) := s0
  have h1 := h0.lock 1
  have z0 : (w0.setCell ⟨db, 0, none⟩ (.int .i32 1)).heap.size = w0.heap.size := by simp [World.setCell]
  have h2 := h1.below ((Below.refl _ _).alloc (Nat.le_refl _) (.cells #[.string ⟨nm.toArray⟩] 9))
  have MC := may_calls base db mb 1 s.k L D true w0.heap.size 1 [nm] _ h2 (fun i hi => by
    have hi' : i = 0 := by simp at hi; exact hi
    subst hi'
    have hh := heap_alloc_new (w0.setCell ⟨db, 0, none⟩ (.int .i32 1)) (.cells #[.string ⟨nm.toArray⟩] 9)
    rw [z0] at hh
    rw [cell_of_row' hh]; rfl) (by simp) (by simp) (fun x hx => by rw [List.mem_singleton] at hx; rw [hx]; exact hnm)
  rw [show [nm].length = 1 from rfl, kmay hr] at MC
  have MCH := Lib.hid MC
  unfold boxC at hw0
  have H0 := Lib.hid h0; have H2 := Lib.hid h2; have B0 := Lib.hid b0; have W0 := Lib.hid hw0
  have U2 := Lib.hid ((upd_lock (db := db) (Below.refl w0.heap.size w0) (.int .i32 1)).alloc (.cells #[.string ⟨nm.toArray⟩] 9))
  have Q0 := Lib.hid q0; have Q1 := Lib.hid q1; have Q2 := Lib.hid q2
  have NM := Lib.hid (show nm.length ≤ maxLen by unfold maxLen; omega)
  have HNM := Lib.hid hnm; have HWR := Lib.hid hw; have RP := Lib.hid hr; have OK := Lib.hid hok; have HF := Lib.hid hF
  have FOOT := Lib.hid (fun i (hi : DkF db mb L i) => show i < w.heap.size from by
    rcases hi with rfl | hi
    · exact hlt
    · exact (h.fls.lt i hi).2)
  have U0 := Lib.hid (Upd.mono (S' := fun i => i = db) (Upd.ofBelow b0) (fun _ s _ => s.elim))
  clear hnm MC h0 h1 h2 b0 s0 hw0 h z0 hw hr hok hF
  unfold DkR
  obtain ⟨⟨ec, s'⟩, hcut⟩ : ∃ q, s.cut nm n = q := ⟨_, rfl⟩
  rw [hcut]
  have HC := Lib.hid hcut
  clear hcut
  by_cases e : s.may true [nm] = 0
  · -- it is not refused for its name
    have CE : Hid ((ec, s') = if n < 0 ∨ (bytC s.C nm).length < n then (95, s) else s.whole fun t => t.put nm ((bytC s.C nm).take n.toNat)) := by
      show _ = _; rw [← HC.out]; unfold DS.cut; rw [if_neg (by omega)]
    have HAS := Lib.hid ((s.may_cases _ _ e).2.2 rfl)
    have NOK := Lib.hid ((s.may_cases _ _ e).2.1)
    rw [e] at MCH
    clear e
    go_enter_defers Tryz.func51, Tryz.ntmps51
    go_wp2_with fail
    rw [W0.out]
    refine (lock_free muLib ⟨db, 0, none⟩ _ (H0.out.cell 0) (H0.out.froz 0)).mono ?_
    rintro r w1 ⟨rfl, rfl⟩
    go_wp2_with fail
    refine MCH.out.mono ?_
    rintro r w3 ⟨rfl, hb3⟩
    have H3 := Lib.hid (H2.out.below hb3)
    have U3 := Lib.hid (U2.out.same ((Upd.ofBelow hb3).mono (fun _ s _ => s.elim)))
    clear hb3 q0 q1 q2
    have q0 := U3.out.cell' Q0.out (fun s => n0 s.symm)
    have q1 := U3.out.cell' Q1.out (fun s => n1 s.symm)
    have q2 := U3.out.cell' Q2.out (fun s => n2 s.symm)
    have c4 : w3.cell? ⟨db, 4, none⟩ = some (.map (some mb)) := H3.out.cell 4
    obtain ⟨va, vc, hvx, hvc, -, -, -⟩ := H3.out.fls.val_shape nm
    have LK := fun (w' : World) (hb : Below w3.heap.size w3 w') => (H3.out.below hb).fls.look nm NM.out
    obtain ⟨vl, hvl⟩ : ∃ v, (bytF L nm).length = v := ⟨_, rfl⟩
    have HVX := Lib.hid hvx
    rw [hvl] at hvx hvc
    rw [hvx] at LK
    have HVL := Lib.hid hvl
    have k1 := LK w3.drew (bel_drewN (Below.refl _ _) 1)
    have k2 := LK (w3.alloc (.cells #[.slice none 0 0] 74)).drew (bel_drewN ((Below.refl _ _).alloc (Nat.le_refl _) _) 1)
    clear LK hvx hvl
    have r2 : w.heap.size + 1 + 1 < w3.heap.size := World.block_lt_of_cell? _ _ q2
    have r0 : w.heap.size < w3.heap.size := by omega
    have r1 : w.heap.size + 1 < w3.heap.size := by omega
    have r3 : db < w3.heap.size := H3.out.lt
    go_upto_region 6 with (fail)
    go_cut [8] from 23 (fun v8 wx => Got1 w3 wx va vl vc v8)
    case first =>
      go_region_held3 (fun w' => w'.cell? ⟨w.heap.size, 0, none⟩ = some (.pointer (some ⟨db, 0, none⟩)) ∧ w'.cell? ⟨w.heap.size + 1, 0, none⟩ = some (.string ⟨nm.toArray⟩) ∧ w'.cell? ⟨db, 4, none⟩ = some (.map (some mb)))
        (first
          | go_keep)
        (fail)
      all_goals
        go_wp2_with fail
        go_meet
        case rel => exact got1_a ..
    case rest =>
      obtain ⟨w6, rfl⟩ : ∃ q, q = wc := ⟨_, rfl⟩
      obtain ⟨wa, rfl, p1, p3, p5⟩ := hcut
      clear k1 k2
      have x0 := (p5.cell (p := ⟨w.heap.size, 0, none⟩) r0).trans q0
      have x1 := (p5.cell (p := ⟨w.heap.size + 1, 0, none⟩) r1).trans q1
      have x2 := (p5.cell (p := ⟨w.heap.size + 1 + 1, 0, none⟩) r2).trans q2
      have H6 := Lib.hid (H3.out.below p5)
      have U6 := Lib.hid (upd_to U0.out U3.out p5 rfl)
      have RA : w.heap.size < wa := by omega
      clear p5 c4 q0 q1 q2 r1 r2 r3 p3 H3 U3 H0 H2 MCH U2 U0
      by_cases cn : n < 0
      · have CE2 : Hid ((ec, s') = (95, s)) := CE.out.trans (if_pos (.inl cn))
        have t1 : decide (n < 0) = true := decide_eq_true cn
        go_wp2
        refine leaves_cons (f := 55) (args := #[.pointer (some ⟨db, 0, none⟩)]) (by simp) (by simp [go_sem]) ?_
        refine (unlock_deferred muLib ⟨db, 0, none⟩ .returning _ (H6.out.cell 0) (H6.out.froz 0)).mono ?_
        rintro r u' w9 ⟨rfl, rfl, rfl⟩
        refine ⟨_, results_tmp rfl _ _ _, by rw [(Prod.mk.inj CE2.out).1]; rfl, by rw [(Prod.mk.inj CE2.out).2]; exact DkTo.same (s := s) HF.out (H6.out.lock 0) RP.out OK.out (U6.out.setCell (p := ⟨db, 0, none⟩) (fun _ => rfl) _)⟩
      · have t1 : decide (n < 0) = false := decide_eq_false cn
        have hbl : bytF L nm = bytC s.C nm := RP.out.byt nm
        by_cases cm : (vl : Int) < n
        · have CE2 : Hid ((ec, s') = (95, s)) := CE.out.trans (if_pos (.inr (by rw [← hbl, HVL.out]; exact cm)))
          have t2 : decide ((vl : Int) < n) = true := decide_eq_true cm
          clear hbl
          go_wp2
          refine leaves_cons (f := 55) (args := #[.pointer (some ⟨db, 0, none⟩)]) (by simp) (by simp [go_sem]) ?_
          refine (unlock_deferred muLib ⟨db, 0, none⟩ .returning _ (H6.out.cell 0) (H6.out.froz 0)).mono ?_
          rintro r u' w9 ⟨rfl, rfl, rfl⟩
          refine ⟨_, results_tmp rfl _ _ _, by rw [(Prod.mk.inj CE2.out).1]; rfl, by rw [(Prod.mk.inj CE2.out).2]; exact DkTo.same (s := s) HF.out (H6.out.lock 0) RP.out OK.out (U6.out.setCell (p := ⟨db, 0, none⟩) (fun _ => rfl) _)⟩
        · have t2 : decide ((vl : Int) < n) = false := decide_eq_false cm
          obtain ⟨nn, rfl⟩ : ∃ k : Nat, n = k := ⟨n.toNat, by omega⟩
          have CE2 : Hid ((ec, s') = s.whole fun t => t.put nm ((bytC s.C nm).take nn)) := CE.out.trans (if_neg (by
            rintro (h | h)
            · exact cn h
            · rw [← hbl, HVL.out] at h; exact cm h))
          have hmf : ∀ (fn : Fn) (first cap : Array Value) (w : World), (Instr.makeFunc fn first cap).run Tryz.prog w = .ok (.func fn first cap) w := fun _ _ _ _ => rfl
          have foot : ∀ i, w.heap.size ≤ i → ¬ DkF db mb L i := fun i hi s => by have := FOOT.out i s; omega
          have up6 : ∀ w1, Upd (fun i => i = db) w6 w1 → ∀ (p : Nat) (y : Value), w6.cell? ⟨p, 0, none⟩ = some y → w.heap.size ≤ p → w1.cell? ⟨p, 0, none⟩ = some y := fun w1 g2 p y hy hp => g2.cell' hy (fun s => foot p hp (.inl s))
          have hle : nn ≤ (bytF L nm).length := by rw [HVL.out]; omega
          have hB := OK.out.byt nm
          have hS := OK.out.sum; have hR := OK.out.r2
          have hbl2 : (bytF L nm).length ≤ 268435456 := by rw [hbl]; exact hB
          have WC := whole_calls base db mb s.k 1 L D 107 #[.pointer (some ⟨w.heap.size, 0, none⟩), .pointer (some ⟨wa, 0, none⟩), .pointer (some ⟨w.heap.size + 1 + 1, 0, none⟩), .pointer (some ⟨w.heap.size + 1, 0, none⟩)]
            (fun w1 w' => ∃ a c, WF w1 w' base db mb 1 { wrK s.k with used := (wrK s.k).used - (((bytF L nm).length : Int) - nn) } L (putF L ⟨nm, (bytF L nm).take nn, a, c⟩)) w6 H6.out ⟨by have := HWR.out; show (s.writes : Int) ≤ _; omega, by show _ ≤ (s.writes : Int); omega⟩ ⟨OK.out.a2, by have := OK.out.a1; show _ ≤ s.armed; omega⟩ (fun xs w' => Tryz.call107 xs w')
            (fun w1 g1 g2 => cutC_calls base db mb 1 (wrK s.k) L D nm nn w.heap.size wa (w.heap.size + 1 + 1) (w.heap.size + 1) w1 g1 hle hbl2 (up6 w1 g2 _ _ x0 (by omega)) (by rw [HVX.out, HVL.out]; exact up6 w1 g2 _ _ p1 (by omega)) (up6 w1 g2 _ _ x2 (by omega)) (up6 w1 g2 _ _ x1 (by omega))
              (foot _ (by omega)) (foot _ (by omega)) (foot _ (by omega)) (foot _ (by omega)) HNM.out (by rw [RP.out.len]; have := OK.out.len; omega) ⟨by show (0 : Int) ≤ (sumC s.C : Int); omega, by show (sumC s.C : Int) ≤ 268435456; omega⟩)
          have WCH := Lib.hid WC
          clear WC hbl hle hB hS hR hbl2 foot up6
          go_wp2_with fail
          refine WCH.out.mono ?_
          rintro r w9 hr
          have WT := whole_to (f := fun t => t.put nm ((bytC s.C nm).take nn)) RP.out OK.out hr (fun w1 w' => by
            rintro ⟨a, c, hwf⟩
            have hbl : bytF L nm = bytC s.C nm := RP.out.byt nm
            have hle : nn ≤ (bytC s.C nm).length := by rw [← hbl, HVL.out]; omega
            refine ⟨_, ?_, RP.out.put ⟨nm, (bytC s.C nm).take nn, a, c⟩⟩
            rw [kwr, hbl] at hwf
            rw [← hbl]
            rw [k_putI OK.out.so nm ((bytC s.C nm).take nn) _ (by show (sumC s.C : Int) - _ = _; rw [List.length_take]; omega)] at hwf
            rw [hbl]
            exact hwf) (OK.out.wr.put nm _ (by have := NOK.out; simpa using this) (.inl HAS.out) (by
              rw [List.length_take]
              show sumC s.C + _ ≤ s.room + (bytC s.C nm).length
              have := OK.out.sum
              omega))
          obtain ⟨g1, g2⟩ := WT
          rw [← CE2.out] at g1 g2
          have FIN := Lib.hid (g2.done U6.out HF.out)
          subst g1
          obtain ⟨L', D', G1, -⟩ := g2
          have GW := Lib.hid G1
          clear G1 hr
          go_wp2
          refine leaves_cons (f := 55) (args := #[.pointer (some ⟨db, 0, none⟩)]) (by simp) (by simp [go_sem]) ?_
          refine (unlock_deferred muLib ⟨db, 0, none⟩ .returning _ (GW.out.cell 0) (GW.out.froz 0)).mono ?_
          rintro r u' w9 ⟨rfl, rfl, rfl⟩
          exact ⟨_, results_tmp rfl _ _ _, rfl, FIN.out⟩
  · have CE : Hid ((ec, s') = (s.may true [nm], s)) := by show _ = _; rw [← HC.out]; unfold DS.cut; rw [if_pos e]
    have te : (s.may true [nm] != 0) = true := by rw [bne_iff_ne]; exact e
    rw [← (Prod.mk.inj CE.out).1] at te MCH
    clear e
    go_enter_defers Tryz.func51, Tryz.ntmps51
    go_wp2_with fail
    rw [W0.out]
    refine (lock_free muLib ⟨db, 0, none⟩ _ (H0.out.cell 0) (H0.out.froz 0)).mono ?_
    rintro r w1 ⟨rfl, rfl⟩
    go_wp2_with fail
    refine MCH.out.mono ?_
    rintro r w3 ⟨rfl, hb3⟩
    have H3 := Lib.hid (H2.out.below hb3)
    have U3 := Lib.hid ((U0.out.same U2.out).same ((Upd.ofBelow hb3).mono (fun _ s _ => s.elim)))
    clear hb3
    go_wp2
    refine leaves_cons (f := 55) (args := #[.pointer (some ⟨db, 0, none⟩)]) (by simp) (by simp [go_sem]) ?_
    refine (unlock_deferred muLib ⟨db, 0, none⟩ .returning _ (H3.out.cell 0) (H3.out.froz 0)).mono ?_
    rintro r u' w4 ⟨rfl, rfl, rfl⟩
    exact ⟨_, results_tmp rfl _ _ _, rfl, by rw [(Prod.mk.inj CE.out).2]; exact DkTo.same (s := s) HF.out (H3.out.lock 0) RP.out OK.out (U3.out.setCell (p := ⟨db, 0, none⟩) (fun _ => rfl) _)⟩
end Go.Proofs.YtnbpkignkfabkaaGreatDoor
