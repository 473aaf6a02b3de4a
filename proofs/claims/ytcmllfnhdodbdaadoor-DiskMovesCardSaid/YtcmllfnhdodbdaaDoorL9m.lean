/- posternlaw9.moved: true of what a write that is OK makes. -/
import Derived.Test.YtcmllfnhdodbdaaDoorL9b
namespace Go.Proofs.YtcmllfnhdodbdaaDoor
set_option linter.unusedVariables false
set_option linter.unusedSimpArgs false
open Go.RowKit Go.Maps
set_option maxRecDepth 100000 in
set_option maxHeartbeats 8000000 in
theorem moved9_calls (was now : Con) (pa pb : Option Addr) (ca cb : Nat) (d on n keep : Int) (nm tn b : List UInt8) (ba fa : Option Addr) (bc fc fn : Nat) (w : World) (hx : Fil w pa was) (hy : Fil w pb now) (hlx : was.length ≤ 140737488355328) (hly : now.length ≤ 140737488355328) (hsx : ∀ p ∈ was, p.2.length ≤ 140737488355328) (hm : MovedP was now d nm tn n) :
    Calls Tryd.prog 24 #[.slice pa was.length ca, .slice pb now.length cb, .agg #[.int .i64 d, .int .i64 on, .string ⟨nm.toArray⟩, .string ⟨tn.toArray⟩, .slice ba b.length bc, .int .i64 n, .int .i64 keep, .slice fa fn fc]] w fun r w' => r = .returned (.bool true) ∧ Below w.heap.size w w' := by
  obtain ⟨w0, hw0⟩ : ∃ q, w.alloc (.cells #[.int .i64 d, .int .i64 on, .string ⟨nm.toArray⟩, .string ⟨tn.toArray⟩, .slice ba b.length bc, .int .i64 n, .int .i64 keep, .slice fa fn fc] 43) = q := ⟨_, rfl⟩
  have b0 : Below w.heap.size w w0 := by rw [← hw0]; exact (Below.refl _ _).alloc (Nat.le_refl _) _
  have blk : w0.heap[w.heap.size]? = some (.cells #[.int .i64 d, .int .i64 on, .string ⟨nm.toArray⟩, .string ⟨tn.toArray⟩, .slice ba b.length bc, .int .i64 n, .int .i64 keep, .slice fa fn fc] 43 (0, 0)) := by rw [← hw0]; exact heap_alloc_new w _
  have q0 : w0.cell? ⟨w.heap.size, 0, none⟩ = some (.int .i64 d) := by rw [cell_of_row' blk]; rfl
  have q2 : w0.cell? ⟨w.heap.size, 2, none⟩ = some (.string ⟨nm.toArray⟩) := by rw [cell_of_row' blk]; rfl
  have q3 : w0.cell? ⟨w.heap.size, 3, none⟩ = some (.string ⟨tn.toArray⟩) := by rw [cell_of_row' blk]; rfl
  have q5 : w0.cell? ⟨w.heap.size, 5, none⟩ = some (.int .i64 n) := by rw [cell_of_row' blk]; rfl
  have X0 := Lib.hid (hx.below b0); have Y0 := Lib.hid (hy.below b0); have W0 := Lib.hid hw0; have B0 := Lib.hid b0; have M0 := Lib.hid hm; have HS := Lib.hid hsx
  have F1 := Lib.hid (file9_calls was pa ca nm w0 X0.out hlx)
  have F2 := Lib.hid (file9_calls now pb cb nm w0 Y0.out hly)
  clear hx hy b0 blk hw0 hm hsx
  by_cases e2 : d = 2
  · subst e2
    obtain ⟨h1, h2, h3, h4, h5, h6⟩ := M0.out.1 rfl
    obtain ⟨L, hL⟩ : ∃ l, bytC was nm = l := ⟨_, rfl⟩
    rw [hL] at h4 h5
    obtain ⟨k, rfl⟩ : ∃ k : Nat, n = k := ⟨n.toNat, by omega⟩
    rw [Int.toNat_natCast] at h5
    obtain ⟨q, hq⟩ : ∃ q, L.take k = q := ⟨_, rfl⟩
    rw [hq] at h5
    obtain rfl : k = q.length := by rw [← hq, List.length_take]; omega
    have QE := Lib.hid hq; have LE := Lib.hid hL; have R1 := Lib.hid h1; have R2 := Lib.hid h2; have R5 := Lib.hid h5
    have OQ := Lib.hid (fun m : Nat => Calls.quiet_of (n := m) (others9_calls was now pa pb ca cb nm (w0.drewN m) (X0.out.below (bel_drewN (Below.refl _ _) m)) (Y0.out.below (bel_drewN (Below.refl _ _) m)) hlx hly h6))
    have t3 : decide ((0 : Int) ≤ (q.length : Int)) = true := decide_eq_true (by omega)
    have t4 : decide ((q.length : Int) ≤ (L.length : Int)) = true := decide_eq_true (by omega)
    have t4' : decide (q.length ≤ L.length) = true := decide_eq_true (by omega)
    clear h1 h2 h3 h5 h6 hq hL
    go_enter Tryd.func24, Tryd.ntmps24
    go_wp2_with fail
    rw [W0.out]
    refine F1.out.mono ?_
    rintro r w5 ⟨fa1, fc1, rfl, fb1, hc1, rfl⟩
    rw [R1.out, LE.out]
    rw [LE.out] at fb1 hc1
    have FB1 := Lib.hid fb1
    clear fb1
    go_wp2_with fail
    refine F2.out.mono ?_
    rintro r w6 ⟨fa2, fc2, rfl, fb2, -, rfl⟩
    rw [R2.out, R5.out]
    rw [R5.out] at fb2
    have x1 : ∀ k, (convert 23 9 (.slice fa2 q.length fc2)).run Tryd.prog (w0.drewN k) = .ok (.string ⟨q.toArray⟩) (w0.drewN k) := fun k => conv_bytes Tryd.underlying23 Tryd.underlying5 Tryd.underlying9 (fb2.drewN k)
    have x2 : ∀ k, (convert 23 9 (.slice fa1 q.length fc1)).run Tryd.prog (w0.drewN k) = .ok (.string ⟨q.toArray⟩) (w0.drewN k) := fun k => conv_bytes Tryd.underlying23 Tryd.underlying5 Tryd.underlying9 ((by rw [← QE.out]; exact FB1.out.take _ : Byt w0 fa1 q).drewN k)
    have t5 : (q == q) = true := beq_self_eq_true q
    have j1 : (q.length : Int) ≤ (fc1 : Int) := by omega
    clear fb2
    go_wp2_with fail
    go_quiet ((go_at_call 46; exact OQ.out _))
    clear x1 x2
    go_wp2
    go_ret
    exact ⟨rfl, bel_drewN B0.out _⟩
  · have t2 : (d == 2) = false := beq_eq_false_iff_ne.2 e2
    by_cases e4 : d = 4
    · subst e4
      obtain ⟨h1, h2, h6⟩ := M0.out.2.1 rfl
      have R1 := Lib.hid h1; have R2 := Lib.hid h2
      have OC := Lib.hid (others9_calls was now pa pb ca cb nm w0 X0.out Y0.out hlx hly h6)
      clear h1 h2 h6
      go_enter Tryd.func24, Tryd.ntmps24
      go_wp2_with fail
      rw [W0.out]
      refine F1.out.mono ?_
      rintro r w5 ⟨fa1, fc1, rfl, -, -, rfl⟩
      rw [R1.out]
      go_wp2_with fail
      refine F2.out.mono ?_
      rintro r w6 ⟨fa2, fc2, rfl, -, -, rfl⟩
      rw [R2.out]
      go_wp2_with fail
      refine OC.out.mono ?_
      rintro r w7 ⟨rfl, m, rfl⟩
      go_wp2
      go_ret
      exact ⟨rfl, bel_drewN B0.out m⟩
    · have t4 : (d == 4) = false := beq_eq_false_iff_ne.2 e4
      by_cases e3 : d = 3
      · subst e3
        obtain ⟨h1, h2, h6⟩ := M0.out.2.2 rfl
        have R1 := Lib.hid h1
        by_cases en : nm = tn
        · have t5 : (nm == tn) = true := beq_iff_eq.2 en
          have e := h2 en
          subst e
          have EC := Lib.hid (EqFiles_same was pa pb ca cb w0 X0.out Y0.out hlx HS.out)
          clear h1 h2 h6 en
          go_enter Tryd.func24, Tryd.ntmps24
          go_wp2_with fail
          rw [W0.out]
          refine F1.out.mono ?_
          rintro r w5 ⟨fa1, fc1, rfl, -, -, rfl⟩
          rw [R1.out]
          go_wp2_with fail
          refine F2.out.mono ?_
          rintro r w6 ⟨fa2, fc2, rfl, -, -, rfl⟩
          rw [R1.out]
          go_wp2_with fail
          refine EC.out.mono ?_
          rintro r w7 ⟨rfl, b7⟩
          have B7 := Lib.hid (B0.out.trans (b7.mono B0.out.size))
          clear b7
          go_wp2
          go_ret
          exact ⟨rfl, B7.out⟩
        · have t5 : (nm == tn) = false := beq_eq_false_iff_ne.2 en
          obtain ⟨g1, g2, g3, g4, g5⟩ := h6 en
          have R2 := Lib.hid g1; have R3 := Lib.hid g2; have R4 := Lib.hid g3; have G4 := Lib.hid g4; have G5 := Lib.hid g5
          have F3 := Lib.hid (file9_calls now pb cb tn w0 Y0.out hly)
          clear h1 h2 h6 g1 g2 g3 g4 g5 en
          go_enter Tryd.func24, Tryd.ntmps24
          go_wp2_with fail
          rw [W0.out]
          refine F1.out.mono ?_
          rintro r w5 ⟨fa1, fc1, rfl, fb1, -, rfl⟩
          rw [R1.out]
          go_wp2_with fail
          refine F2.out.mono ?_
          rintro r w6 ⟨fa2, fc2, rfl, -, -, rfl⟩
          rw [R2.out]
          go_wp2_with fail
          refine F3.out.mono ?_
          rintro r w7 ⟨fa3, fc3, rfl, fb3, -, rfl⟩
          rw [R3.out, R4.out]
          rw [R4.out] at fb3
          have x1 : (convert 23 9 (.slice fa3 (bytC was nm).length fc3)).run Tryd.prog w0 = .ok (.string ⟨(bytC was nm).toArray⟩) w0 := conv_bytes Tryd.underlying23 Tryd.underlying5 Tryd.underlying9 fb3
          have x2 : (convert 23 9 (.slice fa1 (bytC was nm).length fc1)).run Tryd.prog w0 = .ok (.string ⟨(bytC was nm).toArray⟩) w0 := conv_bytes Tryd.underlying23 Tryd.underlying5 Tryd.underlying9 fb1
          obtain ⟨L, hL⟩ : ∃ l, bytC was nm = l := ⟨_, rfl⟩
          rw [hL] at x1 x2 ⊢
          have t6 : (L != L) = false := by simp
          clear fb1 fb3 hL
          go_wp2
          clear x1 x2
          go_loopw [13, 14, 15] (fun vi _ _ wr => ∃ i : Nat, vi = .int .i64 i ∧ i ≤ was.length ∧ ∃ k, wr = w0.drewN k) (fun vi _ _ _ => was.length - (intOf vi).toNat)
          case atStart => exact ⟨0, rfl, Nat.zero_le _, 0, rfl⟩
          case round =>
            obtain ⟨i, rfl, hi, kq, hkq⟩ := hrel
            have X1 := Lib.hid (show Fil wr _ _ by rw [hkq]; exact X0.out.below (bel_drewN (Below.refl _ _) kq))
            have Y1 := Lib.hid (show Fil wr _ _ by rw [hkq]; exact Y0.out.below (bel_drewN (Below.refl _ _) kq))
            have y2 : wr.cell? ⟨w.heap.size, 2, none⟩ = some (.string ⟨nm.toArray⟩) := by rw [hkq]; exact q2
            have y3 : wr.cell? ⟨w.heap.size, 3, none⟩ = some (.string ⟨tn.toArray⟩) := by rw [hkq]; exact q3
            have KQ := Lib.hid hkq
            clear hkq
            by_cases c1 : i < was.length
            · have s1 : decide ((i : Int) < (was.length : Int)) = true := decide_eq_true (by omega)
              have s1' : decide (i < was.length) = true := decide_eq_true c1
              obtain ⟨b1, o1, p1, k1, rfl, h1, h2, h3, h4⟩ := X1.out i c1
              obtain ⟨q, hq⟩ : ∃ q, was[i].1 = q := ⟨_, rfl⟩
              obtain ⟨t, ht⟩ : ∃ q, was[i].2 = q := ⟨_, rfl⟩
              have OO : Hid (q ≠ nm → q ≠ tn → hasC now q = true ∧ bytC now q = t) := by
                intro hne hne2
                have h9 := G4.out was[i] (List.getElem_mem c1)
                rw [hq, ht] at h9
                exact h9 hne hne2
              rw [hq] at h1
              rw [ht] at h2 h4
              have H4 := Lib.hid h4
              have i2 : (i : Int) < (was.length : Int) := by omega
              have FC := Lib.hid (file9_calls now pb cb q wr Y1.out hly)
              clear hq ht h3 h4
              go_wp2_with fail
              refine FC.out.mono ?_
              rintro r w8 ⟨fa4, fc4, rfl, fb4, -, rfl⟩
              have FB := Lib.hid fb4
              clear fb4 FC
              by_cases c2 : q = nm
              · subst c2
                have s2 : (q != q) = false := by simp
                go_wp2_with fail
                go_quiet (fail)
                go_wp2
                go_roundw
                case rel => exact ⟨i + 1, by go_num, by omega, _, by rw [KQ.out]; exact World.drewN_drewN _ _ _⟩
                case measure => simp [intOf]; omega
              · have s2 : (q != nm) = true := bne_iff_ne.2 c2
                by_cases c3 : q = tn
                · have c2' : ¬ tn = nm := fun h => c2 (c3.trans h)
                  have n1 : (tn == nm) = false := beq_eq_false_iff_ne.2 c2'
                  clear c2 s2 t5
                  go_wp2_with fail
                  go_quiet (fail)
                  go_wp2
                  go_roundw
                  case rel => exact ⟨i + 1, by go_num, by omega, _, by rw [KQ.out]; exact World.drewN_drewN _ _ _⟩
                  case measure => simp [intOf]; omega
                · have s3 : (q != tn) = true := bne_iff_ne.2 c3
                  obtain ⟨e1, e2'⟩ := OO.out c2 c3
                  have fb := FB.out
                  rw [e2'] at fb
                  have x1 : ∀ k, (convert 23 9 (.slice fa4 t.length fc4)).run Tryd.prog (wr.drewN k) = .ok (.string ⟨t.toArray⟩) (wr.drewN k) := fun k => conv_bytes Tryd.underlying23 Tryd.underlying5 Tryd.underlying9 (fb.drewN k)
                  have x2 : ∀ k, (convert 23 9 (.slice p1 t.length k1)).run Tryd.prog (wr.drewN k) = .ok (.string ⟨t.toArray⟩) (wr.drewN k) := fun k => conv_bytes Tryd.underlying23 Tryd.underlying5 Tryd.underlying9 (H4.out.drewN k)
                  have s4 : (t != t) = false := by simp
                  rw [e1, e2']
                  clear fb e1 e2'
                  go_wp2_with fail
                  go_quiet (fail)
                  clear x1 x2
                  go_wp2
                  go_roundw
                  case rel => exact ⟨i + 1, by go_num, by omega, _, by rw [KQ.out]; exact World.drewN_drewN _ _ _⟩
                  case measure => simp [intOf]; omega
            · have s1 : decide ((i : Int) < (was.length : Int)) = false := decide_eq_false (by omega)
              have s1' : decide (i < was.length) = false := decide_eq_false c1
              have F4 := Lib.hid (file9_calls was pa ca tn wr X1.out hlx)
              have BE := Lib.hid (show Below w.heap.size w wr by rw [KQ.out]; exact bel_drewN B0.out kq)
              clear X1 Y1
              go_wp2_with fail
              refine F4.out.mono ?_
              rintro r w8 ⟨fa4, fc4, rfl, -, -, rfl⟩
              rcases G5.out with ⟨g1, g2⟩ | ⟨g1, g2⟩
              · have s5 : ((now.length : Int) == (was.length : Int) - 1) = true := beq_iff_eq.2 (by omega)
                rw [g1]
                clear g1
                go_wp2
                go_ret
                exact ⟨by first | rfl | simp, BE.out⟩
              · have s5 : ((now.length : Int) == (was.length : Int)) = true := beq_iff_eq.2 (by omega)
                have s5' : (now.length == was.length) = true := beq_iff_eq.2 g2
                rw [g1]
                clear g1 g2
                go_wp2
                go_ret
                exact ⟨by first | rfl | simp, BE.out⟩
      · have t3 : (d == 3) = false := beq_eq_false_iff_ne.2 e3
        go_enter Tryd.func24, Tryd.ntmps24
        go_wp2_with fail
        rw [W0.out]
        refine F1.out.mono ?_
        rintro r w5 ⟨fa1, fc1, rfl, -, -, rfl⟩
        go_wp2_with fail
        refine F2.out.mono ?_
        rintro r w6 ⟨fa2, fc2, rfl, -, -, rfl⟩
        go_wp2
        go_ret
        exact ⟨rfl, B0.out⟩
end Go.Proofs.YtcmllfnhdodbdaaDoor
