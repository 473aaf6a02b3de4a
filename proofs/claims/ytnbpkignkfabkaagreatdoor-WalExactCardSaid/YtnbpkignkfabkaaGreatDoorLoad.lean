/- disk.Load. -/
import Derived.Test.YtnbpkignkfabkaaGreatDoorLoadP
import Derived.IntWalk
import Derived.StillTailTactics
namespace Go.Proofs.YtnbpkignkfabkaaGreatDoor
set_option linter.unusedVariables false
set_option linter.unusedSimpArgs false
open Go.RowKit Go.Maps
theorem bel_undr {w w' : World} (h : Below w.drew.heap.size w.drew w') : Below w.heap.size w w' := ⟨h.os, h.tape, h.output, h.size, h.block⟩
set_option maxRecDepth 100000 in
set_option maxHeartbeats 4000000 in
theorem Load_calls (room : Int) (l : Con) (a : Option Addr) (cap : Nat) (w : World) (h : Fil w a l) (hl : ∀ p ∈ l, p.1.length ≤ 140737488351232 ∧ p.2.length ≤ 140737488355328) (hn : l.length ≤ 140737488355328) :
    Calls Tryz.prog 14 #[.slice a l.length cap, .int .i64 room] w fun r w' => LoadP w w' room l r := by
  have H := Lib.hid h; have HL := Lib.hid hl
  clear h hl
  by_cases c1 : room < 1
  · have e : loadR room l = (90, none) := if_pos (.inl c1)
    have FI := Lib.hid (fun r w' (h1 : r = .returned (.tuple #[.pointer none, .int .i64 90])) (h2 : Below w.heap.size w w') => show LoadP w w' room l r by unfold LoadP; rw [e]; exact ⟨h1, h2⟩)
    have t1 : decide (room < 1) = true := decide_eq_true c1
    clear e
    go_enter Tryz.func14, Tryz.ntmps14
    go_wp2
    go_ret2
    exact FI.out _ _ rfl (Below.refl _ _)
  have t1 : decide (room < 1) = false := decide_eq_false c1
  by_cases c2 : 268435456 < room
  · have e : loadR room l = (90, none) := if_pos (.inr c2)
    have FI := Lib.hid (fun r w' (h1 : r = .returned (.tuple #[.pointer none, .int .i64 90])) (h2 : Below w.heap.size w w') => show LoadP w w' room l r by unfold LoadP; rw [e]; exact ⟨h1, h2⟩)
    have t2 : decide (268435456 < room) = true := decide_eq_true c2
    clear e
    go_enter Tryz.func14, Tryz.ntmps14
    go_wp2
    go_ret2
    exact FI.out _ _ rfl (Below.refl _ _)
  have t2 : decide (268435456 < room) = false := decide_eq_false c2
  by_cases c3 : 64 < l.length
  · have e : loadR room l = (96, none) := by unfold loadR; rw [if_neg (by omega), if_pos c3]
    have FI := Lib.hid (fun r w' (h1 : r = .returned (.tuple #[.pointer none, .int .i64 96])) (h2 : Below w.heap.size w w') => show LoadP w w' room l r by unfold LoadP; rw [e]; exact ⟨h1, h2⟩)
    have t3 : decide (64 < l.length) = true := decide_eq_true c3
    have t3' : decide ((64 : Int) < (l.length : Int)) = true := decide_eq_true (by omega)
    clear e
    go_enter Tryz.func14, Tryz.ntmps14
    go_wp2
    go_ret2
    exact FI.out _ _ rfl (Below.refl _ _)
  have t3 : decide (64 < l.length) = false := decide_eq_false c3
  have t3' : decide ((64 : Int) < (l.length : Int)) = false := decide_eq_false (by omega)
  obtain ⟨rm, rfl⟩ : ∃ k : Nat, room = k := ⟨room.toNat, by omega⟩
  have LR : Hid (loadR rm l = match ldC rm l [] with | none => (96, none) | some C => (0, some { DS.new rm with C := C })) := by
    show _ = _; unfold loadR; rw [if_neg (by omega), if_neg (by omega)]; rfl
  have hmm := @run_makeMap Tryz.prog
  have blk := heap_alloc_new (w.alloc (.map #[] 0)) (.cells (dcells 0 (dk0 rm) w.heap.size) 114)
  rw [World.size_alloc] at blk
  have NS : Hid (LdS w ((w.alloc (.map #[] 0)).alloc (.cells (dcells 0 (dk0 rm) w.heap.size) 114)) rm []) :=
    ⟨[], _, ⟨blk, Nat.le_succ _, (Fls.made w w.heap.size (Nat.le_refl _)).upd ((Upd.refl (fun _ => False) _).alloc _) (fun _ s => s.elim)⟩, Rep.nil, ((Below.refl _ w).alloc (Nat.le_refl _) _).alloc (by simp) _⟩
  clear blk
  go_enter Tryz.func14, Tryz.ntmps14
  go_wp2
  go_loopw [26] (fun vi wr => ∃ (i : Nat) (C : Con), vi = .int .i64 i ∧ i ≤ l.length ∧ C.length = i ∧ ldC rm l [] = ldC rm (l.drop i) C ∧ (SortedC C ∧ (∀ p ∈ C, nmOk p.1 = true) ∧ sumC C ≤ rm) ∧ LdS w wr rm C) (fun vi _ => l.length - (intOf vi).toNat)
  case atStart => exact ⟨0, [], rfl, Nat.zero_le _, rfl, rfl, ⟨List.Pairwise.nil, (fun _ h => by cases h), Nat.zero_le _⟩, NS.out⟩
  case round =>
    obtain ⟨i, C, rfl, hi, hci, hld, ⟨hso, hnm, hsum⟩, L, D, hd, hr, hb⟩ := hrel
    have HD := Lib.hid hd; have HR := Lib.hid hr; have HB := Lib.hid hb; have HCI := Lib.hid hci; have HLD := Lib.hid hld; have HSO := Lib.hid hso; have HNM := Lib.hid hnm
    clear hd hr hb hci hld hso hnm
    by_cases lt : i < l.length
    · have t4 : decide ((i : Int) < (l.length : Int)) = true := decide_eq_true (by omega)
      have t4' : decide (i < l.length) = true := decide_eq_true lt
      obtain ⟨b, o, ba, bc, rfl, f1, f2, f3, f4⟩ := (H.out.below HB.out) i lt
      have HLI := Lib.hid (HL.out l[i] (List.getElem_mem lt))
      have DR : Hid (l.drop i = l[i] :: l.drop (i + 1)) := List.drop_eq_getElem_cons lt
      obtain ⟨⟨nm, by_⟩, hp⟩ : ∃ p, l[i] = p := ⟨_, rfl⟩
      rw [hp] at f1 f2 f3 f4 HLI DR
      have LDN : Hid (ldC rm l [] = if hasC C nm = true ∨ nmOk nm = false ∨ rm < sumC C + by_.length then none else ldC rm (l.drop (i + 1)) (setC C nm by_)) := by
        show _ = _; rw [HLD.out, DR.out]; rfl
      have HP := Lib.hid hp
      have Y4 := Lib.hid f4
      have e1 : ([nm] : List (List UInt8)).length = 1 := rfl
      clear hp f4 e1
      obtain ⟨w1, hw1⟩ : ∃ q, wr.alloc (.cells #[.string ⟨nm.toArray⟩, .slice ba by_.length bc] 116) = q := ⟨_, rfl⟩
      have B1 : Below wr.heap.size wr w1 := by rw [← hw1]; exact (Below.refl _ _).alloc (Nat.le_refl _) _
      have blk1 : w1.heap[wr.heap.size]? = some (.cells #[.string ⟨nm.toArray⟩, .slice ba by_.length bc] 116 (0, 0)) := by rw [← hw1]; exact heap_alloc_new wr _
      have g0 : w1.cell? ⟨wr.heap.size, 0, none⟩ = some (.string ⟨nm.toArray⟩) := by rw [cell_of_row' blk1]; rfl
      have g1 : w1.cell? ⟨wr.heap.size, 1, none⟩ = some (.slice ba by_.length bc) := by rw [cell_of_row' blk1]; rfl
      have D1 := Lib.hid (HD.out.below B1)
      have W1 := Lib.hid hw1
      have Z1 : wr.heap.size < w1.heap.size := lt_of_block blk1
      have Z0 : w.heap.size + 1 < wr.heap.size := HD.out.lt
      have c2 : w1.cell? ⟨w.heap.size + 1, 2, none⟩ = some (.int .i64 (rm : Int)) := D1.out.cell 2
      have c3 : w1.cell? ⟨w.heap.size + 1, 3, none⟩ = some (.int .i64 (sumC C : Int)) := D1.out.cell 3
      have c4 : w1.cell? ⟨w.heap.size + 1, 4, none⟩ = some (.map (some w.heap.size)) := D1.out.cell 4
      have BB1 := Lib.hid (HB.out.trans (B1.mono HB.out.size))
      have BW1 := Lib.hid B1
      have LK := fun nq => (D1.out.drewN nq).fls.look_ok nm (show nm.length ≤ maxLen by have h9 : nm.length ≤ 140737488351232 := HLI.out.1; unfold maxLen; omega)
      obtain ⟨va, vc, hvx, -, -, -, -⟩ := D1.out.fls.val_shape nm
      rw [hvx] at LK
      obtain ⟨hx, hhx⟩ : ∃ v, hasF L nm = v := ⟨_, rfl⟩
      rw [hhx] at LK
      have HX : Hid (hasC C nm = hx) := by show _ = _; rw [← HR.out.has]; exact hhx
      clear hw1 blk1 hvx hhx B1
      go_wp2_with fail
      rw [W1.out]
      go_quiet (fail)
      clear LK
      go_wp2_with fail
      obtain ⟨w2, hw2⟩ : ∃ q, w1.drewN nq = q := ⟨_, rfl⟩
      have b0 : w2.cell? ⟨wr.heap.size, 0, none⟩ = some (.string ⟨nm.toArray⟩) := by rw [← hw2]; exact g0
      have b1 : w2.cell? ⟨wr.heap.size, 1, none⟩ = some (.slice ba by_.length bc) := by rw [← hw2]; exact g1
      have b2 : w2.cell? ⟨w.heap.size + 1, 2, none⟩ = some (.int .i64 (rm : Int)) := by rw [← hw2]; exact c2
      have b3 : w2.cell? ⟨w.heap.size + 1, 3, none⟩ = some (.int .i64 (sumC C : Int)) := by rw [← hw2]; exact c3
      have b4 : w2.cell? ⟨w.heap.size + 1, 4, none⟩ = some (.map (some w.heap.size)) := by rw [← hw2]; exact c4
      have D2 := Lib.hid (show Dsk w2 w.heap.size (w.heap.size + 1) w.heap.size 0 { dk0 (rm : Int) with used := (sumC C : Int) } L D from by rw [← hw2]; exact D1.out.drewN _)
      have BB2 := Lib.hid (show Below w.heap.size w w2 from by rw [← hw2]; exact bel_drewN BB1.out _)
      have Z2 : wr.heap.size < w2.heap.size := by rw [← hw2]; exact Z1
      have Z3 : w.heap.size + 1 < w2.heap.size := by omega
      have Y2 := Lib.hid (show Byt w2 ba by_ from by rw [← hw2]; exact (Y4.out.below BW1.out).below (bel_drewN (Below.refl _ _) _))
      rw [hw2]
      have FI := Lib.hid (fun (hno : ldC rm l [] = none) r w' (h1 : r = .returned (.tuple #[.pointer none, .int .i64 96])) (h2 : Below w.heap.size w w') => show LoadP w w' rm l r by
        have e := LR.out
        rw [hno] at e
        unfold LoadP
        rw [e]
        exact ⟨h1, h2⟩)
      clear hw2 g0 g1 c2 c3 c4 Z1
      cases hx with
      | true =>
        have NO : Hid (ldC rm l [] = none) := LDN.out.trans (if_pos (.inl HX.out))
        go_quiet (fail)
        go_wp2
        go_ret2
        exact FI.out NO.out _ _ rfl (bel_drewN BB2.out _)
      | false =>
        have NC := fun W => named_calls nm W (by have h9 : nm.length ≤ 140737488351232 := HLI.out.1; omega)
        cases hok : nmOk nm with
        | false =>
          rw [hok] at NC
          have NO : Hid (ldC rm l [] = none) := LDN.out.trans (if_pos (.inr (.inl hok)))
          clear hok
          -- BEGIN r10no
          refine wp_region_held_drew (S := (fun w' => w'.cell? ⟨wr.heap.size, 0, none⟩ = some (.string ⟨nm.toArray⟩) ∧ w'.cell? ⟨wr.heap.size, 1, none⟩ = some (.slice ba by_.length bc) ∧ w'.cell? ⟨w.heap.size + 1, 2, none⟩ = some (.int .i64 (rm : Int)) ∧ w'.cell? ⟨w.heap.size + 1, 3, none⟩ = some (.int .i64 (sumC C : Int)))) (by kernel_rfl) (⟨b0, b1, b2, b3⟩) ?_
          intro hSn
          refine wpAnyH_taken (a' := ?aa0_n) (i := 0) (oi := ⟨some 40, _, _, _, _, _⟩) (v := ?vv0_n) rfl (by kernel_rfl) (by kernel_rfl) (by kernel_rfl) (fun _ _ _ h => h) (Or.inl ⟨by rfl, ?hy0_n⟩) hSn ?ha0_n ?rs0_n
          case hy0_n => first | (intro W hS; clear hS; go_simp; done) | (intro W hS; clear hS; go_simp; with_reducible rfl) | (intro W hS; obtain ⟨hs0, hs1, hs2, hs3⟩ := hS; go_simp; done) | (intro W hS; obtain ⟨hs0, hs1, hs2, hs3⟩ := hS; go_simp; with_reducible rfl)
          case ha0_n => go_simp; with_reducible rfl
          refine wpAnyH_taken (a' := ?aa1_n) (i := 1) (oi := ⟨some 41, _, _, _, _, _⟩) (v := ?vv1_n) rfl (by kernel_rfl) (by kernel_rfl) (by kernel_rfl) (fun _ _ _ h => h) (Or.inl ⟨by rfl, ?hy1_n⟩) hSn ?ha1_n ?rs1_n
          case hy1_n => first | (intro W hS; clear hS; go_simp; done) | (intro W hS; clear hS; go_simp; with_reducible rfl) | (intro W hS; obtain ⟨hs0, hs1, hs2, hs3⟩ := hS; go_simp; done) | (intro W hS; obtain ⟨hs0, hs1, hs2, hs3⟩ := hS; go_simp; with_reducible rfl)
          case ha1_n => go_simp; with_reducible rfl
          refine wpAnyH_taken (a' := ?aa2_n) (i := 2) (oi := ⟨some 42, _, _, _, _, _⟩) (v := ?vv2_n) rfl (by kernel_rfl) (by kernel_rfl) (by kernel_rfl) (fun _ _ _ h => h) (Or.inl ⟨by rfl, ?hy2_n⟩) hSn ?ha2_n ?rs2_n
          case hy2_n => first | (intro W hS; clear hS; go_simp; done) | (intro W hS; clear hS; go_simp; with_reducible rfl) | (intro W hS; obtain ⟨hs0, hs1, hs2, hs3⟩ := hS; go_simp; done) | (intro W hS; obtain ⟨hs0, hs1, hs2, hs3⟩ := hS; go_simp; with_reducible rfl)
          case ha2_n => go_simp; with_reducible rfl
          refine wpAnyH_taken (a' := ?aa3_n) (i := 3) (oi := ⟨some 43, _, _, _, _, _⟩) (v := ?vv3_n) rfl (by kernel_rfl) (by kernel_rfl) (by kernel_rfl) (fun _ _ _ h => h) (Or.inl ⟨by rfl, ?hy3_n⟩) hSn ?ha3_n ?rs3_n
          case hy3_n => first | (intro W hS; clear hS; go_simp; done) | (intro W hS; clear hS; go_simp; with_reducible rfl) | (intro W hS; obtain ⟨hs0, hs1, hs2, hs3⟩ := hS; go_simp; done) | (intro W hS; obtain ⟨hs0, hs1, hs2, hs3⟩ := hS; go_simp; with_reducible rfl)
          case ha3_n => go_simp; with_reducible rfl
          refine wpAnyH_ready (rs := [4]) (by kernel_rfl) (by simp) ?_
          refine AllReadyH.cons (o := ⟨some 44, _, _, _, _, _⟩) rfl (fun K hK => ?_) AllReadyH.nil
          clear hSn
          go_simp
          go_at_call 42
          refine (NC _).mono ?_
          rintro e4 w4 ⟨rfl, hb4⟩
          have y1 := (hb4.cell (p := ⟨wr.heap.size, 0, none⟩) Z2).trans b0
          have y2 := (hb4.cell (p := ⟨wr.heap.size, 1, none⟩) Z2).trans b1
          have y3 := (hb4.cell (p := ⟨w.heap.size + 1, 2, none⟩) Z3).trans b2
          have y4 := (hb4.cell (p := ⟨w.heap.size + 1, 3, none⟩) Z3).trans b3
          have B4 := Lib.hid hb4
          clear hb4
          try go_simp
          refine hK.out _ _ (⟨y1, y2, y3, y4⟩) ?_
          intro hSn
          clear hK K
          refine wpAnyH_taken (a' := ?aa5_n) (i := 5) (oi := ⟨some 45, _, _, _, _, _⟩) (v := ?vv5_n) rfl (by kernel_rfl) (by kernel_rfl) (by kernel_rfl) (fun _ _ _ h => h) (Or.inl ⟨by rfl, ?hy5_n⟩) hSn ?ha5_n ?rs5_n
          case hy5_n => first | (intro W hS; clear hS; go_simp; done) | (intro W hS; clear hS; go_simp; with_reducible rfl) | (intro W hS; obtain ⟨hs0, hs1, hs2, hs3⟩ := hS; go_simp; done) | (intro W hS; obtain ⟨hs0, hs1, hs2, hs3⟩ := hS; go_simp; with_reducible rfl)
          case ha5_n => go_simp; with_reducible rfl
          refine wpAnyH_taken (a' := ?aa6_n) (i := 6) (oi := ⟨some 46, _, _, _, _, _⟩) (v := ?vv6_n) rfl (by kernel_rfl) (by kernel_rfl) (by kernel_rfl) (fun _ _ _ h => h) (Or.inl ⟨by rfl, ?hy6_n⟩) hSn ?ha6_n ?rs6_n
          case hy6_n => first | (intro W hS; clear hS; go_simp; done) | (intro W hS; clear hS; go_simp; with_reducible rfl) | (intro W hS; obtain ⟨hs0, hs1, hs2, hs3⟩ := hS; go_simp; done) | (intro W hS; obtain ⟨hs0, hs1, hs2, hs3⟩ := hS; go_simp; with_reducible rfl)
          case ha6_n => go_simp; with_reducible rfl
          refine wpAnyH_taken (a' := ?aa7_n) (i := 7) (oi := ⟨some 47, _, _, _, _, _⟩) (v := ?vv7_n) rfl (by kernel_rfl) (by kernel_rfl) (by kernel_rfl) (fun _ _ _ h => h) (Or.inl ⟨by rfl, ?hy7_n⟩) hSn ?ha7_n ?rs7_n
          case hy7_n => first | (intro W hS; clear hS; go_simp; done) | (intro W hS; clear hS; go_simp; with_reducible rfl) | (intro W hS; obtain ⟨hs0, hs1, hs2, hs3⟩ := hS; go_simp; done) | (intro W hS; obtain ⟨hs0, hs1, hs2, hs3⟩ := hS; go_simp; with_reducible rfl)
          case ha7_n => go_simp; with_reducible rfl
          refine wpAnyH_taken (a' := ?aa8_n) (i := 8) (oi := ⟨some 48, _, _, _, _, _⟩) (v := undef) rfl (by kernel_rfl) (by kernel_rfl) (by kernel_rfl) (fun _ _ _ h => h) (Or.inr ⟨by rfl, rfl⟩) hSn ?ha8_n ?rs8_n
          case ha8_n => go_simp; with_reducible rfl
          refine wpAnyH_taken (a' := ?aa9_n) (i := 9) (oi := ⟨some 49, _, _, _, _, _⟩) (v := undef) rfl (by kernel_rfl) (by kernel_rfl) (by kernel_rfl) (fun _ _ _ h => h) (Or.inr ⟨by rfl, rfl⟩) hSn ?ha9_n ?rs9_n
          case ha9_n => go_simp; with_reducible rfl
          refine wpAnyH_taken (a' := ?aa10_n) (i := 10) (oi := ⟨some 50, _, _, _, _, _⟩) (v := undef) rfl (by kernel_rfl) (by kernel_rfl) (by kernel_rfl) (fun _ _ _ h => h) (Or.inr ⟨by rfl, rfl⟩) hSn ?ha10_n ?rs10_n
          case ha10_n => go_simp; with_reducible rfl
          refine wpAnyH_taken (a' := ?aa11_n) (i := 11) (oi := ⟨some 51, _, _, _, _, _⟩) (v := undef) rfl (by kernel_rfl) (by kernel_rfl) (by kernel_rfl) (fun _ _ _ h => h) (Or.inr ⟨by rfl, rfl⟩) hSn ?ha11_n ?rs11_n
          case ha11_n => go_simp; with_reducible rfl
          refine wpAnyH_taken (a' := ?aa12_n) (i := 12) (oi := ⟨some 52, _, _, _, _, _⟩) (v := undef) rfl (by kernel_rfl) (by kernel_rfl) (by kernel_rfl) (fun _ _ _ h => h) (Or.inr ⟨by rfl, rfl⟩) hSn ?ha12_n ?rs12_n
          case ha12_n => go_simp; with_reducible rfl
          refine wpAnyH_taken (a' := ?aa13_n) (i := 13) (oi := ⟨some 53, _, _, _, _, _⟩) (v := undef) rfl (by kernel_rfl) (by kernel_rfl) (by kernel_rfl) (fun _ _ _ h => h) (Or.inr ⟨by rfl, rfl⟩) hSn ?ha13_n ?rs13_n
          case ha13_n => go_simp; with_reducible rfl
          refine wpAnyH_taken (a' := ?aa14_n) (i := 14) (oi := ⟨some 54, _, _, _, _, _⟩) (v := undef) rfl (by kernel_rfl) (by kernel_rfl) (by kernel_rfl) (fun _ _ _ h => h) (Or.inr ⟨by rfl, rfl⟩) hSn ?ha14_n ?rs14_n
          case ha14_n => go_simp; with_reducible rfl
          refine wpAnyH_taken (a' := ?aa15_n) (i := 15) (oi := ⟨some 55, _, _, _, _, _⟩) (v := undef) rfl (by kernel_rfl) (by kernel_rfl) (by kernel_rfl) (fun _ _ _ h => h) (Or.inr ⟨by rfl, rfl⟩) hSn ?ha15_n ?rs15_n
          case ha15_n => go_simp; with_reducible rfl
          refine wpAnyH_taken (a' := ?aa16_n) (i := 16) (oi := ⟨some 56, _, _, _, _, _⟩) (v := undef) rfl (by kernel_rfl) (by kernel_rfl) (by kernel_rfl) (fun _ _ _ h => h) (Or.inr ⟨by rfl, rfl⟩) hSn ?ha16_n ?rs16_n
          case ha16_n => go_simp; with_reducible rfl
          refine wpAnyH_taken (a' := ?aa17_n) (i := 17) (oi := ⟨some 57, _, _, _, _, _⟩) (v := undef) rfl (by kernel_rfl) (by kernel_rfl) (by kernel_rfl) (fun _ _ _ h => h) (Or.inr ⟨by rfl, rfl⟩) hSn ?ha17_n ?rs17_n
          case ha17_n => go_simp; with_reducible rfl
          refine wpAnyH_taken (a' := ?aa18_n) (i := 18) (oi := ⟨some 58, _, _, _, _, _⟩) (v := undef) rfl (by kernel_rfl) (by kernel_rfl) (by kernel_rfl) (fun _ _ _ h => h) (Or.inr ⟨by rfl, rfl⟩) hSn ?ha18_n ?rs18_n
          case ha18_n => go_simp; with_reducible rfl
          refine wpAnyH_taken (a' := ?aa19_n) (i := 19) (oi := ⟨some 59, _, _, _, _, _⟩) (v := undef) rfl (by kernel_rfl) (by kernel_rfl) (by kernel_rfl) (fun _ _ _ h => h) (Or.inr ⟨by rfl, rfl⟩) hSn ?ha19_n ?rs19_n
          case ha19_n => go_simp; with_reducible rfl
          refine wpAnyH_taken (a' := ?aa20_n) (i := 20) (oi := ⟨some 60, _, _, _, _, _⟩) (v := undef) rfl (by kernel_rfl) (by kernel_rfl) (by kernel_rfl) (fun _ _ _ h => h) (Or.inr ⟨by rfl, rfl⟩) hSn ?ha20_n ?rs20_n
          case ha20_n => go_simp; with_reducible rfl
          refine wpAnyH_taken (a' := ?aa21_n) (i := 21) (oi := ⟨some 61, _, _, _, _, _⟩) (v := ?vv21_n) rfl (by kernel_rfl) (by kernel_rfl) (by kernel_rfl) (fun _ _ _ h => h) (Or.inl ⟨by rfl, ?hy21_n⟩) hSn ?ha21_n ?rs21_n
          case hy21_n => first | (intro W hS; clear hS; go_simp; done) | (intro W hS; clear hS; go_simp; with_reducible rfl) | (intro W hS; obtain ⟨hs0, hs1, hs2, hs3⟩ := hS; go_simp; done) | (intro W hS; obtain ⟨hs0, hs1, hs2, hs3⟩ := hS; go_simp; with_reducible rfl)
          case ha21_n => go_simp; with_reducible rfl
          refine wpAnyH_done (by kernel_rfl) ?_ _
          -- END r10no
          go_wp2_with fail
          go_ret2
          exact FI.out NO.out _ _ rfl (BB2.out.trans ((bel_undr B4.out).mono BB2.out.size))
        | true =>
          rw [hok] at NC
          have HOK := Lib.hid hok
          have i1 : (rm : Int) ≤ 268435456 := by omega
          have i2 : (sumC C : Int) ≤ (rm : Int) := by omega
          have i3 : (by_.length : Int) ≤ 140737488355328 := by have h9 : by_.length ≤ 140737488355328 := HLI.out.2; omega
          by_cases cs : (rm : Int) - (sumC C : Int) < (by_.length : Int)
          · have t5 : decide ((rm : Int) - (sumC C : Int) < (by_.length : Int)) = true := decide_eq_true cs
            have NO : Hid (ldC rm l [] = none) := LDN.out.trans (if_pos (.inr (.inr (by omega))))
            clear hok cs
            have i4 : IntKind.i64.wrap ((rm : Int) - (sumC C : Int)) = (rm : Int) - (sumC C : Int) := IntWalk.i64_in _ (by omega)
            -- BEGIN r10a
            refine wp_region_held_drew (S := (fun w' => w'.cell? ⟨wr.heap.size, 0, none⟩ = some (.string ⟨nm.toArray⟩) ∧ w'.cell? ⟨wr.heap.size, 1, none⟩ = some (.slice ba by_.length bc) ∧ w'.cell? ⟨w.heap.size + 1, 2, none⟩ = some (.int .i64 (rm : Int)) ∧ w'.cell? ⟨w.heap.size + 1, 3, none⟩ = some (.int .i64 (sumC C : Int)))) (by kernel_rfl) (⟨b0, b1, b2, b3⟩) ?_
            intro hSya
            refine wpAnyH_taken (a' := ?aa0_ya) (i := 0) (oi := ⟨some 40, _, _, _, _, _⟩) (v := ?vv0_ya) rfl (by kernel_rfl) (by kernel_rfl) (by kernel_rfl) (fun _ _ _ h => h) (Or.inl ⟨by rfl, ?hy0_ya⟩) hSya ?ha0_ya ?rs0_ya
            case hy0_ya => first | (intro W hS; clear hS; go_simp; done) | (intro W hS; clear hS; go_simp; with_reducible rfl) | (intro W hS; obtain ⟨hs0, hs1, hs2, hs3⟩ := hS; go_simp; done) | (intro W hS; obtain ⟨hs0, hs1, hs2, hs3⟩ := hS; go_simp; with_reducible rfl)
            case ha0_ya => go_simp; with_reducible rfl
            refine wpAnyH_taken (a' := ?aa1_ya) (i := 1) (oi := ⟨some 41, _, _, _, _, _⟩) (v := ?vv1_ya) rfl (by kernel_rfl) (by kernel_rfl) (by kernel_rfl) (fun _ _ _ h => h) (Or.inl ⟨by rfl, ?hy1_ya⟩) hSya ?ha1_ya ?rs1_ya
            case hy1_ya => first | (intro W hS; clear hS; go_simp; done) | (intro W hS; clear hS; go_simp; with_reducible rfl) | (intro W hS; obtain ⟨hs0, hs1, hs2, hs3⟩ := hS; go_simp; done) | (intro W hS; obtain ⟨hs0, hs1, hs2, hs3⟩ := hS; go_simp; with_reducible rfl)
            case ha1_ya => go_simp; with_reducible rfl
            refine wpAnyH_taken (a' := ?aa2_ya) (i := 2) (oi := ⟨some 42, _, _, _, _, _⟩) (v := ?vv2_ya) rfl (by kernel_rfl) (by kernel_rfl) (by kernel_rfl) (fun _ _ _ h => h) (Or.inl ⟨by rfl, ?hy2_ya⟩) hSya ?ha2_ya ?rs2_ya
            case hy2_ya => first | (intro W hS; clear hS; go_simp; done) | (intro W hS; clear hS; go_simp; with_reducible rfl) | (intro W hS; obtain ⟨hs0, hs1, hs2, hs3⟩ := hS; go_simp; done) | (intro W hS; obtain ⟨hs0, hs1, hs2, hs3⟩ := hS; go_simp; with_reducible rfl)
            case ha2_ya => go_simp; with_reducible rfl
            refine wpAnyH_taken (a' := ?aa3_ya) (i := 3) (oi := ⟨some 43, _, _, _, _, _⟩) (v := ?vv3_ya) rfl (by kernel_rfl) (by kernel_rfl) (by kernel_rfl) (fun _ _ _ h => h) (Or.inl ⟨by rfl, ?hy3_ya⟩) hSya ?ha3_ya ?rs3_ya
            case hy3_ya => first | (intro W hS; clear hS; go_simp; done) | (intro W hS; clear hS; go_simp; with_reducible rfl) | (intro W hS; obtain ⟨hs0, hs1, hs2, hs3⟩ := hS; go_simp; done) | (intro W hS; obtain ⟨hs0, hs1, hs2, hs3⟩ := hS; go_simp; with_reducible rfl)
            case ha3_ya => go_simp; with_reducible rfl
            refine wpAnyH_ready (rs := [4]) (by kernel_rfl) (by simp) ?_
            refine AllReadyH.cons (o := ⟨some 44, _, _, _, _, _⟩) rfl (fun K hK => ?_) AllReadyH.nil
            clear hSya
            go_simp
            go_at_call 42
            refine (NC _).mono ?_
            rintro e4 w4 ⟨rfl, hb4⟩
            have y1 := (hb4.cell (p := ⟨wr.heap.size, 0, none⟩) Z2).trans b0
            have y2 := (hb4.cell (p := ⟨wr.heap.size, 1, none⟩) Z2).trans b1
            have y3 := (hb4.cell (p := ⟨w.heap.size + 1, 2, none⟩) Z3).trans b2
            have y4 := (hb4.cell (p := ⟨w.heap.size + 1, 3, none⟩) Z3).trans b3
            have B4 := Lib.hid hb4
            clear hb4
            try go_simp
            refine hK.out _ _ (⟨y1, y2, y3, y4⟩) ?_
            intro hSya
            clear hK K
            refine wpAnyH_taken (a' := ?aa5_ya) (i := 5) (oi := ⟨some 45, _, _, _, _, _⟩) (v := ?vv5_ya) rfl (by kernel_rfl) (by kernel_rfl) (by kernel_rfl) (fun _ _ _ h => h) (Or.inl ⟨by rfl, ?hy5_ya⟩) hSya ?ha5_ya ?rs5_ya
            case hy5_ya => first | (intro W hS; clear hS; go_simp; done) | (intro W hS; clear hS; go_simp; with_reducible rfl) | (intro W hS; obtain ⟨hs0, hs1, hs2, hs3⟩ := hS; go_simp; done) | (intro W hS; obtain ⟨hs0, hs1, hs2, hs3⟩ := hS; go_simp; with_reducible rfl)
            case ha5_ya => go_simp; with_reducible rfl
            refine wpAnyH_taken (a' := ?aa6_ya) (i := 6) (oi := ⟨some 46, _, _, _, _, _⟩) (v := ?vv6_ya) rfl (by kernel_rfl) (by kernel_rfl) (by kernel_rfl) (fun _ _ _ h => h) (Or.inl ⟨by rfl, ?hy6_ya⟩) hSya ?ha6_ya ?rs6_ya
            case hy6_ya => first | (intro W hS; clear hS; go_simp; done) | (intro W hS; clear hS; go_simp; with_reducible rfl) | (intro W hS; obtain ⟨hs0, hs1, hs2, hs3⟩ := hS; go_simp; done) | (intro W hS; obtain ⟨hs0, hs1, hs2, hs3⟩ := hS; go_simp; with_reducible rfl)
            case ha6_ya => go_simp; with_reducible rfl
            refine wpAnyH_taken (a' := ?aa7_ya) (i := 7) (oi := ⟨some 47, _, _, _, _, _⟩) (v := ?vv7_ya) rfl (by kernel_rfl) (by kernel_rfl) (by kernel_rfl) (fun _ _ _ h => h) (Or.inl ⟨by rfl, ?hy7_ya⟩) hSya ?ha7_ya ?rs7_ya
            case hy7_ya => first | (intro W hS; clear hS; go_simp; done) | (intro W hS; clear hS; go_simp; with_reducible rfl) | (intro W hS; obtain ⟨hs0, hs1, hs2, hs3⟩ := hS; go_simp; done) | (intro W hS; obtain ⟨hs0, hs1, hs2, hs3⟩ := hS; go_simp; with_reducible rfl)
            case ha7_ya => go_simp; with_reducible rfl
            refine wpAnyH_taken (a' := ?aa8_ya) (i := 8) (oi := ⟨some 48, _, _, _, _, _⟩) (v := ?vv8_ya) rfl (by kernel_rfl) (by kernel_rfl) (by kernel_rfl) (fun _ _ _ h => h) (Or.inl ⟨by rfl, ?hy8_ya⟩) hSya ?ha8_ya ?rs8_ya
            case hy8_ya => first | (intro W hS; clear hS; go_simp; done) | (intro W hS; clear hS; go_simp; with_reducible rfl) | (intro W hS; obtain ⟨hs0, hs1, hs2, hs3⟩ := hS; go_simp; done) | (intro W hS; obtain ⟨hs0, hs1, hs2, hs3⟩ := hS; go_simp; with_reducible rfl)
            case ha8_ya => go_simp; with_reducible rfl
            refine wpAnyH_taken (a' := ?aa9_ya) (i := 9) (oi := ⟨some 49, _, _, _, _, _⟩) (v := ?vv9_ya) rfl (by kernel_rfl) (by kernel_rfl) (by kernel_rfl) (fun _ _ _ h => h) (Or.inl ⟨by rfl, ?hy9_ya⟩) hSya ?ha9_ya ?rs9_ya
            case hy9_ya => first | (intro W hS; clear hS; go_simp; done) | (intro W hS; clear hS; go_simp; with_reducible rfl) | (intro W hS; obtain ⟨hs0, hs1, hs2, hs3⟩ := hS; go_simp; done) | (intro W hS; obtain ⟨hs0, hs1, hs2, hs3⟩ := hS; go_simp; with_reducible rfl)
            case ha9_ya => go_simp; with_reducible rfl
            refine wpAnyH_taken (a' := ?aa10_ya) (i := 10) (oi := ⟨some 50, _, _, _, _, _⟩) (v := ?vv10_ya) rfl (by kernel_rfl) (by kernel_rfl) (by kernel_rfl) (fun _ _ _ h => h) (Or.inl ⟨by rfl, ?hy10_ya⟩) hSya ?ha10_ya ?rs10_ya
            case hy10_ya => first | (intro W hS; clear hS; go_simp; done) | (intro W hS; clear hS; go_simp; with_reducible rfl) | (intro W hS; obtain ⟨hs0, hs1, hs2, hs3⟩ := hS; go_simp; done) | (intro W hS; obtain ⟨hs0, hs1, hs2, hs3⟩ := hS; go_simp; with_reducible rfl)
            case ha10_ya => go_simp; with_reducible rfl
            refine wpAnyH_taken (a' := ?aa11_ya) (i := 11) (oi := ⟨some 51, _, _, _, _, _⟩) (v := ?vv11_ya) rfl (by kernel_rfl) (by kernel_rfl) (by kernel_rfl) (fun _ _ _ h => h) (Or.inl ⟨by rfl, ?hy11_ya⟩) hSya ?ha11_ya ?rs11_ya
            case hy11_ya => first | (intro W hS; clear hS; go_simp; done) | (intro W hS; clear hS; go_simp; with_reducible rfl) | (intro W hS; obtain ⟨hs0, hs1, hs2, hs3⟩ := hS; go_simp; done) | (intro W hS; obtain ⟨hs0, hs1, hs2, hs3⟩ := hS; go_simp; with_reducible rfl)
            case ha11_ya => go_simp; with_reducible rfl
            refine wpAnyH_taken (a' := ?aa12_ya) (i := 12) (oi := ⟨some 52, _, _, _, _, _⟩) (v := ?vv12_ya) rfl (by kernel_rfl) (by kernel_rfl) (by kernel_rfl) (fun _ _ _ h => h) (Or.inl ⟨by rfl, ?hy12_ya⟩) hSya ?ha12_ya ?rs12_ya
            case hy12_ya => first | (intro W hS; clear hS; go_simp; done) | (intro W hS; clear hS; go_simp; with_reducible rfl) | (intro W hS; obtain ⟨hs0, hs1, hs2, hs3⟩ := hS; go_simp; done) | (intro W hS; obtain ⟨hs0, hs1, hs2, hs3⟩ := hS; go_simp; with_reducible rfl)
            case ha12_ya => go_simp; with_reducible rfl
            refine wpAnyH_taken (a' := ?aa13_ya) (i := 13) (oi := ⟨some 53, _, _, _, _, _⟩) (v := ?vv13_ya) rfl (by kernel_rfl) (by kernel_rfl) (by kernel_rfl) (fun _ _ _ h => h) (Or.inl ⟨by rfl, ?hy13_ya⟩) hSya ?ha13_ya ?rs13_ya
            case hy13_ya => first | (intro W hS; clear hS; go_simp; done) | (intro W hS; clear hS; go_simp; with_reducible rfl) | (intro W hS; obtain ⟨hs0, hs1, hs2, hs3⟩ := hS; go_simp; done) | (intro W hS; obtain ⟨hs0, hs1, hs2, hs3⟩ := hS; go_simp; with_reducible rfl)
            case ha13_ya => go_simp; with_reducible rfl
            refine wpAnyH_taken (a' := ?aa14_ya) (i := 14) (oi := ⟨some 54, _, _, _, _, _⟩) (v := ?vv14_ya) rfl (by kernel_rfl) (by kernel_rfl) (by kernel_rfl) (fun _ _ _ h => h) (Or.inl ⟨by rfl, ?hy14_ya⟩) hSya ?ha14_ya ?rs14_ya
            case hy14_ya => first | (intro W hS; clear hS; go_simp; done) | (intro W hS; clear hS; go_simp; with_reducible rfl) | (intro W hS; obtain ⟨hs0, hs1, hs2, hs3⟩ := hS; go_simp; done) | (intro W hS; obtain ⟨hs0, hs1, hs2, hs3⟩ := hS; go_simp; with_reducible rfl)
            case ha14_ya => go_simp; with_reducible rfl
            refine wpAnyH_taken (a' := ?aa15_ya) (i := 15) (oi := ⟨some 55, _, _, _, _, _⟩) (v := ?vv15_ya) rfl (by kernel_rfl) (by kernel_rfl) (by kernel_rfl) (fun _ _ _ h => h) (Or.inl ⟨by rfl, ?hy15_ya⟩) hSya ?ha15_ya ?rs15_ya
            case hy15_ya => first | (intro W hS; clear hS; go_simp; done) | (intro W hS; clear hS; go_simp; with_reducible rfl) | (intro W hS; obtain ⟨hs0, hs1, hs2, hs3⟩ := hS; go_simp; done) | (intro W hS; obtain ⟨hs0, hs1, hs2, hs3⟩ := hS; go_simp; with_reducible rfl)
            case ha15_ya => go_simp; with_reducible rfl
            refine wpAnyH_taken (a' := ?aa16_ya) (i := 16) (oi := ⟨some 56, _, _, _, _, _⟩) (v := ?vv16_ya) rfl (by kernel_rfl) (by kernel_rfl) (by kernel_rfl) (fun _ _ _ h => h) (Or.inl ⟨by rfl, ?hy16_ya⟩) hSya ?ha16_ya ?rs16_ya
            case hy16_ya => first | (intro W hS; clear hS; go_simp; done) | (intro W hS; clear hS; go_simp; with_reducible rfl) | (intro W hS; obtain ⟨hs0, hs1, hs2, hs3⟩ := hS; go_simp; done) | (intro W hS; obtain ⟨hs0, hs1, hs2, hs3⟩ := hS; go_simp; with_reducible rfl)
            case ha16_ya => go_simp; with_reducible rfl
            refine wpAnyH_taken (a' := ?aa17_ya) (i := 17) (oi := ⟨some 57, _, _, _, _, _⟩) (v := ?vv17_ya) rfl (by kernel_rfl) (by kernel_rfl) (by kernel_rfl) (fun _ _ _ h => h) (Or.inl ⟨by rfl, ?hy17_ya⟩) hSya ?ha17_ya ?rs17_ya
            case hy17_ya => first | (intro W hS; clear hS; go_simp; done) | (intro W hS; clear hS; go_simp; with_reducible rfl) | (intro W hS; obtain ⟨hs0, hs1, hs2, hs3⟩ := hS; go_simp; done) | (intro W hS; obtain ⟨hs0, hs1, hs2, hs3⟩ := hS; go_simp; with_reducible rfl)
            case ha17_ya => go_simp; with_reducible rfl
            refine wpAnyH_taken (a' := ?aa18_ya) (i := 18) (oi := ⟨some 58, _, _, _, _, _⟩) (v := ?vv18_ya) rfl (by kernel_rfl) (by kernel_rfl) (by kernel_rfl) (fun _ _ _ h => h) (Or.inl ⟨by rfl, ?hy18_ya⟩) hSya ?ha18_ya ?rs18_ya
            case hy18_ya => first | (intro W hS; clear hS; go_simp; done) | (intro W hS; clear hS; go_simp; with_reducible rfl) | (intro W hS; obtain ⟨hs0, hs1, hs2, hs3⟩ := hS; go_simp; done) | (intro W hS; obtain ⟨hs0, hs1, hs2, hs3⟩ := hS; go_simp; with_reducible rfl)
            case ha18_ya => go_simp; with_reducible rfl
            refine wpAnyH_taken (a' := ?aa19_ya) (i := 19) (oi := ⟨some 59, _, _, _, _, _⟩) (v := ?vv19_ya) rfl (by kernel_rfl) (by kernel_rfl) (by kernel_rfl) (fun _ _ _ h => h) (Or.inl ⟨by rfl, ?hy19_ya⟩) hSya ?ha19_ya ?rs19_ya
            case hy19_ya => first | (intro W hS; clear hS; go_simp; done) | (intro W hS; clear hS; go_simp; with_reducible rfl) | (intro W hS; obtain ⟨hs0, hs1, hs2, hs3⟩ := hS; go_simp; done) | (intro W hS; obtain ⟨hs0, hs1, hs2, hs3⟩ := hS; go_simp; with_reducible rfl)
            case ha19_ya => go_simp; with_reducible rfl
            refine wpAnyH_taken (a' := ?aa20_ya) (i := 20) (oi := ⟨some 60, _, _, _, _, _⟩) (v := ?vv20_ya) rfl (by kernel_rfl) (by kernel_rfl) (by kernel_rfl) (fun _ _ _ h => h) (Or.inl ⟨by rfl, ?hy20_ya⟩) hSya ?ha20_ya ?rs20_ya
            case hy20_ya => first | (intro W hS; clear hS; go_simp; done) | (intro W hS; clear hS; go_simp; with_reducible rfl) | (intro W hS; obtain ⟨hs0, hs1, hs2, hs3⟩ := hS; go_simp; done) | (intro W hS; obtain ⟨hs0, hs1, hs2, hs3⟩ := hS; go_simp; with_reducible rfl)
            case ha20_ya => go_simp; with_reducible rfl
            refine wpAnyH_taken (a' := ?aa21_ya) (i := 21) (oi := ⟨some 61, _, _, _, _, _⟩) (v := ?vv21_ya) rfl (by kernel_rfl) (by kernel_rfl) (by kernel_rfl) (fun _ _ _ h => h) (Or.inl ⟨by rfl, ?hy21_ya⟩) hSya ?ha21_ya ?rs21_ya
            case hy21_ya => first | (intro W hS; clear hS; go_simp; done) | (intro W hS; clear hS; go_simp; with_reducible rfl) | (intro W hS; obtain ⟨hs0, hs1, hs2, hs3⟩ := hS; go_simp; done) | (intro W hS; obtain ⟨hs0, hs1, hs2, hs3⟩ := hS; go_simp; with_reducible rfl)
            case ha21_ya => go_simp; with_reducible rfl
            refine wpAnyH_done (by kernel_rfl) ?_ _
            -- END r10a
            go_wp2_with fail
            go_ret2
            exact FI.out NO.out _ _ rfl (BB2.out.trans ((bel_undr B4.out).mono BB2.out.size))
          · have t5 : decide ((rm : Int) - (sumC C : Int) < (by_.length : Int)) = false := decide_eq_false cs
            have YES : Hid (ldC rm l [] = ldC rm (l.drop (i + 1)) (setC C nm by_)) := LDN.out.trans (if_neg (by rintro (h | h | h); rw [HX.out] at h; cases h; rw [hok] at h; cases h; omega))
            have HCS : Hid (sumC C + by_.length ≤ rm) := by show _ ≤ _; omega
            clear hok cs
            have i4 : IntKind.i64.wrap ((rm : Int) - (sumC C : Int)) = (rm : Int) - (sumC C : Int) := IntWalk.i64_in _ (by omega)
            -- BEGIN r10b
            refine wp_region_held_drew (S := (fun w' => w'.cell? ⟨wr.heap.size, 0, none⟩ = some (.string ⟨nm.toArray⟩) ∧ w'.cell? ⟨wr.heap.size, 1, none⟩ = some (.slice ba by_.length bc) ∧ w'.cell? ⟨w.heap.size + 1, 2, none⟩ = some (.int .i64 (rm : Int)) ∧ w'.cell? ⟨w.heap.size + 1, 3, none⟩ = some (.int .i64 (sumC C : Int)))) (by kernel_rfl) (⟨b0, b1, b2, b3⟩) ?_
            intro hSyb
            refine wpAnyH_taken (a' := ?aa0_yb) (i := 0) (oi := ⟨some 40, _, _, _, _, _⟩) (v := ?vv0_yb) rfl (by kernel_rfl) (by kernel_rfl) (by kernel_rfl) (fun _ _ _ h => h) (Or.inl ⟨by rfl, ?hy0_yb⟩) hSyb ?ha0_yb ?rs0_yb
            case hy0_yb => first | (intro W hS; clear hS; go_simp; done) | (intro W hS; clear hS; go_simp; with_reducible rfl) | (intro W hS; obtain ⟨hs0, hs1, hs2, hs3⟩ := hS; go_simp; done) | (intro W hS; obtain ⟨hs0, hs1, hs2, hs3⟩ := hS; go_simp; with_reducible rfl)
            case ha0_yb => go_simp; with_reducible rfl
            refine wpAnyH_taken (a' := ?aa1_yb) (i := 1) (oi := ⟨some 41, _, _, _, _, _⟩) (v := ?vv1_yb) rfl (by kernel_rfl) (by kernel_rfl) (by kernel_rfl) (fun _ _ _ h => h) (Or.inl ⟨by rfl, ?hy1_yb⟩) hSyb ?ha1_yb ?rs1_yb
            case hy1_yb => first | (intro W hS; clear hS; go_simp; done) | (intro W hS; clear hS; go_simp; with_reducible rfl) | (intro W hS; obtain ⟨hs0, hs1, hs2, hs3⟩ := hS; go_simp; done) | (intro W hS; obtain ⟨hs0, hs1, hs2, hs3⟩ := hS; go_simp; with_reducible rfl)
            case ha1_yb => go_simp; with_reducible rfl
            refine wpAnyH_taken (a' := ?aa2_yb) (i := 2) (oi := ⟨some 42, _, _, _, _, _⟩) (v := ?vv2_yb) rfl (by kernel_rfl) (by kernel_rfl) (by kernel_rfl) (fun _ _ _ h => h) (Or.inl ⟨by rfl, ?hy2_yb⟩) hSyb ?ha2_yb ?rs2_yb
            case hy2_yb => first | (intro W hS; clear hS; go_simp; done) | (intro W hS; clear hS; go_simp; with_reducible rfl) | (intro W hS; obtain ⟨hs0, hs1, hs2, hs3⟩ := hS; go_simp; done) | (intro W hS; obtain ⟨hs0, hs1, hs2, hs3⟩ := hS; go_simp; with_reducible rfl)
            case ha2_yb => go_simp; with_reducible rfl
            refine wpAnyH_taken (a' := ?aa3_yb) (i := 3) (oi := ⟨some 43, _, _, _, _, _⟩) (v := ?vv3_yb) rfl (by kernel_rfl) (by kernel_rfl) (by kernel_rfl) (fun _ _ _ h => h) (Or.inl ⟨by rfl, ?hy3_yb⟩) hSyb ?ha3_yb ?rs3_yb
            case hy3_yb => first | (intro W hS; clear hS; go_simp; done) | (intro W hS; clear hS; go_simp; with_reducible rfl) | (intro W hS; obtain ⟨hs0, hs1, hs2, hs3⟩ := hS; go_simp; done) | (intro W hS; obtain ⟨hs0, hs1, hs2, hs3⟩ := hS; go_simp; with_reducible rfl)
            case ha3_yb => go_simp; with_reducible rfl
            refine wpAnyH_ready (rs := [4]) (by kernel_rfl) (by simp) ?_
            refine AllReadyH.cons (o := ⟨some 44, _, _, _, _, _⟩) rfl (fun K hK => ?_) AllReadyH.nil
            clear hSyb
            go_simp
            go_at_call 42
            refine (NC _).mono ?_
            rintro e4 w4 ⟨rfl, hb4⟩
            have y1 := (hb4.cell (p := ⟨wr.heap.size, 0, none⟩) Z2).trans b0
            have y2 := (hb4.cell (p := ⟨wr.heap.size, 1, none⟩) Z2).trans b1
            have y3 := (hb4.cell (p := ⟨w.heap.size + 1, 2, none⟩) Z3).trans b2
            have y4 := (hb4.cell (p := ⟨w.heap.size + 1, 3, none⟩) Z3).trans b3
            have B4 := Lib.hid hb4
            clear hb4
            try go_simp
            refine hK.out _ _ (⟨y1, y2, y3, y4⟩) ?_
            intro hSyb
            clear hK K
            refine wpAnyH_taken (a' := ?aa5_yb) (i := 5) (oi := ⟨some 45, _, _, _, _, _⟩) (v := ?vv5_yb) rfl (by kernel_rfl) (by kernel_rfl) (by kernel_rfl) (fun _ _ _ h => h) (Or.inl ⟨by rfl, ?hy5_yb⟩) hSyb ?ha5_yb ?rs5_yb
            case hy5_yb => first | (intro W hS; clear hS; go_simp; done) | (intro W hS; clear hS; go_simp; with_reducible rfl) | (intro W hS; obtain ⟨hs0, hs1, hs2, hs3⟩ := hS; go_simp; done) | (intro W hS; obtain ⟨hs0, hs1, hs2, hs3⟩ := hS; go_simp; with_reducible rfl)
            case ha5_yb => go_simp; with_reducible rfl
            refine wpAnyH_taken (a' := ?aa6_yb) (i := 6) (oi := ⟨some 46, _, _, _, _, _⟩) (v := ?vv6_yb) rfl (by kernel_rfl) (by kernel_rfl) (by kernel_rfl) (fun _ _ _ h => h) (Or.inl ⟨by rfl, ?hy6_yb⟩) hSyb ?ha6_yb ?rs6_yb
            case hy6_yb => first | (intro W hS; clear hS; go_simp; done) | (intro W hS; clear hS; go_simp; with_reducible rfl) | (intro W hS; obtain ⟨hs0, hs1, hs2, hs3⟩ := hS; go_simp; done) | (intro W hS; obtain ⟨hs0, hs1, hs2, hs3⟩ := hS; go_simp; with_reducible rfl)
            case ha6_yb => go_simp; with_reducible rfl
            refine wpAnyH_taken (a' := ?aa7_yb) (i := 7) (oi := ⟨some 47, _, _, _, _, _⟩) (v := ?vv7_yb) rfl (by kernel_rfl) (by kernel_rfl) (by kernel_rfl) (fun _ _ _ h => h) (Or.inl ⟨by rfl, ?hy7_yb⟩) hSyb ?ha7_yb ?rs7_yb
            case hy7_yb => first | (intro W hS; clear hS; go_simp; done) | (intro W hS; clear hS; go_simp; with_reducible rfl) | (intro W hS; obtain ⟨hs0, hs1, hs2, hs3⟩ := hS; go_simp; done) | (intro W hS; obtain ⟨hs0, hs1, hs2, hs3⟩ := hS; go_simp; with_reducible rfl)
            case ha7_yb => go_simp; with_reducible rfl
            refine wpAnyH_taken (a' := ?aa8_yb) (i := 8) (oi := ⟨some 48, _, _, _, _, _⟩) (v := ?vv8_yb) rfl (by kernel_rfl) (by kernel_rfl) (by kernel_rfl) (fun _ _ _ h => h) (Or.inl ⟨by rfl, ?hy8_yb⟩) hSyb ?ha8_yb ?rs8_yb
            case hy8_yb => first | (intro W hS; clear hS; go_simp; done) | (intro W hS; clear hS; go_simp; with_reducible rfl) | (intro W hS; obtain ⟨hs0, hs1, hs2, hs3⟩ := hS; go_simp; done) | (intro W hS; obtain ⟨hs0, hs1, hs2, hs3⟩ := hS; go_simp; with_reducible rfl)
            case ha8_yb => go_simp; with_reducible rfl
            refine wpAnyH_taken (a' := ?aa9_yb) (i := 9) (oi := ⟨some 49, _, _, _, _, _⟩) (v := ?vv9_yb) rfl (by kernel_rfl) (by kernel_rfl) (by kernel_rfl) (fun _ _ _ h => h) (Or.inl ⟨by rfl, ?hy9_yb⟩) hSyb ?ha9_yb ?rs9_yb
            case hy9_yb => first | (intro W hS; clear hS; go_simp; done) | (intro W hS; clear hS; go_simp; with_reducible rfl) | (intro W hS; obtain ⟨hs0, hs1, hs2, hs3⟩ := hS; go_simp; done) | (intro W hS; obtain ⟨hs0, hs1, hs2, hs3⟩ := hS; go_simp; with_reducible rfl)
            case ha9_yb => go_simp; with_reducible rfl
            refine wpAnyH_taken (a' := ?aa10_yb) (i := 10) (oi := ⟨some 50, _, _, _, _, _⟩) (v := ?vv10_yb) rfl (by kernel_rfl) (by kernel_rfl) (by kernel_rfl) (fun _ _ _ h => h) (Or.inl ⟨by rfl, ?hy10_yb⟩) hSyb ?ha10_yb ?rs10_yb
            case hy10_yb => first | (intro W hS; clear hS; go_simp; done) | (intro W hS; clear hS; go_simp; with_reducible rfl) | (intro W hS; obtain ⟨hs0, hs1, hs2, hs3⟩ := hS; go_simp; done) | (intro W hS; obtain ⟨hs0, hs1, hs2, hs3⟩ := hS; go_simp; with_reducible rfl)
            case ha10_yb => go_simp; with_reducible rfl
            refine wpAnyH_taken (a' := ?aa11_yb) (i := 11) (oi := ⟨some 51, _, _, _, _, _⟩) (v := ?vv11_yb) rfl (by kernel_rfl) (by kernel_rfl) (by kernel_rfl) (fun _ _ _ h => h) (Or.inl ⟨by rfl, ?hy11_yb⟩) hSyb ?ha11_yb ?rs11_yb
            case hy11_yb => first | (intro W hS; clear hS; go_simp; done) | (intro W hS; clear hS; go_simp; with_reducible rfl) | (intro W hS; obtain ⟨hs0, hs1, hs2, hs3⟩ := hS; go_simp; done) | (intro W hS; obtain ⟨hs0, hs1, hs2, hs3⟩ := hS; go_simp; with_reducible rfl)
            case ha11_yb => go_simp; with_reducible rfl
            refine wpAnyH_taken (a' := ?aa12_yb) (i := 12) (oi := ⟨some 52, _, _, _, _, _⟩) (v := ?vv12_yb) rfl (by kernel_rfl) (by kernel_rfl) (by kernel_rfl) (fun _ _ _ h => h) (Or.inl ⟨by rfl, ?hy12_yb⟩) hSyb ?ha12_yb ?rs12_yb
            case hy12_yb => first | (intro W hS; clear hS; go_simp; done) | (intro W hS; clear hS; go_simp; with_reducible rfl) | (intro W hS; obtain ⟨hs0, hs1, hs2, hs3⟩ := hS; go_simp; done) | (intro W hS; obtain ⟨hs0, hs1, hs2, hs3⟩ := hS; go_simp; with_reducible rfl)
            case ha12_yb => go_simp; with_reducible rfl
            refine wpAnyH_taken (a' := ?aa13_yb) (i := 13) (oi := ⟨some 53, _, _, _, _, _⟩) (v := ?vv13_yb) rfl (by kernel_rfl) (by kernel_rfl) (by kernel_rfl) (fun _ _ _ h => h) (Or.inl ⟨by rfl, ?hy13_yb⟩) hSyb ?ha13_yb ?rs13_yb
            case hy13_yb => first | (intro W hS; clear hS; go_simp; done) | (intro W hS; clear hS; go_simp; with_reducible rfl) | (intro W hS; obtain ⟨hs0, hs1, hs2, hs3⟩ := hS; go_simp; done) | (intro W hS; obtain ⟨hs0, hs1, hs2, hs3⟩ := hS; go_simp; with_reducible rfl)
            case ha13_yb => go_simp; with_reducible rfl
            refine wpAnyH_taken (a' := ?aa14_yb) (i := 14) (oi := ⟨some 54, _, _, _, _, _⟩) (v := ?vv14_yb) rfl (by kernel_rfl) (by kernel_rfl) (by kernel_rfl) (fun _ _ _ h => h) (Or.inl ⟨by rfl, ?hy14_yb⟩) hSyb ?ha14_yb ?rs14_yb
            case hy14_yb => first | (intro W hS; clear hS; go_simp; done) | (intro W hS; clear hS; go_simp; with_reducible rfl) | (intro W hS; obtain ⟨hs0, hs1, hs2, hs3⟩ := hS; go_simp; done) | (intro W hS; obtain ⟨hs0, hs1, hs2, hs3⟩ := hS; go_simp; with_reducible rfl)
            case ha14_yb => go_simp; with_reducible rfl
            refine wpAnyH_taken (a' := ?aa15_yb) (i := 15) (oi := ⟨some 55, _, _, _, _, _⟩) (v := ?vv15_yb) rfl (by kernel_rfl) (by kernel_rfl) (by kernel_rfl) (fun _ _ _ h => h) (Or.inl ⟨by rfl, ?hy15_yb⟩) hSyb ?ha15_yb ?rs15_yb
            case hy15_yb => first | (intro W hS; clear hS; go_simp; done) | (intro W hS; clear hS; go_simp; with_reducible rfl) | (intro W hS; obtain ⟨hs0, hs1, hs2, hs3⟩ := hS; go_simp; done) | (intro W hS; obtain ⟨hs0, hs1, hs2, hs3⟩ := hS; go_simp; with_reducible rfl)
            case ha15_yb => go_simp; with_reducible rfl
            refine wpAnyH_taken (a' := ?aa16_yb) (i := 16) (oi := ⟨some 56, _, _, _, _, _⟩) (v := ?vv16_yb) rfl (by kernel_rfl) (by kernel_rfl) (by kernel_rfl) (fun _ _ _ h => h) (Or.inl ⟨by rfl, ?hy16_yb⟩) hSyb ?ha16_yb ?rs16_yb
            case hy16_yb => first | (intro W hS; clear hS; go_simp; done) | (intro W hS; clear hS; go_simp; with_reducible rfl) | (intro W hS; obtain ⟨hs0, hs1, hs2, hs3⟩ := hS; go_simp; done) | (intro W hS; obtain ⟨hs0, hs1, hs2, hs3⟩ := hS; go_simp; with_reducible rfl)
            case ha16_yb => go_simp; with_reducible rfl
            refine wpAnyH_taken (a' := ?aa17_yb) (i := 17) (oi := ⟨some 57, _, _, _, _, _⟩) (v := ?vv17_yb) rfl (by kernel_rfl) (by kernel_rfl) (by kernel_rfl) (fun _ _ _ h => h) (Or.inl ⟨by rfl, ?hy17_yb⟩) hSyb ?ha17_yb ?rs17_yb
            case hy17_yb => first | (intro W hS; clear hS; go_simp; done) | (intro W hS; clear hS; go_simp; with_reducible rfl) | (intro W hS; obtain ⟨hs0, hs1, hs2, hs3⟩ := hS; go_simp; done) | (intro W hS; obtain ⟨hs0, hs1, hs2, hs3⟩ := hS; go_simp; with_reducible rfl)
            case ha17_yb => go_simp; with_reducible rfl
            refine wpAnyH_taken (a' := ?aa18_yb) (i := 18) (oi := ⟨some 58, _, _, _, _, _⟩) (v := ?vv18_yb) rfl (by kernel_rfl) (by kernel_rfl) (by kernel_rfl) (fun _ _ _ h => h) (Or.inl ⟨by rfl, ?hy18_yb⟩) hSyb ?ha18_yb ?rs18_yb
            case hy18_yb => first | (intro W hS; clear hS; go_simp; done) | (intro W hS; clear hS; go_simp; with_reducible rfl) | (intro W hS; obtain ⟨hs0, hs1, hs2, hs3⟩ := hS; go_simp; done) | (intro W hS; obtain ⟨hs0, hs1, hs2, hs3⟩ := hS; go_simp; with_reducible rfl)
            case ha18_yb => go_simp; with_reducible rfl
            refine wpAnyH_taken (a' := ?aa19_yb) (i := 19) (oi := ⟨some 59, _, _, _, _, _⟩) (v := ?vv19_yb) rfl (by kernel_rfl) (by kernel_rfl) (by kernel_rfl) (fun _ _ _ h => h) (Or.inl ⟨by rfl, ?hy19_yb⟩) hSyb ?ha19_yb ?rs19_yb
            case hy19_yb => first | (intro W hS; clear hS; go_simp; done) | (intro W hS; clear hS; go_simp; with_reducible rfl) | (intro W hS; obtain ⟨hs0, hs1, hs2, hs3⟩ := hS; go_simp; done) | (intro W hS; obtain ⟨hs0, hs1, hs2, hs3⟩ := hS; go_simp; with_reducible rfl)
            case ha19_yb => go_simp; with_reducible rfl
            refine wpAnyH_taken (a' := ?aa20_yb) (i := 20) (oi := ⟨some 60, _, _, _, _, _⟩) (v := ?vv20_yb) rfl (by kernel_rfl) (by kernel_rfl) (by kernel_rfl) (fun _ _ _ h => h) (Or.inl ⟨by rfl, ?hy20_yb⟩) hSyb ?ha20_yb ?rs20_yb
            case hy20_yb => first | (intro W hS; clear hS; go_simp; done) | (intro W hS; clear hS; go_simp; with_reducible rfl) | (intro W hS; obtain ⟨hs0, hs1, hs2, hs3⟩ := hS; go_simp; done) | (intro W hS; obtain ⟨hs0, hs1, hs2, hs3⟩ := hS; go_simp; with_reducible rfl)
            case ha20_yb => go_simp; with_reducible rfl
            refine wpAnyH_taken (a' := ?aa21_yb) (i := 21) (oi := ⟨some 61, _, _, _, _, _⟩) (v := ?vv21_yb) rfl (by kernel_rfl) (by kernel_rfl) (by kernel_rfl) (fun _ _ _ h => h) (Or.inl ⟨by rfl, ?hy21_yb⟩) hSyb ?ha21_yb ?rs21_yb
            case hy21_yb => first | (intro W hS; clear hS; go_simp; done) | (intro W hS; clear hS; go_simp; with_reducible rfl) | (intro W hS; obtain ⟨hs0, hs1, hs2, hs3⟩ := hS; go_simp; done) | (intro W hS; obtain ⟨hs0, hs1, hs2, hs3⟩ := hS; go_simp; with_reducible rfl)
            case ha21_yb => go_simp; with_reducible rfl
            refine wpAnyH_done (by kernel_rfl) ?_ _
            -- END r10b
            clear i4
            obtain ⟨w3, hw3⟩ : ∃ q, q = w4 := ⟨_, rfl⟩
            subst hw3
            have D4 := Lib.hid (D2.out.below (bel_undr B4.out))
            have BB4 := Lib.hid (BB2.out.trans ((bel_undr B4.out).mono BB2.out.size))
            have Y4 := Lib.hid (Y2.out.below (bel_undr B4.out))
            have y5 : w3.cell? ⟨w.heap.size + 1, 4, none⟩ = some (.map (some w.heap.size)) := D4.out.cell 4
            have Z4 : wr.heap.size < w3.heap.size := World.block_lt_of_cell? _ _ y1
            have Z5 : w.heap.size + 1 < w3.heap.size := D4.out.lt
            have CL := fun W (hb : Below w3.heap.size w3 W) => Clone_calls ba bc by_ W (Y4.out.below hb) (show by_.length ≤ 140737488355328 from HLI.out.2)
            have hL64 : L.length < maxLen := by rw [HR.out.len, HCI.out]; unfold maxLen; omega
            have PUT := Lib.hid (fun (w6 : World) (a6 : Option Addr) (c6 : Nat) (hb : Below w3.heap.size w3 w6) (ho : Own w6 w3.heap.size 5 1 (.slice a6 by_.length c6) by_.length (bys by_)) =>
              show ∃ w7, (Instr.mapUpdate 105 (.map (some w.heap.size)) (.string ⟨nm.toArray⟩) (.slice a6 by_.length c6)).run Tryz.prog w6 = .ok () w7 ∧ Fls w7 w.heap.size w.heap.size (putF L ⟨nm, by_, a6, c6⟩) (D.put (key nm) (.held (Fl.val ⟨nm, by_, a6, c6⟩))) ∧ Upd (fun k => k = w.heap.size) w6 w7 from
              (D4.out.below hb).fls.put ⟨nm, by_, a6, c6⟩ (show nm.length ≤ maxLen by have h9 : nm.length ≤ 140737488351232 := HLI.out.1; unfold maxLen; omega) hL64 (ho.mono (by omega)) (fun g hg hne k hk hgk => by
                have h1 := (ho.lt k hk).1
                have h2 := (D4.out.fls.lt k (.inr ⟨g, hg, hgk⟩)).2
                omega))
            have NE1 : Hid (¬ wr.heap.size = w.heap.size) := by show ¬ _; omega
            have NE2 : Hid (¬ w.heap.size + 1 = w.heap.size) := by show ¬ _; omega
            clear y3 y4 B4
            go_wp2_with fail
            -- BEGIN r12
            refine wp_region_held_drew (S := (fun w' => w'.cell? ⟨wr.heap.size, 0, none⟩ = some (.string ⟨nm.toArray⟩) ∧ w'.cell? ⟨wr.heap.size, 1, none⟩ = some (.slice ba by_.length bc) ∧ w'.cell? ⟨w.heap.size + 1, 4, none⟩ = some (.map (some w.heap.size)))) (by kernel_rfl) (⟨y1, y2, y5⟩) ?_
            intro hSc
            refine wpAnyH_taken (a' := ?aa0_c) (i := 0) (oi := ⟨some 62, _, _, _, _, _⟩) (v := ?vv0_c) rfl (by kernel_rfl) (by kernel_rfl) (by kernel_rfl) (fun _ _ _ h => h) (Or.inl ⟨by rfl, ?hy0_c⟩) hSc ?ha0_c ?rs0_c
            case hy0_c => first | (intro W hS; clear hS; go_simp; done) | (intro W hS; clear hS; go_simp; with_reducible rfl) | (intro W hS; obtain ⟨hs0, hs1, hs2⟩ := hS; go_simp; done) | (intro W hS; obtain ⟨hs0, hs1, hs2⟩ := hS; go_simp; with_reducible rfl)
            case ha0_c => go_simp; with_reducible rfl
            refine wpAnyH_taken (a' := ?aa1_c) (i := 1) (oi := ⟨some 63, _, _, _, _, _⟩) (v := ?vv1_c) rfl (by kernel_rfl) (by kernel_rfl) (by kernel_rfl) (fun _ _ _ h => h) (Or.inl ⟨by rfl, ?hy1_c⟩) hSc ?ha1_c ?rs1_c
            case hy1_c => first | (intro W hS; clear hS; go_simp; done) | (intro W hS; clear hS; go_simp; with_reducible rfl) | (intro W hS; obtain ⟨hs0, hs1, hs2⟩ := hS; go_simp; done) | (intro W hS; obtain ⟨hs0, hs1, hs2⟩ := hS; go_simp; with_reducible rfl)
            case ha1_c => go_simp; with_reducible rfl
            refine wpAnyH_taken (a' := ?aa2_c) (i := 2) (oi := ⟨some 64, _, _, _, _, _⟩) (v := ?vv2_c) rfl (by kernel_rfl) (by kernel_rfl) (by kernel_rfl) (fun _ _ _ h => h) (Or.inl ⟨by rfl, ?hy2_c⟩) hSc ?ha2_c ?rs2_c
            case hy2_c => first | (intro W hS; clear hS; go_simp; done) | (intro W hS; clear hS; go_simp; with_reducible rfl) | (intro W hS; obtain ⟨hs0, hs1, hs2⟩ := hS; go_simp; done) | (intro W hS; obtain ⟨hs0, hs1, hs2⟩ := hS; go_simp; with_reducible rfl)
            case ha2_c => go_simp; with_reducible rfl
            refine wpAnyH_taken (a' := ?aa3_c) (i := 3) (oi := ⟨some 65, _, _, _, _, _⟩) (v := ?vv3_c) rfl (by kernel_rfl) (by kernel_rfl) (by kernel_rfl) (fun _ _ _ h => h) (Or.inl ⟨by rfl, ?hy3_c⟩) hSc ?ha3_c ?rs3_c
            case hy3_c => first | (intro W hS; clear hS; go_simp; done) | (intro W hS; clear hS; go_simp; with_reducible rfl) | (intro W hS; obtain ⟨hs0, hs1, hs2⟩ := hS; go_simp; done) | (intro W hS; obtain ⟨hs0, hs1, hs2⟩ := hS; go_simp; with_reducible rfl)
            case ha3_c => go_simp; with_reducible rfl
            refine wpAnyH_taken (a' := ?aa4_c) (i := 4) (oi := ⟨some 66, _, _, _, _, _⟩) (v := ?vv4_c) rfl (by kernel_rfl) (by kernel_rfl) (by kernel_rfl) (fun _ _ _ h => h) (Or.inl ⟨by rfl, ?hy4_c⟩) hSc ?ha4_c ?rs4_c
            case hy4_c => first | (intro W hS; clear hS; go_simp; done) | (intro W hS; clear hS; go_simp; with_reducible rfl) | (intro W hS; obtain ⟨hs0, hs1, hs2⟩ := hS; go_simp; done) | (intro W hS; obtain ⟨hs0, hs1, hs2⟩ := hS; go_simp; with_reducible rfl)
            case ha4_c => go_simp; with_reducible rfl
            refine wpAnyH_taken (a' := ?aa5_c) (i := 5) (oi := ⟨some 67, _, _, _, _, _⟩) (v := ?vv5_c) rfl (by kernel_rfl) (by kernel_rfl) (by kernel_rfl) (fun _ _ _ h => h) (Or.inl ⟨by rfl, ?hy5_c⟩) hSc ?ha5_c ?rs5_c
            case hy5_c => first | (intro W hS; clear hS; go_simp; done) | (intro W hS; clear hS; go_simp; with_reducible rfl) | (intro W hS; obtain ⟨hs0, hs1, hs2⟩ := hS; go_simp; done) | (intro W hS; obtain ⟨hs0, hs1, hs2⟩ := hS; go_simp; with_reducible rfl)
            case ha5_c => go_simp; with_reducible rfl
            refine wpAnyH_taken (a' := ?aa6_c) (i := 6) (oi := ⟨some 68, _, _, _, _, _⟩) (v := ?vv6_c) rfl (by kernel_rfl) (by kernel_rfl) (by kernel_rfl) (fun _ _ _ h => h) (Or.inl ⟨by rfl, ?hy6_c⟩) hSc ?ha6_c ?rs6_c
            case hy6_c => first | (intro W hS; clear hS; go_simp; done) | (intro W hS; clear hS; go_simp; with_reducible rfl) | (intro W hS; obtain ⟨hs0, hs1, hs2⟩ := hS; go_simp; done) | (intro W hS; obtain ⟨hs0, hs1, hs2⟩ := hS; go_simp; with_reducible rfl)
            case ha6_c => go_simp; with_reducible rfl
            refine wpAnyH_taken (a' := ?aa7_c) (i := 7) (oi := ⟨some 69, _, _, _, _, _⟩) (v := ?vv7_c) rfl (by kernel_rfl) (by kernel_rfl) (by kernel_rfl) (fun _ _ _ h => h) (Or.inl ⟨by rfl, ?hy7_c⟩) hSc ?ha7_c ?rs7_c
            case hy7_c => first | (intro W hS; clear hS; go_simp; done) | (intro W hS; clear hS; go_simp; with_reducible rfl) | (intro W hS; obtain ⟨hs0, hs1, hs2⟩ := hS; go_simp; done) | (intro W hS; obtain ⟨hs0, hs1, hs2⟩ := hS; go_simp; with_reducible rfl)
            case ha7_c => go_simp; with_reducible rfl
            refine wpAnyH_ready (rs := [8]) (by kernel_rfl) (by simp) ?_
            refine AllReadyH.cons (o := ⟨some 70, _, _, _, _, _⟩) rfl (fun K hK => ?_) AllReadyH.nil
            clear hSc
            go_simp
            go_at_call 43
            refine (CL _ (bel_drewN (Below.refl _ _) 1)).mono ?_
            rintro e6 w6 ⟨v6, rfl, ho6, hb6⟩
            have x1 := (hb6.cell (p := ⟨wr.heap.size, 0, none⟩) Z4).trans y1
            have x2 := (hb6.cell (p := ⟨wr.heap.size, 1, none⟩) Z4).trans y2
            have x3 := (hb6.cell (p := ⟨w.heap.size + 1, 4, none⟩) Z5).trans y5
            obtain ⟨a6, c6, rfl, -, -, -⟩ := ho6.shape'
            have B6 := Lib.hid hb6
            have O6 := Lib.hid ho6
            clear hb6 ho6
            try go_simp
            refine hK.out _ _ (⟨x1, x2, x3⟩) ?_
            intro hSc
            clear hK K
            refine wpAnyH_ready (rs := [9]) (by kernel_rfl) (by simp) ?_
            refine AllReadyH.cons (o := ⟨none, _, _, _, _, _⟩) rfl (fun K hK => ?_) AllReadyH.nil
            clear hSc
            obtain ⟨w7, hr7, hf7, hu7⟩ := PUT.out w6 a6 c6 (bel_undr B6.out) O6.out
            have F7 := Lib.hid hf7
            have U7 := Lib.hid hu7
            clear hf7 hu7
            go_simp
            have v1 := U7.out.cell' x1 NE1.out
            have v2 := U7.out.cell' x2 NE1.out
            have v3 := U7.out.cell' x3 NE2.out
            try go_simp
            refine hK.out _ _ (⟨v1, v2, v3⟩) ?_
            intro hSc
            clear hK K
            refine wpAnyH_done (by kernel_rfl) ?_ _
            -- END r12
            have u5 : w7.cell? ⟨w.heap.size + 1, 3, none⟩ = some (.int .i64 (sumC C : Int)) := U7.out.cell' ((B6.out.cell (p := ⟨w.heap.size + 1, 3, none⟩) Z5).trans (D4.out.cell 3)) NE2.out
            have BK7 : w7.heap[w.heap.size + 1]? = some (.cells (dcells 0 { dk0 (rm : Int) with used := (sumC C : Int) } w.heap.size) 114 (0, 0)) := (U7.out.block _ (Nat.lt_of_lt_of_le Z5 B6.out.size) NE2.out).trans ((B6.out.block _ Z5).trans D4.out.blk)
            have f5 : w7.frozen? ⟨w.heap.size + 1, 3, none⟩ = false := by simp only [World.frozen?, BK7]; simp
            have D7 := Lib.hid (Dsk.set (m := 0) (k := { dk0 (rm : Int) with used := (sumC C : Int) }) (mb := w.heap.size) 3 (.int .i64 ((sumC C : Int) + (by_.length : Int))) 0 { dk0 (rm : Int) with used := (sumC C : Int) + (by_.length : Int) } rfl BK7 (Nat.le_succ _) F7.out)
            have BB6 := Lib.hid (BB4.out.trans ((bel_undr B6.out).mono BB4.out.size))
            have BB7 := Lib.hid (BB6.out.trans (U7.out.below (B := w.heap.size) (fun k hk _ => by have h9 : k = w.heap.size := hk; omega) BB6.out.size))
            have g1 : w7.cell? ⟨wr.heap.size, 1, none⟩ = some (.slice ba by_.length bc) := by obtain ⟨-, h9, -⟩ := hSc; exact h9
            clear BK7 x1 x2 x3 y1 y2 y5 hr7 hSc BB6
            have hno : hasC C nm = false := HX.out
            have hsc : sumC (setC C nm by_) = sumC C + by_.length := by have h9 := sum_set HSO.out nm by_; rw [bytC_no hno] at h9; simpa using h9
            have hlc : (setC C nm by_).length = i + 1 := by have h9 := len_set HSO.out nm by_; rw [hno] at h9; rw [← HCI.out]; simpa using h9
            have NXT : Hid (LdS w (w7.setCell ⟨w.heap.size + 1, 3, none⟩ (.int .i64 ((sumC C : Int) + (by_.length : Int)))).drew rm (setC C nm by_)) := by
              refine ⟨putF L ⟨nm, by_, a6, c6⟩, D.put (key nm) (.held (Fl.val ⟨nm, by_, a6, c6⟩)), ?_, HR.out.put ⟨nm, by_, a6, c6⟩, bel_drewN (BB7.out.setCell (Nat.le_succ _) _) 1⟩
              have h9 := D7.out.drewN 1
              have e9 : ((sumC (setC C nm by_) : Nat) : Int) = (sumC C : Int) + (by_.length : Int) := by rw [hsc]; omega
              rw [e9]
              exact h9
            have FACTS : Hid ((setC C nm by_).length = i + 1 ∧ ldC rm l [] = ldC rm (l.drop (i + 1)) (setC C nm by_) ∧ (SortedC (setC C nm by_) ∧ (∀ p ∈ setC C nm by_, nmOk p.1 = true) ∧ sumC (setC C nm by_) ≤ rm)) := by
              refine ⟨hlc, YES.out, sorted_setC _ _ HSO.out, ?_, by rw [hsc]; exact HCS.out⟩
              intro p hp
              rcases mem_setC.1 hp with rfl | ⟨hp, _⟩
              · exact HOK.out
              · exact HNM.out p hp
            clear hno hsc hlc
            have i4 : IntKind.i64.wrap ((sumC C : Int) + (by_.length : Int)) = (sumC C : Int) + (by_.length : Int) := IntWalk.i64_in _ (by omega)
            go_wp2_with fail
            go_still_tail 10, (by kernel_rfl)
            clear i4
            go_wp2_with fail
            go_roundw
            case rel => exact ⟨i + 1, setC C nm by_, by go_num, by omega, FACTS.out.1, FACTS.out.2.1, FACTS.out.2.2, NXT.out⟩
            case measure => simp [intOf]; omega
    · have t4 : decide ((i : Int) < (l.length : Int)) = false := decide_eq_false (by omega)
      have t4' : decide (i < l.length) = false := decide_eq_false lt
      have FIN : Hid (LoadP w wr rm l (.returned (.tuple #[.pointer (some ⟨w.heap.size + 1, 0, none⟩), .int .i64 0]))) := by
        have hil : i = l.length := by omega
        have e := LR.out
        have h9 := HLD.out
        rw [hil, List.drop_length] at h9
        rw [h9] at e
        show LoadP _ _ _ _ _
        unfold LoadP
        rw [e]
        refine ⟨w.heap.size + 1, rfl, ⟨w.heap.size, L, D, HD.out, HR.out, (loadR_ok e).1, ?_⟩, HB.out⟩
        intro k hk
        rcases hk with rfl | hk
        · exact Nat.le_succ _
        · exact (HD.out.fls.lt k hk).1
      go_wp2
      go_ret2
      exact FIN.out
end Go.Proofs.YtnbpkignkfabkaaGreatDoor
