/- posternlaw10: do both disks hold the same, and do both logs say the same of themselves? -/
import Derived.Test.YtnbpkignkfabkaaGreatDoorWxP
import Derived.Test.YtnbpkignkfabkaaGreatDoorOps9
import Derived.BigQuiet
import Derived.Deep.QuietTactic
namespace Go.Proofs.YtnbpkignkfabkaaGreatDoor
set_option linter.unusedVariables false
set_option linter.unusedSimpArgs false
open Go.RowKit Go.Maps
section
variable {w0 w w' : World} {sb db rb tb bb : Nat} {lb mb : Nat → Option Nat} {F G : Nat → Prop} {s z t : DS} {K : Nat → Prop} {n : Nat} {st su : Nat → Nat × Bool}
theorem Wx.readD (h : Wx w0 w sb db rb tb bb lb mb F G s z K n st su) (hd : DkS w' w0.heap.size db F s) (hu : Upd (fun i => i = db) w w') (hb : Below w0.heap.size w w') : Wx w0 w' sb db rb tb bb lb mb F G s z K n st su := by
  have hF : ∀ i, i = db → F i := fun i e => by rw [e]; exact h.d.dk.at_
  refine ⟨(hu.block _ h.slt (fun e => h.sf (hF _ e))).trans h.blk, hd, h.r.upd hu (fun i hi => h.fg i (hF i hi)), fun j b hj => ?_, fun j b hj => ?_, h.fg, h.fk, h.gk, h.sf, h.sg, h.sk, h.sl, h.lk.upd hu (fun i hi => h.fk i (hF i hi)), h.bel.trans hb⟩
  · obtain ⟨q1, q2, q3, q4, q5⟩ := h.lg j b hj
    exact ⟨q1.upd hu (fun e => q3 (hF _ e)), q2, q3, q4, q5⟩
  · obtain ⟨q1, q2, q3, q4, q5⟩ := h.mg j b hj
    exact ⟨q1.upd hu (fun e => q3 (hF _ e)), q2, q3, q4, q5⟩
end
set_option maxRecDepth 100000 in
theorem WalName_calls (lb db : Nat) (nm : List UInt8) (n : Nat) (off : Bool) (w : World) (h : Lg w lb db nm n off) : Calls Tryz.prog 32 #[.pointer (some ⟨lb, 0, none⟩)] w fun r w' => r = .returned (.string ⟨nm.toArray⟩) ∧ w = w' := by
  obtain ⟨c0, c1, c2, c3⟩ := h.cells
  clear h
  go_enter Tryz.func32, Tryz.ntmps32
  go_wp2
  go_ret
  exact ⟨rfl, rfl⟩
set_option maxRecDepth 100000 in
set_option maxHeartbeats 8000000 in
theorem same10_calls {w0 w : World} {sb db rb tb bb : Nat} {lb mb : Nat → Option Nat} {F G : Nat → Prop} {s : DS} {K : Nat → Prop} {st : Nat → Nat × Bool} (h : Wx w0 w sb db rb tb bb lb mb F G s s K 7 st st) (hr : Rest lb mb) :
    Calls Tryz.prog 11 #[.pointer (some ⟨sb, 0, none⟩)] w fun r w' => r = .returned (.bool true) ∧ ∃ F', Wx w0 w' sb db rb tb bb lb mb F' G s s K 7 st st := by
  have H := Lib.hid h; have RS := Lib.hid hr
  have LL : s.C.length ≤ 64 := h.d.dk.ok.len
  have BSH := Lib.hid (show ∀ p ∈ s.C, p.2.length ≤ 140737488355328 from fun p hp => by
    have h2 := h.d.dk.ok.byt p.1
    rw [bytC_mem h.d.dk.ok.so hp] at h2
    omega)
  have NX := Lib.hid (fun (wx : World) (hx : DkS wx w0.heap.size db F s) => (Files_s hx).mono (fun r w' hr => show ∃ a c, r = .returned (.slice a s.C.length c) ∧ FilB w' wx.heap.size a s.C ∧ DkS w' w0.heap.size db F s ∧ Upd (fun i => i = db) wx w' ∧ Below w0.heap.size wx w' from by
    obtain ⟨a, c, h1, _, h3, h4⟩ := hr
    exact ⟨a, c, h1, h3, h4⟩))
  have NY := Lib.hid (fun (wx : World) (hx : RfS wx w0.heap.size rb G s) => (Files9_calls hx).mono (fun r w' hr => show ∃ a c, r = .returned (.slice a s.C.length c) ∧ Fil w' a s.C ∧ Below wx.heap.size wx w' from by
    obtain ⟨v, M, h1, h2, h3, h4⟩ := hr
    obtain ⟨a, c, hv, -, hfl⟩ := h3.fil
    rw [h2] at hfl
    have hl : M.length = s.C.length := by rw [← h2]; simp [conF]
    rw [hl] at hv
    exact ⟨a, c, by rw [h1, hv], hfl, h4⟩))
  have OF := Lib.hid (fun (wx : World) (Fx : Nat → Prop) (hx : DkS wx w0.heap.size db Fx s) => hx.offq)
  have WF := Lib.hid (fun (wx : World) (Fx : Nat → Prop) (hx : DkS wx w0.heap.size db Fx s) => Writes_s hx)
  have CX := Lib.hid (fun (wx : World) (hx : RfS wx w0.heap.size rb G s) => show wx.cell? ⟨rb, 4, none⟩ = some (.bool s.off) ∧ wx.cell? ⟨rb, 5, none⟩ = some (.int .i64 (s.writes : Int)) from by
    obtain ⟨a, c, blk, _⟩ := hx.cells
    obtain ⟨_, _, _, _, q4, q5⟩ := rf_of blk
    exact ⟨q4, q5⟩)
  have EX := Lib.hid (fun (a1 a3 : Option Addr) (c1 c3 : Nat) (wx : World) (h1 : Fil wx a1 s.C) (h3 : Fil wx a3 s.C) => EqFiles_same s.C a1 a3 c1 c3 wx h1 h3 (by omega) BSH.out)
  clear h hr
  obtain ⟨o, ho⟩ : ∃ q, s.off = q := ⟨_, rfl⟩
  obtain ⟨nw, hnw⟩ : ∃ q, s.writes = q := ⟨_, rfl⟩
  obtain ⟨C, hC⟩ : ∃ q, s.C = q := ⟨_, rfl⟩
  rw [ho] at OF CX
  rw [hnw] at WF CX
  rw [hC] at NX NY LL BSH EX
  clear ho hnw hC
  have t1 : (o == o) = true := by simp
  have t2 : ((nw : Int) == (nw : Int)) = true := by simp
  go_enter Tryz.func11, Tryz.ntmps11
  go_wp2
  go_loopw [3] (fun v wr => ∃ j : Int, v = .int .i64 j ∧ (j = 0 ∨ j = 1 ∨ j = 2) ∧ Wx w0 wr sb db rb tb bb lb mb F G s s K 7 st st) (fun v _ => (2 - intOf v).toNat)
  case atStart => exact ⟨0, rfl, .inl rfl, H.out⟩
  case round =>
    obtain ⟨j, rfl, hj, hx⟩ := hrel
    have XR := Lib.hid hx
    obtain ⟨-, -, b2, b3, b4, b5, -, -⟩ := hx.cells
    clear hx
    rcases hj with rfl | rfl | rfl
    · have nc := names10_calls false
      simp only [kz10, kn10, if_true, if_false, Bool.false_eq_true] at nc
      have NC := Lib.hid nc
      clear nc
      cases hl : lb 0 with
      | none =>
        have b2' : wr.cell? ⟨sb, 2, none⟩ = some (.pointer none) := by rw [b2, hl]; rfl
        clear b2 b3 b4 b5 hl
        go_wp2_with fail
        go_quiet (fail)
        go_wp2
        go_roundw
        case rel => exact ⟨1, rfl, .inr (.inl rfl), XR.out.below (bel_drewN (Below.refl _ _) _)⟩
        case measure => simp [intOf]
      | some b =>
        obtain ⟨c, hc⟩ : ∃ c, mb 0 = some c := by
          cases hm : mb 0 with
          | none => rw [(RS.out.2 0).2 hm] at hl; cases hl
          | some c => exact ⟨c, rfl⟩
        have X8 := Lib.hid (XR.out.below (w' := wr.drew) (bel_drew (Below.refl _ _)))
        obtain ⟨-, -, e2, e3, e4, e5, -, -⟩ := X8.out.cells
        have v1 : wr.drew.cell? ⟨sb, 2, none⟩ = some (.pointer (some ⟨b, 0, none⟩)) := by rw [e2, hl]; rfl
        have v2 : wr.drew.cell? ⟨sb, 4, none⟩ = some (.pointer (some ⟨c, 0, none⟩)) := by rw [e4, hc]; rfl
        have v3 := (X8.out.mg 0 c hc).1.cells.2.2.1
        have SZ := Lib.hid (WalSize_calls b db (nm10 0) (st 0).1 (st 0).2 wr.drew (X8.out.lg 0 b hl).1)
        have NM := Lib.hid (WalName_calls b db (nm10 0) (st 0).1 (st 0).2 wr.drew (X8.out.lg 0 b hl).1)
        obtain ⟨nn, hnn⟩ : ∃ q, (st 0).1 = q := ⟨_, rfl⟩
        obtain ⟨ns, hns⟩ : ∃ q, nm10 0 = q := ⟨_, rfl⟩
        rw [hnn] at v3 SZ
        rw [hns] at NM NC
        have u1 : ((nn : Int) != (nn : Int)) = false := by simp
        have u2 : (ns != ns) = false := by simp
        clear b2 b3 b4 b5 e2 e3 e4 e5 hl hc hnn hns
        go_upto_region 4 with fail
        go_region_held3 (fun w' => w'.cell? ⟨sb, 2, none⟩ = some (.pointer (some ⟨b, 0, none⟩)) ∧ w'.cell? ⟨sb, 4, none⟩ = some (.pointer (some ⟨c, 0, none⟩)) ∧ w'.cell? ⟨c, 2, none⟩ = some (.int .i64 (nn : Int)))
          (first
            | go_keep)
          (first
            | (go_at_call 21; (with_reducible refine (NC.out _).mono ?_); rintro r wx ⟨rfl, rfl⟩)
            | (go_at_call 20; (with_reducible refine SZ.out.mono ?_); rintro r wx ⟨rfl, rfl⟩)
            | (go_at_call 32; (with_reducible refine NM.out.mono ?_); rintro r wx ⟨rfl, rfl⟩))
        all_goals
          go_wp2
          go_roundw
          case rel => exact ⟨1, rfl, .inr (.inl rfl), X8.out⟩
          case measure => simp [intOf]
    · have nc := names10_calls true
      simp only [kz10, kn10, if_true, if_false, Bool.false_eq_true] at nc
      have NC := Lib.hid nc
      clear nc
      cases hl : lb 1 with
      | none =>
        have b2' : wr.cell? ⟨sb, 3, none⟩ = some (.pointer none) := by rw [b3, hl]; rfl
        clear b2 b3 b4 b5 hl
        go_wp2_with fail
        go_quiet (fail)
        go_wp2
        go_roundw
        case rel => exact ⟨2, rfl, .inr (.inr rfl), XR.out.below (bel_drewN (Below.refl _ _) _)⟩
        case measure => simp [intOf]
      | some b =>
        obtain ⟨c, hc⟩ : ∃ c, mb 1 = some c := by
          cases hm : mb 1 with
          | none => rw [(RS.out.2 1).2 hm] at hl; cases hl
          | some c => exact ⟨c, rfl⟩
        have X8 := Lib.hid (XR.out.below (w' := wr.drew) (bel_drew (Below.refl _ _)))
        obtain ⟨-, -, e2, e3, e4, e5, -, -⟩ := X8.out.cells
        have v1 : wr.drew.cell? ⟨sb, 3, none⟩ = some (.pointer (some ⟨b, 0, none⟩)) := by rw [e3, hl]; rfl
        have v2 : wr.drew.cell? ⟨sb, 5, none⟩ = some (.pointer (some ⟨c, 0, none⟩)) := by rw [e5, hc]; rfl
        have v3 := (X8.out.mg 1 c hc).1.cells.2.2.1
        have SZ := Lib.hid (WalSize_calls b db (nm10 1) (st 1).1 (st 1).2 wr.drew (X8.out.lg 1 b hl).1)
        have NM := Lib.hid (WalName_calls b db (nm10 1) (st 1).1 (st 1).2 wr.drew (X8.out.lg 1 b hl).1)
        obtain ⟨nn, hnn⟩ : ∃ q, (st 1).1 = q := ⟨_, rfl⟩
        obtain ⟨ns, hns⟩ : ∃ q, nm10 1 = q := ⟨_, rfl⟩
        rw [hnn] at v3 SZ
        rw [hns] at NM NC
        have u1 : ((nn : Int) != (nn : Int)) = false := by simp
        have u2 : (ns != ns) = false := by simp
        clear b2 b3 b4 b5 e2 e3 e4 e5 hl hc hnn hns
        go_upto_region 4 with fail
        go_region_held3 (fun w' => w'.cell? ⟨sb, 3, none⟩ = some (.pointer (some ⟨b, 0, none⟩)) ∧ w'.cell? ⟨sb, 5, none⟩ = some (.pointer (some ⟨c, 0, none⟩)) ∧ w'.cell? ⟨c, 2, none⟩ = some (.int .i64 (nn : Int)))
          (first
            | go_keep)
          (first
            | (go_at_call 21; (with_reducible refine (NC.out _).mono ?_); rintro r wx ⟨rfl, rfl⟩)
            | (go_at_call 20; (with_reducible refine SZ.out.mono ?_); rintro r wx ⟨rfl, rfl⟩)
            | (go_at_call 32; (with_reducible refine NM.out.mono ?_); rintro r wx ⟨rfl, rfl⟩))
        all_goals
          go_wp2
          go_roundw
          case rel => exact ⟨2, rfl, .inr (.inr rfl), X8.out⟩
          case measure => simp [intOf]
    · clear b2 b3 b4 b5
      have X6 := Lib.hid (XR.out.below (w' := wr.drew) (bel_drew (Below.refl _ _)))
      obtain ⟨q0, q1, -, -, -, -, -, -⟩ := X6.out.cells
      obtain ⟨q4, q5⟩ := CX.out _ X6.out.r
      have R1 := Lib.hid (NX.out _ X6.out.d)
      have XA := Lib.hid (fun (wx : World) (hd : DkS wx w0.heap.size db F s) (hu : Upd (fun i => i = db) wr.drew wx) (hb : Below w0.heap.size wr.drew wx) => X6.out.readD hd hu hb)
      have FD := Lib.hid (show db < wr.drew.heap.size from (X6.out.d.fl _ X6.out.d.dk.at_).2)
      go_upto_region 6 with fail
      go_region_held3 (fun w' => w'.cell? ⟨sb, 0, none⟩ = some (.pointer (some ⟨db, 0, none⟩)) ∧ w'.cell? ⟨sb, 1, none⟩ = some (.pointer (some ⟨rb, 0, none⟩)) ∧ w'.cell? ⟨rb, 4, none⟩ = some (.bool o) ∧ w'.cell? ⟨rb, 5, none⟩ = some (.int .i64 (nw : Int)))
        (first
          | go_keep)
        (first
          | (go_at_call 34; (with_reducible refine R1.out.mono ?_); rintro r w1 ⟨a1, c1, rfl, o1, d1, u1, b1⟩; have X1 := Lib.hid (XA.out w1 d1 u1 b1); have O1 := Lib.hid o1; obtain ⟨q0, q1, -, -, -, -, -, -⟩ := X1.out.cells; obtain ⟨q4, q5⟩ := CX.out _ X1.out.r; have R2 := Lib.hid (NY.out _ X1.out.r); clear o1 d1 u1 b1)
          | (go_at_call 35; (with_reducible refine R2.out.mono ?_); rintro r w2 ⟨a3, c3, rfl, o3, b3⟩; have X2 := Lib.hid (X1.out.below b3); obtain ⟨q0, q1, -, -, -, -, -, -⟩ := X2.out.cells; obtain ⟨q4, q5⟩ := CX.out _ X2.out.r; have R3 := Lib.hid (EX.out a1 a3 c1 c3 w2 (O1.out.below b3).fil o3); clear o3 b3)
          | (go_at_call 33; (with_reducible refine R3.out.mono ?_); rintro r w3 ⟨rfl, b4⟩; have X3 := Lib.hid (X2.out.below b4); obtain ⟨q0, q1, -, -, -, -, -, -⟩ := X3.out.cells; obtain ⟨q4, q5⟩ := CX.out _ X3.out.r; have R4 := Lib.hid (WF.out _ _ X3.out.d); clear b4)
          | (go_at_call 36; (with_reducible refine R4.out.mono ?_); rintro r w4 ⟨rfl, s4⟩; obtain ⟨F4, x4, -⟩ := X3.out.stepD s4; have X4 := Lib.hid x4; obtain ⟨q0, q1, -, -, -, -, -, -⟩ := X4.out.cells; obtain ⟨q4, q5⟩ := CX.out _ X4.out.r; have R5 := Lib.hid (OF.out _ _ X4.out.d); clear s4 x4)
          | (go_at_call 37; (with_reducible refine R5.out.mono ?_); rintro r w5 ⟨rfl, s5⟩; obtain ⟨F5, x5, -⟩ := X4.out.stepD s5; have X5 := Lib.hid x5; obtain ⟨q0, q1, -, -, -, -, -, -⟩ := X5.out.cells; obtain ⟨q4, q5⟩ := CX.out _ X5.out.r; clear s5 x5))
      all_goals
        go_wp2
        go_ret
        exact ⟨by first | rfl | simp, F5, X5.out⟩
end Go.Proofs.YtnbpkignkfabkaaGreatDoor
