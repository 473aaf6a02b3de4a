/- posternlaw9: goes, kept. -/
import Derived.Test.YtcmllfnhdodbdaaGreatDoorTells
import Derived.Test.YtcmllfnhdodbdaaGreatDoorLoadO
import Derived.Test.YtcmllfnhdodbdaaGreatDoorLoad
import Derived.Laws.Concat
import Derived.BigQuiet
namespace Go.Proofs.YtcmllfnhdodbdaaGreatDoor
set_option linter.unusedVariables false
set_option linter.unusedSimpArgs false
open Go.RowKit Go.Maps
/-- Files in rows that lie from Bd up to Be. -/
def FilZ (w : World) (Bd Be : Nat) (a : Option Addr) (C : Con) : Prop := ∃ M c, Fio w Bd (.slice a C.length c) M ∧ conF M = C ∧ (∀ k, (Value.slice a C.length c).ownBlock = some k → k < Be) ∧ ∀ f ∈ M, ∀ k, f.val.ownBlock = some k → k < Be
section
variable {w w' : World} {Bd Be : Nat} {a : Option Addr} {C : Con}
theorem FilB.z (h : FilB w Bd a C) : FilZ w Bd w.heap.size a C := by
  obtain ⟨M, c, hf, hM⟩ := h
  exact ⟨M, c, hf, hM, fun k hk => (hf.own.lt k hk).2, fun f hm k hk => ((hf.byt f hm).2.lt k hk).2⟩
theorem FilZ.b (h : FilZ w Bd Be a C) : FilB w Bd a C := by
  obtain ⟨M, c, hf, hM, _, _⟩ := h
  exact ⟨M, c, hf, hM⟩
theorem FilZ.upd {S : Nat → Prop} (h : FilZ w Bd Be a C) (hu : Upd S w w') (hs : ∀ k, S k → k < Bd ∨ Be ≤ k) : FilZ w' Bd Be a C := by
  obtain ⟨M, c, hf, hM, h1, h2⟩ := h
  refine ⟨M, c, ⟨hf.own.upd hu (fun k hk s => ?_), fun f hm => ⟨(hf.byt f hm).1, (hf.byt f hm).2.upd hu (fun k hk s => ?_)⟩, hf.sep, hf.pair⟩, hM, h1, h2⟩
  · have := h1 k hk; have := (hf.own.lt k hk).1; rcases hs k s with h | h <;> omega
  · have := h2 f hm k hk; have := ((hf.byt f hm).2.lt k hk).1; rcases hs k s with h | h <;> omega
theorem FilZ.below (h : FilZ w Bd Be a C) (hb : Below w.heap.size w w') : FilZ w' Bd Be a C := h.upd (Upd.ofBelow hb) (fun _ s => s.elim)
end
set_option maxRecDepth 100000 in
set_option maxHeartbeats 4000000 in
theorem kept9_calls (was whole now : Con) (pa pb pc : Option Addr) (ca cb cc : Nat) (d on n kp keep : Int) (nm tn b : List UInt8) (ba fa : Option Addr) (bc fc fn : Nat) (w : World) (hx : Fil w pa was) (hy : Fil w pb whole) (hz : Fil w pc now) (hlx : was.length ≤ 140737488355328) (hly : whole.length ≤ 140737488355328) (hlz : now.length ≤ 140737488355328)
    (hsx : ∀ p ∈ was, p.2.length ≤ 140737488355328) (hsy : ∀ p ∈ whole, p.2.length ≤ 140737488355328) (hb : b.length ≤ 140737488351232) (hbc : b.length ≤ bc) (hyb : Byt w ba b) (hm : KeptP was whole now d nm b keep) :
    Calls Tryz.prog 18 #[.slice pa was.length ca, .slice pb whole.length cb, .slice pc now.length cc, .agg #[.int .i64 d, .int .i64 on, .string ⟨nm.toArray⟩, .string ⟨tn.toArray⟩, .slice ba b.length bc, .int .i64 n, .int .i64 kp, .slice fa fn fc], .int .i64 keep] w fun r w' => r = .returned (.bool true) ∧ Below w.heap.size w w' := by
  obtain ⟨w0, hw0⟩ : ∃ q, w.alloc (.cells #[.int .i64 d, .int .i64 on, .string ⟨nm.toArray⟩, .string ⟨tn.toArray⟩, .slice ba b.length bc, .int .i64 n, .int .i64 kp, .slice fa fn fc] 36) = q := ⟨_, rfl⟩
  have b0 : Below w.heap.size w w0 := by rw [← hw0]; exact (Below.refl _ _).alloc (Nat.le_refl _) _
  have blk : w0.heap[w.heap.size]? = some (.cells #[.int .i64 d, .int .i64 on, .string ⟨nm.toArray⟩, .string ⟨tn.toArray⟩, .slice ba b.length bc, .int .i64 n, .int .i64 kp, .slice fa fn fc] 36 (0, 0)) := by rw [← hw0]; exact heap_alloc_new w _
  obtain ⟨q0, -, q2, -, q4, -, -, -⟩ := q9_of blk
  have X0 := Lib.hid (hx.below b0); have Y0 := Lib.hid (hy.below b0); have Z0 := Lib.hid (hz.below b0); have W0 := Lib.hid hw0; have B0 := Lib.hid b0; have YB := Lib.hid (hyb.below b0)
  have SX := Lib.hid hsx; have SY := Lib.hid hsy
  obtain ⟨k1, k2, k3⟩ := hm
  clear hx hy hz b0 blk hw0 hsx hsy hyb
  by_cases e1 : d = 1
  · subst e1
    obtain ⟨ho, hh, hbt⟩ := k3 rfl
    clear k1 k2 k3
    have F1 := Lib.hid (file9_calls was pa ca nm w0 X0.out hlx)
    have F2 := Lib.hid (file9_calls now pc cc nm w0 Z0.out hlz)
    unfold FileP at F1 F2
    obtain ⟨h1, e1⟩ : ∃ q, hasC was nm = q := ⟨_, rfl⟩
    obtain ⟨L, e2⟩ : ∃ q, bytC was nm = q := ⟨_, rfl⟩
    obtain ⟨h2, e3⟩ : ∃ q, hasC now nm = q := ⟨_, rfl⟩
    rw [e1, e2] at F1
    rw [e1, e3] at hh
    rw [e2] at hbt
    obtain ⟨kk, hkk, hkl⟩ : ∃ kk : Nat, max 0 (min keep (b.length : Int)) = kk ∧ kk ≤ b.length := ⟨(max 0 (min keep (b.length : Int))).toNat, by omega, by omega⟩
    obtain ⟨p, hp⟩ : ∃ p, keptB b keep = p := ⟨_, rfl⟩
    have hp2 : b.take kk = p := by rw [← hp]; unfold keptB; rw [hkk, Int.toNat_natCast]
    obtain rfl : kk = p.length := by rw [← hp2, List.length_take]; omega
    obtain ⟨q, hq⟩ : ∃ q, L ++ p = q := ⟨_, rfl⟩
    rw [hp, hq] at hbt
    rw [hbt, e3] at F2
    have OQ := Lib.hid (fun m : Nat => Calls.quiet_of (n := m) (others9_calls was now pa pc ca cc nm (w0.drewN m) (X0.out.below (bel_drewN (Below.refl _ _) m)) (Z0.out.below (bel_drewN (Below.refl _ _) m)) hlx hlz ho))
    have HH := Lib.hid hh; have HP2 := Lib.hid hp2; have HQ := Lib.hid hq; have HKK := Lib.hid hkk; have E2 := Lib.hid e2; have HBT := Lib.hid hbt
    clear ho hh hbt e1 e2 e3 hp hp2 hq hkk
    go_enter Tryz.func18, Tryz.ntmps18
    go_wp2_with fail
    rw [W0.out]
    refine F1.out.mono ?_
    rintro r w5 ⟨fa1, fc1, rfl, fb1, -, rfl⟩
    go_wp2_with fail
    refine F2.out.mono ?_
    rintro r w6 ⟨fa2, fc2, rfl, fb2, -, rfl⟩
    have FB1 := Lib.hid fb1; have FB2 := Lib.hid fb2
    clear fb1 fb2 F1 F2
    go_upto_if 43 with fail
    go_cut [15] (fun v wx => v = .int .i64 (max 0 keep) ∧ w0 = wx)
    case first =>
      by_cases c : keep < 0
      · have t2 : decide (keep < 0) = true := decide_eq_true c
        go_wp2
        go_meet
        case rel => exact ⟨congrArg (Value.int .i64) (by omega), rfl⟩
      · have t2 : decide (keep < 0) = false := decide_eq_false c
        go_wp2
        go_meet
        case rel => exact ⟨congrArg (Value.int .i64) (by omega), rfl⟩
    case rest =>
      obtain ⟨rfl, rfl⟩ := hcut
      obtain ⟨mk, hmk⟩ : ∃ mk, max 0 keep = mk := ⟨_, rfl⟩
      have MK := Lib.hid hmk
      rw [hmk]
      clear hmk
      go_upto_if 48 with fail
      go_cut [15] (fun v wx => v = .int .i64 (p.length : Nat) ∧ w0 = wx)
      case first =>
        by_cases c : (b.length : Int) < mk
        · have t2 : decide ((b.length : Int) < mk) = true := decide_eq_true c
          go_wp2
          go_meet
          case rel => exact ⟨congrArg (Value.int .i64) (by have h1 := MK.out; have h2 := HKK.out; omega), rfl⟩
        · have t2 : decide ((b.length : Int) < mk) = false := decide_eq_false c
          go_wp2
          go_meet
          case rel => exact ⟨congrArg (Value.int .i64) (by have h1 := MK.out; have h2 := HKK.out; omega), rfl⟩
      case rest =>
        obtain ⟨rfl, rfl⟩ := hcut
        have cv1 : ∀ k, (convert 33 9 (.slice fa2 q.length fc2)).run Tryz.prog (w0.drewN k) = .ok (.string ⟨q.toArray⟩) (w0.drewN k) := fun k => conv_bytes Tryz.underlying33 Tryz.underlying5 Tryz.underlying9 (FB2.out.drewN k)
        have cv2 : ∀ k, (convert 33 9 (.slice fa1 L.length fc1)).run Tryz.prog (w0.drewN k) = .ok (.string ⟨L.toArray⟩) (w0.drewN k) := fun k => conv_bytes Tryz.underlying33 Tryz.underlying5 Tryz.underlying9 (FB1.out.drewN k)
        have YP : Byt w0 ba p := by rw [← HP2.out]; exact YB.out.take _
        have cv3 : ∀ k, (convert 33 9 (.slice ba p.length bc)).run Tryz.prog (w0.drewN k) = .ok (.string ⟨p.toArray⟩) (w0.drewN k) := fun k => conv_bytes Tryz.underlying33 Tryz.underlying5 Tryz.underlying9 (YP.drewN k)
        have LL : L.length ≤ 140737488355328 := by
          rw [← E2.out]
          unfold bytC
          cases e9 : was.find? (fun p => p.1 == nm) with
          | none => exact Nat.zero_le _
          | some u => exact SX.out u (List.mem_of_find?_eq_some e9)
        have xa : ∀ k, (Op.stringOp .add ⟨L.toArray⟩ ⟨p.toArray⟩).run Tryz.prog (w0.drewN k) = .ok (.string ⟨q.toArray⟩) (w0.drewN k) := fun k => by
          rw [run_string_add_sum _ _ _ (by show L.toArray.size + p.toArray.size ≤ _; rw [List.size_toArray, List.size_toArray]; omega), ByteArray.mk_append_mk, HQ.out]
        have t5 : (q == q) = true := beq_self_eq_true q
        have j1 : (p.length : Int) ≤ (bc : Int) := by omega
        clear YP
        cases h1 with
        | true =>
          obtain rfl : h2 = true := HH.out.2 (.inl rfl)
          clear HH
          go_upto_region 12 with fail
          go_quiet ((go_at_call 21; exact OQ.out _))
          clear cv1 cv2 cv3 xa
          go_wp2
          go_ret
          exact ⟨by first | rfl | (simp; done) | (simp; rw [ByteArray.mk_append_mk, HQ.out]; simp), bel_drewN B0.out _⟩
        | false =>
          by_cases c : 0 < keep
          · have t2 : decide (0 < keep) = true := decide_eq_true c
            obtain rfl : h2 = true := HH.out.2 (.inr c)
            clear HH
            go_upto_region 12 with fail
            go_quiet ((go_at_call 21; exact OQ.out _))
            clear cv1 cv2 cv3 xa
            go_wp2
            go_ret
            exact ⟨by first | rfl | (simp; done) | (simp; rw [ByteArray.mk_append_mk, HQ.out]; simp), bel_drewN B0.out _⟩
          · have t2 : decide (0 < keep) = false := decide_eq_false c
            obtain rfl : h2 = false := by
              cases h2 with
              | false => rfl
              | true => rcases HH.out.1 rfl with h | h; cases h; exact absurd h c
            clear HH
            go_upto_region 12 with fail
            go_quiet ((go_at_call 21; exact OQ.out _))
            clear cv1 cv2 cv3 xa
            go_wp2
            go_ret
            exact ⟨by first | rfl | (simp; done) | (simp; rw [ByteArray.mk_append_mk, HQ.out]; simp), bel_drewN B0.out _⟩
  · have t1 : (d != 1) = true := bne_iff_ne.2 e1
    by_cases c : 0 < keep
    · have t2 : decide (0 < keep) = true := decide_eq_true c
      have e := k1 e1 c
      subst e
      have EC := Lib.hid (EqFiles_same now pc pb cc cb w0 Z0.out Y0.out hlz SY.out)
      clear k1 k2 k3
      go_enter Tryz.func18, Tryz.ntmps18
      go_wp2_with fail
      rw [W0.out]
      refine EC.out.mono ?_
      rintro r w5 ⟨rfl, b5⟩
      have B5 := Lib.hid (B0.out.trans (b5.mono B0.out.size))
      clear b5
      go_wp2
      go_ret
      exact ⟨rfl, B5.out⟩
    · have t2 : decide (0 < keep) = false := decide_eq_false c
      have e := k2 e1 c
      subst e
      have EC := Lib.hid (EqFiles_same now pc pa cc ca w0 Z0.out X0.out hlz SX.out)
      clear k1 k2 k3
      go_enter Tryz.func18, Tryz.ntmps18
      go_wp2_with fail
      rw [W0.out]
      refine EC.out.mono ?_
      rintro r w5 ⟨rfl, b5⟩
      have B5 := Lib.hid (B0.out.trans (b5.mono B0.out.size))
      clear b5
      go_wp2
      go_ret
      exact ⟨rfl, B5.out⟩
end Go.Proofs.YtcmllfnhdodbdaaGreatDoor
