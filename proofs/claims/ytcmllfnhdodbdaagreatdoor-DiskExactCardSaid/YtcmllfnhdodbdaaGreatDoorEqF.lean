/- posternref0.EqFile, EqFiles: of the same files. -/
import Derived.Test.YtcmllfnhdodbdaaGreatDoorFiles
import Derived.Test.YtcmllfnhdodbdaaGreatDoorRef3
import Derived.StillTailTactics
namespace Go.Proofs.YtcmllfnhdodbdaaGreatDoor
set_option linter.unusedVariables false
set_option linter.unusedSimpArgs false
open Go.RowKit Go.Maps
set_option maxRecDepth 100000 in
set_option maxHeartbeats 1000000 in
theorem EqFile_same (nm t : List UInt8) (a b : Option Addr) (c d : Nat) (w : World) (hx : Byt w a t) (hy : Byt w b t) (hn : t.length ≤ 140737488355328) :
    Calls Tryz.prog 37 #[.agg #[.string ⟨nm.toArray⟩, .slice a t.length c], .agg #[.string ⟨nm.toArray⟩, .slice b t.length d]] w fun r w' => r = .returned (.bool true) ∧ Below w.heap.size w w' := by
  obtain ⟨w2, hw2⟩ : ∃ q, (w.alloc (.cells #[.string ⟨nm.toArray⟩, .slice a t.length c] 71)).alloc (.cells #[.string ⟨nm.toArray⟩, .slice b t.length d] 71) = q := ⟨_, rfl⟩
  have B2 : Below w.heap.size w w2 := by rw [← hw2]; exact ((Below.refl _ _).alloc (Nat.le_refl _) _).alloc (by simp) _
  have EC := Lib.hid (Eq_calls a b c d t t w2 (hx.below B2) (hy.below B2) hn)
  have W2 := Lib.hid hw2; have BB := Lib.hid B2
  clear hx hy hw2 B2
  go_enter Tryz.func37, Tryz.ntmps37
  go_wp2_with fail
  rw [W2.out]
  refine EC.out.mono ?_
  rintro r w3 ⟨n, rfl, rfl⟩
  go_wp2
  go_ret
  exact ⟨by simp, bel_drewN BB.out n⟩
set_option maxRecDepth 100000 in
set_option maxHeartbeats 2000000 in
theorem EqFiles_same (C : Con) (a b : Option Addr) (c d : Nat) (w : World) (hx : Fil w a C) (hy : Fil w b C) (hl : C.length ≤ 140737488355328) (hn : ∀ p ∈ C, p.2.length ≤ 140737488355328) :
    Calls Tryz.prog 17 #[.slice a C.length c, .slice b C.length d] w fun r w' => r = .returned (.bool true) ∧ Below w.heap.size w w' := by
  have HX := Lib.hid hx; have HY := Lib.hid hy; have HN := Lib.hid hn
  have t0 : ((C.length : Int) != (C.length : Int)) = false := by simp
  clear hx hy hn
  go_enter Tryz.func17, Tryz.ntmps17
  go_wp2
  go_loopw [5] (fun vi wr => ∃ i : Nat, vi = .int .i64 i ∧ i ≤ C.length ∧ Below w.heap.size w wr) (fun vi _ => C.length - (intOf vi).toNat)
  case atStart => exact ⟨0, rfl, Nat.zero_le _, Below.refl _ _⟩
  case round =>
    obtain ⟨i, rfl, hi, hb⟩ := hrel
    have B := Lib.hid hb
    have X := Lib.hid (HX.out.below hb)
    have Y := Lib.hid (HY.out.below hb)
    clear hb
    by_cases c1 : i < C.length
    · have t1 : decide ((i : Int) < (C.length : Int)) = true := decide_eq_true (by omega)
      have t1' : decide (i < C.length) = true := decide_eq_true c1
      obtain ⟨b1, o1, p1, k1, rfl, h1, h2, h3, h4⟩ := X.out i c1
      obtain ⟨b2, o2, p2, k2, rfl, g1, g2, g3, g4⟩ := Y.out i c1
      have hlen := HN.out C[i] (List.getElem_mem c1)
      obtain ⟨nm, hnm⟩ : ∃ q, C[i].1 = q := ⟨_, rfl⟩
      obtain ⟨t, ht⟩ : ∃ q, C[i].2 = q := ⟨_, rfl⟩
      rw [hnm] at h1 g1
      rw [ht] at h2 h3 h4 g2 g3 g4 hlen
      have EC := Lib.hid (EqFile_same nm t p1 p2 k1 k2 wr.drew (h4.drewN 1) (g4.drewN 1) hlen)
      have i2 : (i : Int) < (C.length : Int) := by omega
      clear hnm ht h3 h4 g3 g4 t0
      go_wp2_with fail
      go_still_tail 8, (by kernel_rfl)
      go_wp2_with fail
      refine EC.out.mono ?_
      rintro r w5 ⟨rfl, b5⟩
      have B5 := Lib.hid (B.out.trans ((bel_undr b5).mono B.out.size))
      clear b5 EC h1 h2 g1 g2
      go_wp2
      go_roundw
      case rel => exact ⟨i + 1, by go_num, by omega, B5.out⟩
      case measure => simp [intOf]; omega
    · have t1 : decide ((i : Int) < (C.length : Int)) = false := decide_eq_false (by omega)
      have t1' : decide (i < C.length) = false := decide_eq_false c1
      go_wp2
      go_ret
      exact ⟨rfl, B.out⟩
end Go.Proofs.YtcmllfnhdodbdaaGreatDoor
