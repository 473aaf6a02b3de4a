/- posternlaw10: rows, size. -/
import Derived.Test.YtnbpkignkfabkaaGreatDoorWalH
import Derived.Deep.CutBlock
import Derived.Deep.DeepCutAuto
import Derived.BigQuiet
namespace Go.Proofs.YtnbpkignkfabkaaGreatDoor
set_option linter.unusedVariables false
set_option linter.unusedSimpArgs false
open Go.RowKit Go.Maps
theorem flen_ge : ∀ xs : List (List UInt8), xs.length ≤ flen xs
  | [] => Nat.le_refl _
  | x :: xs => by have := flen_ge xs; simp [flen] at this ⊢; omega
set_option maxRecDepth 100000 in
set_option maxHeartbeats 4000000 in
theorem rows10_calls (a b : Option Addr) (ca cb : Nat) (xs ys : List (List UInt8)) (Af Bf : Nat → Option Addr) (Cf Df : Nat → Nat) (w : World) (hx : Rd2 w a xs Af Cf) (hy : Rd2 w b ys Bf Df) (hl : xs.length ≤ 4611686018427387904) :
    Calls Tryz.prog 23 #[.slice a xs.length ca, .slice b ys.length cb] w fun r w' => r = .returned (.bool (decide (xs = ys))) ∧ Below w.heap.size w w' := by
  have HX := Lib.hid hx
  have HY := Lib.hid hy
  have HL := Lib.hid hl
  clear hx hy hl
  go_enter Tryz.func23, Tryz.ntmps23
  by_cases c0 : xs.length = ys.length
  · have t0 : ((xs.length : Int) == (ys.length : Int)) = true := beq_iff_eq.2 (by omega)
    have t0' : (xs.length == ys.length) = true := beq_iff_eq.2 c0
    go_wp2
    go_loopw [5] (fun vi wr => ∃ i : Nat, vi = .int .i64 i ∧ i ≤ xs.length ∧ xs.take i = ys.take i ∧ Below w.heap.size w wr) (fun vi _ => xs.length - (intOf vi).toNat)
    case atStart => exact ⟨0, rfl, Nat.zero_le _, rfl, Below.refl _ _⟩
    case round =>
      obtain ⟨i, rfl, hi, he, hb⟩ := hrel
      have B := Lib.hid hb; have E := Lib.hid he
      have R := Lib.hid (HX.out.below hb)
      have S := Lib.hid (HY.out.below hb)
      clear hb he
      by_cases c1 : i < xs.length
      · have t1 : decide ((i : Int) < (xs.length : Int)) = true := decide_eq_true (by omega)
        have t1' : decide (i < xs.length) = true := decide_eq_true c1
        have c2 : i < ys.length := by omega
        obtain ⟨ab, ao, rfl, hcell⟩ := R.out.cell i c1
        obtain ⟨bb, bo, rfl, hcell2⟩ := S.out.cell i c2
        have x1 : ∀ q, (convert 74 9 (.slice (Af i) xs[i].length (Cf i))).run Tryz.prog (wr.drewN q) = .ok (.string ⟨xs[i].toArray⟩) (wr.drewN q) := fun q => conv_bytes Tryz.underlying74 Tryz.underlying5 Tryz.underlying9 ((R.out.byt i c1).drewN q)
        have x2 : ∀ q, (convert 74 9 (.slice (Bf i) ys[i].length (Df i))).run Tryz.prog (wr.drewN q) = .ok (.string ⟨ys[i].toArray⟩) (wr.drewN q) := fun q => conv_bytes Tryz.underlying74 Tryz.underlying5 Tryz.underlying9 ((S.out.byt i c2).drewN q)
        have KX : Hid (xs.take (i + 1) = xs.take i ++ [xs[i]]) := List.take_succ_eq_append_getElem c1
        have KY : Hid (ys.take (i + 1) = ys.take i ++ [ys[i]]) := List.take_succ_eq_append_getElem c2
        have NE : Hid (xs[i] ≠ ys[i] → xs ≠ ys) := fun hn h => hn (by subst h; rfl)
        have i2 : (i : Int) < (ys.length : Int) := by omega
        obtain ⟨x, hx⟩ : ∃ x, xs[i] = x := ⟨_, rfl⟩
        obtain ⟨y, hy⟩ : ∃ y, ys[i] = y := ⟨_, rfl⟩
        rw [hx] at hcell x1 KX NE
        rw [hy] at hcell2 x2 KY NE
        clear hx hy
        go_wp2
        by_cases c3 : x = y
        · subst c3
          go_quiet (fail)
          clear x1 x2
          have hLL := HL.out
          go_wp2
          go_roundw
          case rel => exact ⟨i + 1, by go_num, by omega, by rw [KX.out, KY.out, E.out], bel_drewN B.out _⟩
          case measure => simp [intOf]; omega
        · have t3 : (x == y) = false := beq_eq_false_iff_ne.2 c3
          go_quiet (fail)
          clear x1 x2
          go_wp2
          go_ret
          exact ⟨by rw [decide_eq_false (NE.out c3)]; rfl, bel_drewN B.out _⟩
      · have t1 : decide ((i : Int) < (xs.length : Int)) = false := decide_eq_false (by omega)
        have t1' : decide (i < xs.length) = false := decide_eq_false c1
        have E2 := E.out
        rw [List.take_of_length_le (by omega), List.take_of_length_le (by omega)] at E2
        subst E2
        go_wp2
        go_ret
        exact ⟨by simp, B.out⟩
  · have t0 : ((xs.length : Int) == (ys.length : Int)) = false := beq_eq_false_iff_ne.2 (by omega)
    have t0' : (xs.length == ys.length) = false := beq_eq_false_iff_ne.2 c0
    have NE : xs ≠ ys := fun h => c0 (by rw [h])
    go_wp2
    go_ret
    exact ⟨by rw [decide_eq_false NE]; rfl, Below.refl _ _⟩
end Go.Proofs.YtnbpkignkfabkaaGreatDoor
