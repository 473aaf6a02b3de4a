/- The document's own answer for layer 3: numbers, sums, frames. -/
import Derived.Test.YtcmllfnhdodbdaaGreatDoorStep
import Derived.Deep.Draws
namespace Go.Proofs.YtcmllfnhdodbdaaGreatDoor
set_option linter.unusedVariables false
set_option linter.unusedSimpArgs false
open Go.RowKit
theorem own_vn {w : World} {base : Nat} {e : TypeId} {v : Value} {n : Nat} {xs : List UInt8} (h : Own w base e 1 v n (bys xs)) :
    ∃ a cap, v = .slice a n cap ∧ xs.length = n ∧ n ≤ cap ∧ Byt w a xs ∧ (∀ ad, a = some ad → ad = ⟨ad.block, 0, none⟩ ∧ base ≤ ad.block ∧ ad.block < w.heap.size) := by
  obtain ⟨a, cap, hv, hn, hc, hb, _, ha⟩ := own_val h
  subst hn
  exact ⟨a, cap, hv, rfl, hc, hb, ha⟩
theorem set_zero (j : Nat) (c : UInt8) (l : List UInt8) : (List.replicate (j + 1) 0 ++ l).set j c = List.replicate j 0 ++ c :: l := by
  rw [List.replicate_succ', List.append_assoc, List.set_append_right _ _ (by simp)]
  simp
theorem byte_mod (n : Nat) : IntKind.u8.wrap ((n : Int) % 256) = ((UInt8.ofNat n).toNat : Int) := by
  rw [wrap_u8, UInt8.toNat_ofNat']
  omega
theorem zeq (n : Nat) : (((n : Nat) : Int) == 0) = decide (n = 0) := by rw [Bool.eq_iff_iff]; simp
/-- A row that the call itself made, and whether. -/
def OwnB (w w' : World) (r : Ending) (l : List UInt8) (b : Bool) : Prop := ∃ v, r = .returned (.tuple #[v, .bool b]) ∧ Own w' w.heap.size 5 1 v l.length (bys l) ∧ Below w.heap.size w w'
def Own1 (w w' : World) (r : Ending) (l : List UInt8) : Prop := ∃ v, r = .returned v ∧ Own w' w.heap.size 5 1 v l.length (bys l) ∧ Below w.heap.size w w'
/-- The sum, bit by bit. -/
def s1n : Nat → BitVec 32 → BitVec 32
  | 0, x => x
  | k + 1, x => Crc.s1 (s1n k x)
theorem u32_half (x : BitVec 32) : u32 x / (2 : Int) = u32 (x >>> 1) := by
  unfold u32
  rw [BitVec.toNat_ushiftRight, Nat.shiftRight_eq_div_pow]
  norm_cast
theorem u32_low (x : BitVec 32) (b : Bool) (h : x.getLsbD 0 = b) : u32 x % 2 = if b then 1 else 0 := by
  unfold u32
  subst h
  have e : x.getLsbD 0 = decide (x.toNat % 2 = 1) := by simp [BitVec.getLsbD, Nat.testBit_zero]
  rw [e]
  by_cases h : x.toNat % 2 = 1
  · simp only [h, decide_true, if_true]; omega
  · simp only [h, decide_false]; simp; omega
def poly : BitVec 32 := 0xedb88320#32
theorem u32_poly (x : BitVec 32) : bits .xor .u32 (u32 x) 3988292384 = u32 (x ^^^ poly) := u32_xor x poly
theorem u32_notR (x : BitVec 32) : bits .xor .u32 (u32 x) 4294967295 = u32 (~~~ x) := by
  rw [show (4294967295 : Int) = u32 (0xffffffff#32) from rfl, u32_xor]
  congr 1
  rw [BitVec.xor_comm]
  exact BitVec.allOnes_xor
theorem hd_cons (n : Nat) : bys (hd n) = .int .u8 201 :: bys (be n 4) := rfl
/-- The same bytes? -/
def BoolN (w w' : World) (r : Ending) (b : Bool) : Prop := ∃ n, r = .returned (.bool b) ∧ w' = w.drewN n
set_option maxRecDepth 100000 in
set_option maxHeartbeats 1000000 in
theorem Eq_calls (a b : Option Addr) (c d : Nat) (x y : List UInt8) (w : World) (hx : Byt w a x) (hy : Byt w b y) (hn : x.length ≤ 140737488355328) :
    Calls Tryz.prog 57 #[.slice a x.length c, .slice b y.length d] w fun r w' => BoolN w w' r (decide (x = y)) := by
  have HX := Lib.hid hx; have HY := Lib.hid hy; clear hx hy
  by_cases hl : x.length = y.length
  · have t1 : ((x.length : Int) != (y.length : Int)) = false := by rw [hl]; simp
    have HL := Lib.hid hl; clear hl
    go_enter Tryz.func57, Tryz.ntmps57
    go_wp2
    clear t1
    go_loopw [5] (fun k wr => ∃ i : Nat, i ≤ x.length ∧ k = .int .i64 i ∧ x.take i = y.take i ∧ ∃ n, wr = w.drewN n) (fun k _ => x.length - (intOf k).toNat)
    case atStart => exact ⟨0, by omega, rfl, rfl, 0, rfl⟩
    case round =>
      obtain ⟨i, hi, rfl, hq, q, rfl⟩ := hrel
      have HQ := Lib.hid hq; clear hq
      by_cases hlt : i < x.length
      · have t1 : decide ((i : Int) < (x.length : Int)) = true := decide_eq_true (by omega)
        have t1' : decide (i < x.length) = true := decide_eq_true hlt
        have hlt2 : i < y.length := by have := HL.out; omega
        obtain ⟨b0, o0, rfl, _⟩ := HX.out i hlt
        obtain ⟨b1, o1, rfl, _⟩ := HY.out i hlt2
        have q0 := HX.out.at_ hlt
        have q1 := HY.out.at_ hlt2
        by_cases he : x[i] = y[i]
        · have t3 : (((x[i].toNat : Nat) : Int) != ((y[i].toNat : Nat) : Int)) = false := by rw [he]; simp
          have HE : Hid (x.take (i + 1) = y.take (i + 1)) := by show _ = _; rw [List.take_succ_eq_append_getElem hlt, List.take_succ_eq_append_getElem hlt2, HQ.out, he]
          clear he
          go_wp2_with fail
          go_quiet (fail)
          go_wp2
          go_roundw
          case rel => exact ⟨i + 1, by omega, by go_num, HE.out, _, rfl⟩
          case measure => simp [intOf]; omega
        · have t3 : (((x[i].toNat : Nat) : Int) != ((y[i].toNat : Nat) : Int)) = true := by
            rw [bne_iff_ne]
            intro h
            exact he (UInt8.toNat_inj.1 (by omega))
          have HE : Hid (decide (x = y) = false) := by show _ = _; exact decide_eq_false (fun h => he (by subst h; rfl))
          go_wp2_with fail
          go_quiet (fail)
          go_wp2
          go_ret
          exact ⟨_, by rw [HE.out]; rfl, World.drewN_drewN _ _ _⟩
      · have t1 : decide ((i : Int) < (x.length : Int)) = false := decide_eq_false (by omega)
        have t1' : decide (i < x.length) = false := decide_eq_false hlt
        have HE : Hid (decide (x = y) = true) := by
          show _ = _
          have h := HQ.out
          rw [List.take_of_length_le (by omega), List.take_of_length_le (by have := HL.out; omega)] at h
          exact decide_eq_true h
        go_wp2
        go_ret
        exact ⟨_, by rw [HE.out]; rfl, rfl⟩
  · have t1 : ((x.length : Int) != (y.length : Int)) = true := by rw [bne_iff_ne]; omega
    have HE : Hid (decide (x = y) = false) := by show _ = _; exact decide_eq_false (fun h => hl (by rw [h]))
    rw [HE.out]
    clear hl
    go_enter Tryz.func57, Tryz.ntmps57
    go_wp2
    go_ret
    exact ⟨0, rfl, rfl⟩
end Go.Proofs.YtcmllfnhdodbdaaGreatDoor
