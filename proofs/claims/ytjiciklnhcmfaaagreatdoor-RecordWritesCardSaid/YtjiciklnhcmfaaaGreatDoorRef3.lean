/- The document's own answer for layer 3: numbers, sums, frames. -/
import Derived.Test.YtjiciklnhcmfaaaGreatDoorStep
import Derived.Deep.Draws
namespace Go.Proofs.YtjiciklnhcmfaaaGreatDoor
set_option linter.unusedVariables false
set_option linter.unusedSimpArgs false
open Go.RowKit
theorem own_vn {w : World} {base : Nat} {e : TypeId} {v : Value} {n : Nat} {xs : List UInt8} (h : Own w base e 1 v n (bys xs)) :
    ∃ a cap, v = .slice a n cap ∧ xs.length = n ∧ n ≤ cap ∧ Byt w a xs ∧ (∀ ad, a = some ad → ad = ⟨ad.block, 0, none⟩ ∧ base ≤ ad.block ∧ ad.block < w.heap.size) := by
  obtain ⟨a, cap, hv, hn, hc, hb, _, ha⟩ := own_val h
  subst hn
  exact ⟨a, cap, hv, rfl, hc, hb, ha⟩
theorem set_zero (j : Nat) (c : UInt8) (l : List UInt8) : (List.replicate (j + 1) 0 ++ l).set j c = List.replicate j 0 ++ c :: l := by
  rw [List.replicate_succ', List.append_assoc, List.set_append_right _ _ (by simp)]
  simp
theorem byte_mod (n : Nat) : IntKind.u8.wrap ((n : Int) % 256) = ((UInt8.ofNat n).toNat : Int) := by
  rw [wrap_u8, UInt8.toNat_ofNat']
  omega
theorem zeq (n : Nat) : (((n : Nat) : Int) == 0) = decide (n = 0) := by rw [Bool.eq_iff_iff]; simp
/-- A row that the call itself made, and whether. -/
def OwnB (w w' : World) (r : Ending) (l : List UInt8) (b : Bool) : Prop := ∃ v, r = .returned (.tuple #[v, .bool b]) ∧ Own w' w.heap.size 5 1 v l.length (bys l) ∧ Below w.heap.size w w'
def Own1 (w w' : World) (r : Ending) (l : List UInt8) : Prop := ∃ v, r = .returned v ∧ Own w' w.heap.size 5 1 v l.length (bys l) ∧ Below w.heap.size w w'
set_option maxRecDepth 100000 in
set_option maxHeartbeats 1000000 in
theorem Number_calls (n k : Nat) (w : World) (hk : k ≤ 8) (hn : n ≤ 18446744073709551615) :
    Calls Tryz.prog 39 #[.int .u64 n, .int .i64 k] w fun r w' => OwnB w w' r (be n k) (decide (n / 256 ^ k = 0)) := by
  go_enter Tryz.func39, Tryz.ntmps39
  go_wp2_with (at_make; refine wpList_makeBytes rfl (.tmp 8) (.tmp 8) 23 rfl 5 Tryz.underlying23 infoByte .i64 .i64 k rfl rfl (by omega) ?_)
  intro w1 ho hb hlt
  have O1 := Lib.hid ho; have B1 := Lib.hid hb; clear ho hb hlt
  go_wp2
  go_loopw [0, 7] (fun vn vi wr => ∃ m j : Nat, m + j = k ∧ vn = .int .u64 ((n / 256 ^ m : Nat) : Int) ∧ vi = .int .i64 ((j : Int) - 1) ∧ Own wr w.heap.size 5 1 (.slice (some ⟨w.heap.size, 0, none⟩) k k) k (bys (List.replicate j 0 ++ be n m)) ∧ Below w.heap.size w wr) (fun _ vi _ => (intOf vi + 1).toNat)
  case atStart => exact ⟨0, k, by omega, by simp, rfl, by simpa [be] using O1.out, B1.out⟩
  case round =>
    obtain ⟨m, j, hmj, rfl, rfl, ho, hb⟩ := hrel
    have OW := Lib.hid ho; have BW := Lib.hid hb; clear ho hb
    have MJ := Lib.hid hmj; clear hmj
    cases j with
    | zero =>
      have hmk : m = k := by have := MJ.out; omega
      have t1 : decide ((0 : Int) ≤ ((0 : Nat) : Int) - 1) = false := by decide
      subst hmk
      obtain ⟨N, hN⟩ : ∃ N, n / 256 ^ m = N := ⟨_, rfl⟩
      have HP : Hid (∀ v w', Own w' w.heap.size 5 1 v m (bys (be n m)) → Below w.heap.size w w' → OwnB w w' (.returned (.tuple #[v, .bool ((N : Int) == 0)])) (be n m) (decide (n / 256 ^ m = 0))) :=
        fun v w' h1 h2 => ⟨v, by rw [zeq, hN], by rw [be_length]; exact h1, h2⟩
      rw [hN]
      clear hN
      go_wp2
      go_ret2
      exact HP.out _ _ (by simpa using OW.out) BW.out
    | succ j =>
      have e0 : ((j + 1 : Nat) : Int) - 1 = (j : Int) := by omega
      rw [e0]
      clear e0
      have hjk : j < k := by have := MJ.out; omega
      have t1 : decide ((0 : Int) ≤ (j : Int)) = true := decide_eq_true (by omega)
      obtain ⟨N, hN⟩ : ∃ N, n / 256 ^ m = N := ⟨_, rfl⟩
      have Nle : N ≤ 18446744073709551615 := by have := Nat.div_le_self n (256 ^ m); omega
      have HN : Hid (n / 256 ^ (m + 1) = N / 256) := by show _ = _; rw [Nat.pow_succ, ← Nat.div_div_eq_div_mul, hN]
      have eb := byte_mod N
      obtain ⟨c, hc⟩ : ∃ c, UInt8.ofNat N = c := ⟨_, rfl⟩
      rw [hc] at eb
      have HB : Hid (be n (m + 1) = c :: be n m) := by show _ = _; rw [be, hN, hc]
      rw [hN]
      clear hN hc
      have cell := OW.out.cellAt j (by omega)
      have frz := OW.out.frozenAt j (by omega)
      rw [bys_get (show j < (List.replicate (j + 1) 0 ++ be n m).length by simp; omega)] at cell
      have i1 : (j : Int) < (k : Int) := by omega
      have OS := Lib.hid (OW.out.set j (.int .u8 (c.toNat : Int)))
      rw [bys_set, set_zero, ← HB.out] at OS
      have BS := Lib.hid (BW.out.setCell (p := ⟨w.heap.size, j, none⟩) (Nat.le_refl _) (.int .u8 (c.toNat : Int)))
      clear HB
      go_wp2
      go_roundw
      case rel => exact ⟨m + 1, j, by have := MJ.out; omega, by rw [HN.out]; go_num, rfl, OS.out, BS.out⟩
      case measure => simp [intOf]
/-- The sum, bit by bit. -/
def s1n : Nat → BitVec 32 → BitVec 32
  | 0, x => x
  | k + 1, x => Crc.s1 (s1n k x)
theorem u32_half (x : BitVec 32) : u32 x / (2 : Int) = u32 (x >>> 1) := by
  unfold u32
  rw [BitVec.toNat_ushiftRight, Nat.shiftRight_eq_div_pow]
  norm_cast
theorem u32_low (x : BitVec 32) (b : Bool) (h : x.getLsbD 0 = b) : u32 x % 2 = if b then 1 else 0 := by
  unfold u32
  subst h
  have e : x.getLsbD 0 = decide (x.toNat % 2 = 1) := by simp [BitVec.getLsbD, Nat.testBit_zero]
  rw [e]
  by_cases h : x.toNat % 2 = 1
  · simp only [h, decide_true, if_true]; omega
  · simp only [h, decide_false]; simp; omega
def poly : BitVec 32 := 0xedb88320#32
theorem u32_poly (x : BitVec 32) : bits .xor .u32 (u32 x) 3988292384 = u32 (x ^^^ poly) := u32_xor x poly
theorem u32_notR (x : BitVec 32) : bits .xor .u32 (u32 x) 4294967295 = u32 (~~~ x) := by
  rw [show (4294967295 : Int) = u32 (0xffffffff#32) from rfl, u32_xor]
  congr 1
  rw [BitVec.xor_comm]
  exact BitVec.allOnes_xor
theorem hd_cons (n : Nat) : bys (hd n) = .int .u8 201 :: bys (be n 4) := rfl
/-- The same bytes? -/
def BoolN (w w' : World) (r : Ending) (b : Bool) : Prop := ∃ n, r = .returned (.bool b) ∧ w' = w.drewN n
end Go.Proofs.YtjiciklnhcmfaaaGreatDoor
