/- The document's own answer for layer 3: numbers, sums, frames. -/
import Derived.Test.YtnbpkignkfabkaaGreatDoorStep
import Derived.Deep.Draws
namespace Go.Proofs.YtnbpkignkfabkaaGreatDoor
set_option linter.unusedVariables false
set_option linter.unusedSimpArgs false
open Go.RowKit
theorem own_vn {w : World} {base : Nat} {e : TypeId} {v : Value} {n : Nat} {xs : List UInt8} (h : Own w base e 1 v n (bys xs)) :
    ∃ a cap, v = .slice a n cap ∧ xs.length = n ∧ n ≤ cap ∧ Byt w a xs ∧ (∀ ad, a = some ad → ad = ⟨ad.block, 0, none⟩ ∧ base ≤ ad.block ∧ ad.block < w.heap.size) := by
  obtain ⟨a, cap, hv, hn, hc, hb, _, ha⟩ := own_val h
  subst hn
  exact ⟨a, cap, hv, rfl, hc, hb, ha⟩
theorem set_zero (j : Nat) (c : UInt8) (l : List UInt8) : (List.replicate (j + 1) 0 ++ l).set j c = List.replicate j 0 ++ c :: l := by
  rw [List.replicate_succ', List.append_assoc, List.set_append_right _ _ (by simp)]
  simp
theorem byte_mod (n : Nat) : IntKind.u8.wrap ((n : Int) % 256) = ((UInt8.ofNat n).toNat : Int) := by
  rw [wrap_u8, UInt8.toNat_ofNat']
  omega
theorem zeq (n : Nat) : (((n : Nat) : Int) == 0) = decide (n = 0) := by rw [Bool.eq_iff_iff]; simp
/-- A row that the call itself made, and whether. -/
def OwnB (w w' : World) (r : Ending) (l : List UInt8) (b : Bool) : Prop := ∃ v, r = .returned (.tuple #[v, .bool b]) ∧ Own w' w.heap.size 5 1 v l.length (bys l) ∧ Below w.heap.size w w'
def Own1 (w w' : World) (r : Ending) (l : List UInt8) : Prop := ∃ v, r = .returned v ∧ Own w' w.heap.size 5 1 v l.length (bys l) ∧ Below w.heap.size w w'
set_option maxRecDepth 100000 in
set_option maxHeartbeats 1000000 in
theorem Number_calls (n k : Nat) (w : World) (hk : k ≤ 8) (hn : n ≤ 18446744073709551615) :
    Calls Tryz.prog 166 #[.int .u64 n, .int .i64 k] w fun r w' => OwnB w w' r (be n k) (decide (n / 256 ^ k = 0)) := by
  go_enter Tryz.func166, Tryz.ntmps166
  go_wp2_with (at_make; refine wpList_makeBytes rfl (.tmp 8) (.tmp 8) 74 rfl 5 Tryz.underlying74 infoByte .i64 .i64 k rfl rfl (by omega) ?_)
  intro w1 ho hb hlt
  have O1 := Lib.hid ho; have B1 := Lib.hid hb; clear ho hb hlt
  go_wp2
  go_loopw [0, 7] (fun vn vi wr => ∃ m j : Nat, m + j = k ∧ vn = .int .u64 ((n / 256 ^ m : Nat) : Int) ∧ vi = .int .i64 ((j : Int) - 1) ∧ Own wr w.heap.size 5 1 (.slice (some ⟨w.heap.size, 0, none⟩) k k) k (bys (List.replicate j 0 ++ be n m)) ∧ Below w.heap.size w wr) (fun _ vi _ => (intOf vi + 1).toNat)
  case atStart => exact ⟨0, k, by omega, by simp, rfl, by simpa [be] using O1.out, B1.out⟩
  case round =>
    obtain ⟨m, j, hmj, rfl, rfl, ho, hb⟩ := hrel
    have OW := Lib.hid ho; have BW := Lib.hid hb; clear ho hb
    have MJ := Lib.hid hmj; clear hmj
    cases j with
    | zero =>
      have hmk : m = k := by have := MJ.out; omega
      have t1 : decide ((0 : Int) ≤ ((0 : Nat) : Int) - 1) = false := by decide
      subst hmk
      obtain ⟨N, hN⟩ : ∃ N, n / 256 ^ m = N := ⟨_, rfl⟩
      have HP : Hid (∀ v w', Own w' w.heap.size 5 1 v m (bys (be n m)) → Below w.heap.size w w' → OwnB w w' (.returned (.tuple #[v, .bool ((N : Int) == 0)])) (be n m) (decide (n / 256 ^ m = 0))) :=
        fun v w' h1 h2 => ⟨v, by rw [zeq, hN], by rw [be_length]; exact h1, h2⟩
      rw [hN]
      clear hN
      go_wp2
      go_ret2
      exact HP.out _ _ (by simpa using OW.out) BW.out
    | succ j =>
      have e0 : ((j + 1 : Nat) : Int) - 1 = (j : Int) := by omega
      rw [e0]
      clear e0
      have hjk : j < k := by have := MJ.out; omega
      have t1 : decide ((0 : Int) ≤ (j : Int)) = true := decide_eq_true (by omega)
      obtain ⟨N, hN⟩ : ∃ N, n / 256 ^ m = N := ⟨_, rfl⟩
      have Nle : N ≤ 18446744073709551615 := by have := Nat.div_le_self n (256 ^ m); omega
      have HN : Hid (n / 256 ^ (m + 1) = N / 256) := by show _ = _; rw [Nat.pow_succ, ← Nat.div_div_eq_div_mul, hN]
      have eb := byte_mod N
      obtain ⟨c, hc⟩ : ∃ c, UInt8.ofNat N = c := ⟨_, rfl⟩
      rw [hc] at eb
      have HB : Hid (be n (m + 1) = c :: be n m) := by show _ = _; rw [be, hN, hc]
      rw [hN]
      clear hN hc
      have cell := OW.out.cellAt j (by omega)
      have frz := OW.out.frozenAt j (by omega)
      rw [bys_get (show j < (List.replicate (j + 1) 0 ++ be n m).length by simp; omega)] at cell
      have i1 : (j : Int) < (k : Int) := by omega
      have OS := Lib.hid (OW.out.set j (.int .u8 (c.toNat : Int)))
      rw [bys_set, set_zero, ← HB.out] at OS
      have BS := Lib.hid (BW.out.setCell (p := ⟨w.heap.size, j, none⟩) (Nat.le_refl _) (.int .u8 (c.toNat : Int)))
      clear HB
      go_wp2
      go_roundw
      case rel => exact ⟨m + 1, j, by have := MJ.out; omega, by rw [HN.out]; go_num, rfl, OS.out, BS.out⟩
      case measure => simp [intOf]
set_option maxRecDepth 100000 in
set_option maxHeartbeats 1000000 in
theorem Of_calls (a : Option Addr) (cap : Nat) (t : List UInt8) (w : World) (ht : Byt w a t) (hs : t.length ≤ 7) :
    Calls Tryz.prog 165 #[.slice a t.length cap] w fun r w' => r = .returned (.int .u64 (ofBe t)) ∧ w = w' := by
  have HC := Lib.hid ht; clear ht
  go_enter Tryz.func165, Tryz.ntmps165
  go_wp2
  go_loop [3, 4] (fun s k => ∃ i : Nat, i ≤ t.length ∧ k = .int .i64 i ∧ s = .int .u64 (ofBe (t.take i))) (fun _ k => t.length - (intOf k).toNat)
  case atStart => exact ⟨0, by omega, rfl, rfl⟩
  case round =>
    obtain ⟨i, hi, rfl, rfl⟩ := hrel
    by_cases hlt : i < t.length
    · obtain ⟨b, o, rfl, h1⟩ := HC.out i hlt
      have hn : ofBe (t.take i) ≤ 72057594037927935 := by
        have h2 := ofBe_lt (t.take i)
        have h3 : (256 : Nat) ^ (t.take i).length ≤ 256 ^ 7 := Nat.pow_le_pow_right (by decide) (by rw [List.length_take]; omega)
        omega
      have HN : Hid (ofBe (t.take (i + 1)) = ofBe (t.take i) * 256 + t[i].toNat) := by show _ = _; rw [List.take_succ_eq_append_getElem hlt, ofBe_snoc]
      obtain ⟨n, hN⟩ : ∃ n, ofBe (t.take i) = n := ⟨_, rfl⟩
      rw [hN] at hn HN ⊢
      have rb := t[i].toNat_lt
      clear hN
      go_wp2
      go_round
      case rel => exact ⟨i + 1, by omega, by go_num, by rw [HN.out]; go_num⟩
      case measure => simp [intOf]; omega
    · have HS : Hid (ofBe t = ofBe (t.take i)) := by show _ = _; rw [List.take_of_length_le (by omega)]
      go_wp2
      go_ret
      exact ⟨by rw [HS.out]; rfl, rfl⟩
/-- The sum, bit by bit. -/
def s1n : Nat → BitVec 32 → BitVec 32
  | 0, x => x
  | k + 1, x => Crc.s1 (s1n k x)
theorem u32_half (x : BitVec 32) : u32 x / (2 : Int) = u32 (x >>> 1) := by
  unfold u32
  rw [BitVec.toNat_ushiftRight, Nat.shiftRight_eq_div_pow]
  norm_cast
theorem u32_low (x : BitVec 32) (b : Bool) (h : x.getLsbD 0 = b) : u32 x % 2 = if b then 1 else 0 := by
  unfold u32
  subst h
  have e : x.getLsbD 0 = decide (x.toNat % 2 = 1) := by simp [BitVec.getLsbD, Nat.testBit_zero]
  rw [e]
  by_cases h : x.toNat % 2 = 1
  · simp only [h, decide_true, if_true]; omega
  · simp only [h, decide_false]; simp; omega
def poly : BitVec 32 := 0xedb88320#32
theorem u32_poly (x : BitVec 32) : bits .xor .u32 (u32 x) 3988292384 = u32 (x ^^^ poly) := u32_xor x poly
theorem u32_notR (x : BitVec 32) : bits .xor .u32 (u32 x) 4294967295 = u32 (~~~ x) := by
  rw [show (4294967295 : Int) = u32 (0xffffffff#32) from rfl, u32_xor]
  congr 1
  rw [BitVec.xor_comm]
  exact BitVec.allOnes_xor
set_option maxRecDepth 100000 in
set_option maxHeartbeats 1000000 in
theorem RSum_calls (a : Option Addr) (cap : Nat) (w : World) (xs : List UInt8) (hn : xs.length ≤ 140737488355328) (hc : Byt w a xs) :
    Calls Tryz.prog 167 #[.slice a xs.length cap] w fun r w' => r = .returned (.int .u32 (sumN xs)) ∧ w = w' := by
  have HC := Lib.hid hc; clear hc
  go_enter Tryz.func167, Tryz.ntmps167
  go_wp2
  go_loop [3, 4] (fun s k => ∃ i : Nat, i ≤ xs.length ∧ k = .int .i64 i ∧ s = .int .u32 (u32 (Crc.run 0xffffffff#32 (xs.take i)))) (fun _ k => xs.length - (intOf k).toNat)
  case atStart => exact ⟨0, by omega, rfl, rfl⟩
  case round =>
    obtain ⟨i, hi, rfl, rfl⟩ := hrel
    by_cases hlt : i < xs.length
    · obtain ⟨b, o, rfl, h1⟩ := HC.out i hlt
      have rb := xs[i].toNat_lt
      obtain ⟨y, hy⟩ : ∃ y, Crc.run 0xffffffff#32 (xs.take i) ^^^ Crc.b8 xs[i] = y := ⟨_, rfl⟩
      have HV : Hid (Crc.run 0xffffffff#32 (xs.take (i + 1)) = s1n 8 y) := by show _ = _; rw [run_snoc _ _ _ hlt, hy]; rfl
      have e0 : bits .xor .u32 (u32 (Crc.run 0xffffffff#32 (xs.take i))) ((xs[i].toNat : Nat) : Int) = u32 y := by rw [u32_xorb, hy]
      clear hy
      go_wp2
      clear e0
      go_loop [3, 5] (fun s k => ∃ j : Nat, j ≤ 8 ∧ k = .int .i64 j ∧ s = .int .u32 (u32 (s1n j y))) (fun _ k => 8 - (intOf k).toNat)
      case atStart => exact ⟨0, by omega, rfl, rfl⟩
      case round =>
        obtain ⟨j, hj, rfl, rfl⟩ := hrel
        by_cases hj8 : j < 8
        · have t1 : decide ((j : Int) < 8) = true := decide_eq_true (by omega)
          have t1' : decide (j < 8) = true := decide_eq_true hj8
          have HZ : Hid (s1n (j + 1) y = Crc.s1 (s1n j y)) := rfl
          obtain ⟨z, hz⟩ : ∃ z, s1n j y = z := ⟨_, rfl⟩
          rw [hz] at HZ ⊢
          clear hz
          obtain ⟨bit, hb⟩ : ∃ b, z.getLsbD 0 = b := ⟨_, rfl⟩
          obtain ⟨z1, z2⟩ := u32_lt z
          have e1 := u32_low z bit hb
          have e2 := u32_half z
          have e3 := u32_poly (z >>> 1)
          have HB := Lib.hid hb; clear hb
          cases bit with
          | true =>
            simp only [if_true] at e1
            have HS : Hid (Crc.s1 z = z >>> 1 ^^^ poly) := by show _ = _; unfold Crc.s1; rw [HB.out]; rfl
            go_wp2
            go_round
            case rel => exact ⟨j + 1, by omega, by go_num, by rw [HZ.out, HS.out]⟩
            case measure => simp [intOf]; omega
          | false =>
            simp only [Bool.false_eq_true, if_false] at e1
            have HS : Hid (Crc.s1 z = z >>> 1) := by show _ = _; unfold Crc.s1; rw [HB.out]; rfl
            go_wp2
            go_round
            case rel => exact ⟨j + 1, by omega, by go_num, by rw [HZ.out, HS.out, u32_half]⟩
            case measure => simp [intOf]; omega
        · have t1 : decide ((j : Int) < 8) = false := decide_eq_false (by omega)
          have t1' : decide (j < 8) = false := decide_eq_false hj8
          obtain rfl : j = 8 := by omega
          go_wp2
          go_round
          case rel => exact ⟨i + 1, by omega, by go_num, by rw [HV.out]⟩
          case measure => simp [intOf]; omega
    · have e : xs.take i = xs := List.take_of_length_le (by omega)
      obtain ⟨y, hy⟩ : ∃ y, Crc.run 0xffffffff#32 (xs.take i) = y := ⟨_, rfl⟩
      obtain ⟨z, hz⟩ : ∃ z, ~~~ y = z := ⟨_, rfl⟩
      have HS : Hid (((sumN xs : Nat) : Int) = u32 z) := by show _ = _; rw [← hz, ← hy, e]; rfl
      have e1 : bits .xor .u32 (u32 y) 4294967295 = u32 z := by rw [u32_notR, hz]
      rw [hy]
      clear hy hz e
      go_wp2
      go_ret
      exact ⟨by rw [HS.out]; rfl, rfl⟩
set_option maxRecDepth 100000 in
set_option maxHeartbeats 1000000 in
theorem sum_calls (a : Option Addr) (cap : Nat) (w : World) (xs : List UInt8) (hn : xs.length ≤ 140737488355328) (hc : Byt w a xs) :
    Calls Tryz.prog 121 #[.slice a xs.length cap] w fun r w' => Own1 w w' r (be (sumN xs) 4) := by
  have HC := Lib.hid hc; clear hc
  have lt := sumN_lt xs
  go_enter Tryz.func121, Tryz.ntmps121
  go_wp2_with fail
  refine (RSum_calls a cap w xs hn HC.out).mono ?_
  rintro r w1 ⟨rfl, rfl⟩
  go_wp2_with fail
  refine (Number_calls (sumN xs) 4 _ (by decide) (by omega)).mono ?_
  rintro r w1 ⟨v, rfl, ho, hb⟩
  have O1 := Lib.hid ho; have B1 := Lib.hid hb; clear ho hb
  go_wp2
  go_ret
  exact ⟨_, rfl, O1.out, B1.out⟩
theorem hd_cons (n : Nat) : bys (hd n) = .int .u8 201 :: bys (be n 4) := rfl
set_option maxRecDepth 100000 in
set_option maxHeartbeats 1000000 in
theorem Head3_calls (n : Nat) (w : World) (hn : n ≤ 140737488355328) :
    Calls Tryz.prog 120 #[.int .i64 n] w fun r w' => Own1 w w' r (hd n ++ be (sumN (hd n)) 4) := by
  go_enter Tryz.func120, Tryz.ntmps120
  go_wp2_with fail
  refine (Number_calls n 4 _ (by decide) (by omega)).mono ?_
  rintro r w1 ⟨v, rfl, ho, hb⟩
  obtain ⟨a1, c1, rfl, _, _, hy, _⟩ := own_val ho
  rw [be_length]
  have Y1 := Lib.hid hy; have B1 := Lib.hid hb; clear ho hb hy
  have M1 : Hid (1 + 4 ≤ maxLen) := by show _ ≤ _; unfold maxLen; omega
  have M2 : Hid ((1 + 4) * 1 ≤ 140737488355328) := by show _ ≤ _; omega
  have Y2 : Hid (∀ o, Byt (w1.alloc o) a1 (be n 4)) := fun o => Y1.out.upd ((Upd.refl (fun _ => False) w1).alloc o) (fun _ _ _ h => h)
  have O1 : Hid (Own (w1.alloc (.cells #[.int .u8 201] 5)) w.heap.size 5 1 (.slice (some ⟨w1.heap.size, 0, none⟩) 1 1) 1 [.int .u8 201]) :=
    ⟨rfl, .inr ⟨w1.heap.size, 1, #[.int .u8 201], (0, 0), rfl, B1.out.size, heap_alloc_new _ _, NoFr.zero _, Nat.le_refl _, by unfold maxLen; omega, rfl, rfl⟩⟩
  have S1 : Hid (w.heap.size ≤ (w1.alloc (.cells #[.int .u8 201] 5)).heap.size) := by show _ ≤ _; have := B1.out.size; simp; omega
  go_wp2_with (at_builtin; refine wpList_append rfl (.tmp 12) (.tmp 13) 74 74 rfl w.heap.size 5 (.int .u8 0) 1 1 Tryz.underlying74 infoByte rfl (v := .slice (some ⟨w1.heap.size, 0, none⟩) 1 1) (n := 1) (xs := [.int .u8 201]) O1.out rfl (xv := .slice a1 4 c1) (m := 4) (news := bys (be n 4)) (by have h := Src_byt Tryz.underlying74 (Y2.out (.cells #[.int .u8 201] 5)) (c := c1) (fun _ => .inr trivial); rw [be_length] at h; exact h) rfl M1.out M2.out S1.out ?_)
  intro v2 w2 ho hg _ _
  rw [← hd_cons] at ho
  have B2 := Lib.hid (((B1.out.alloc B1.out.size _).grown hg (Nat.le_trans B1.out.size (by simp)) (fun k hk => by cases hk; exact B1.out.size)))
  obtain ⟨a2, c2, rfl, _, _, hy2, _⟩ := own_vn ho
  have O2 := Lib.hid ho
  have YY := Lib.hid hy2
  clear ho hg hy2
  go_wp2_with fail
  have SC := sum_calls a2 c2 w2 (hd n) (by rw [hd_length]; omega) YY.out
  rw [hd_length] at SC
  refine SC.mono ?_
  clear SC
  rintro r w3 ⟨v3, rfl, ho3, hb3⟩
  rw [be_length] at ho3
  obtain ⟨a3, c3, rfl, _, _, hy3, _⟩ := own_vn ho3
  have Y3 := Lib.hid hy3
  have O3 := Lib.hid (O2.out.below hb3)
  have B3 := Lib.hid (B2.out.trans (hb3.mono B2.out.size))
  clear ho3 hb3 hy3
  have M3 : Hid (5 + 4 ≤ maxLen) := by show _ ≤ _; unfold maxLen; omega
  have M4 : Hid ((5 + 4) * 1 ≤ 140737488355328) := by show _ ≤ _; omega
  have S3 : Hid (w.heap.size ≤ w3.heap.size) := B3.out.size
  go_wp2_with (at_builtin; refine wpList_append rfl (.tmp 15) (.tmp 17) 74 74 rfl w.heap.size 5 (.int .u8 0) 1 1 Tryz.underlying74 infoByte rfl (n := 5) (xs := bys (hd n)) O3.out rfl (xv := .slice a3 4 c3) (m := 4) (news := bys (be (sumN (hd n)) 4)) (by have h := Src_byt Tryz.underlying74 Y3.out (c := c3) (fun _ => .inr trivial); rw [be_length] at h; exact h) rfl M3.out M4.out S3.out ?_)
  intro v4 w4 ho hg _ _
  have B4 := Lib.hid (B3.out.grown hg B3.out.size (fun k hk => (O3.out.lt k hk).1))
  rw [← bys_append] at ho
  have O4 := Lib.hid ho
  clear ho hg
  go_wp2
  go_ret
  exact ⟨_, rfl, by rw [List.length_append, hd_length, be_length]; exact O4.out, B4.out⟩
set_option maxRecDepth 100000 in
set_option maxHeartbeats 1000000 in
theorem Frame3_calls (w : World) (b : List UInt8) (a : Option Addr) (cap : Nat) (h : Byt w a b) (hs : b.length ≤ 140737488351232) :
    Calls Tryz.prog 60 #[.slice a b.length cap] w fun r w' => OwnErr w w' r (FrameR b) := by
  have HC := Lib.hid h; clear h
  by_cases hl : b.length ≤ 16777216
  · rw [show FrameR b = (frm b, 0) from if_pos hl]
    have t1 : decide ((16777216 : Int) < (b.length : Int)) = false := decide_eq_false (by omega)
    have t2 : decide (16777216 < b.length) = false := decide_eq_false (by omega)
    go_enter Tryz.func60, Tryz.ntmps60
    go_wp2_with fail
    refine (Head3_calls b.length w (by omega)).mono ?_
    rintro r w1 ⟨v1, rfl, ho1, hb1⟩
    obtain ⟨l1, hl1⟩ : ∃ l, hd b.length ++ be (sumN (hd b.length)) 4 = l := ⟨_, rfl⟩
    have n1 : l1.length = 9 := by rw [← hl1, List.length_append, hd_length, be_length]
    rw [hl1, n1] at ho1
    have L1 := Lib.hid hl1; clear hl1 n1
    obtain ⟨a1, c1, rfl, _, _, _, _⟩ := own_vn ho1
    have O1 := Lib.hid ho1; have B1 := Lib.hid hb1; clear ho1 hb1
    have Y1 := Lib.hid (HC.out.below B1.out)
    have M1 : Hid (9 + b.length ≤ maxLen) := by show _ ≤ _; unfold maxLen; omega
    have M2 : Hid ((9 + b.length) * 1 ≤ 140737488355328) := by show _ ≤ _; omega
    go_wp2_with (at_builtin; refine wpList_append rfl (.tmp 9) (.tmp 10) 74 74 rfl w.heap.size 5 (.int .u8 0) 1 1 Tryz.underlying74 infoByte rfl (n := 9) (xs := bys l1) O1.out rfl (xv := .slice a b.length cap) (m := b.length) (news := bys b) (Src_byt Tryz.underlying74 Y1.out (fun _ => .inr trivial)) rfl M1.out M2.out B1.out.size ?_)
    intro v2 w2 ho hg _ _
    have B2 := Lib.hid (B1.out.grown hg B1.out.size (fun k hk => (O1.out.lt k hk).1))
    rw [← bys_append] at ho
    obtain ⟨a2, c2, rfl, _, _, _, _⟩ := own_vn ho
    have O2 := Lib.hid ho
    clear ho hg
    go_wp2_with fail
    refine (sum_calls a cap w2 b (by omega) (HC.out.below B2.out)).mono ?_
    rintro r w3 ⟨v3, rfl, ho3, hb3⟩
    rw [be_length] at ho3
    obtain ⟨a3, c3, rfl, _, _, hy3, _⟩ := own_vn ho3
    have Y3 := Lib.hid hy3
    have O3 := Lib.hid (O2.out.below hb3)
    have B3 := Lib.hid (B2.out.trans (hb3.mono B2.out.size))
    clear ho3 hb3 hy3
    have M3 : Hid (9 + b.length + 4 ≤ maxLen) := by show _ ≤ _; unfold maxLen; omega
    have M4 : Hid ((9 + b.length + 4) * 1 ≤ 140737488355328) := by show _ ≤ _; omega
    go_wp2_with (at_builtin; refine wpList_append rfl (.tmp 11) (.tmp 13) 74 74 rfl w.heap.size 5 (.int .u8 0) 1 1 Tryz.underlying74 infoByte rfl (n := 9 + b.length) (xs := bys (l1 ++ b)) O3.out rfl (xv := .slice a3 4 c3) (m := 4) (news := bys (be (sumN b) 4)) (by have h := Src_byt Tryz.underlying74 Y3.out (c := c3) (fun _ => .inr trivial); rw [be_length] at h; exact h) rfl M3.out M4.out B3.out.size ?_)
    intro v4 w4 ho hg _ _
    have B4 := Lib.hid (B3.out.grown hg B3.out.size (fun k hk => (O3.out.lt k hk).1))
    rw [← bys_append] at ho
    have O4 : Hid (Own w4 w.heap.size 5 1 v4 (frm b).length (bys (frm b))) := by
      have h := ho
      rw [← L1.out] at h
      rw [frm_length, show b.length + 13 = 9 + b.length + 4 by omega]
      exact h
    clear ho hg
    go_wp2
    go_ret2
    exact ⟨_, rfl, O4.out, B4.out⟩
  · rw [show FrameR b = ([], 31) from if_neg hl]
    have t1 : decide ((16777216 : Int) < (b.length : Int)) = true := decide_eq_true (by omega)
    have t2 : decide (16777216 < b.length) = true := decide_eq_true (by omega)
    go_enter Tryz.func60, Tryz.ntmps60
    go_wp2
    go_ret2
    exact ⟨_, rfl, Own.nil _ _ _ _, Below.refl _ _⟩
/-- The same bytes? -/
def BoolN (w w' : World) (r : Ending) (b : Bool) : Prop := ∃ n, r = .returned (.bool b) ∧ w' = w.drewN n
set_option maxRecDepth 100000 in
set_option maxHeartbeats 1000000 in
theorem Eq_calls (a b : Option Addr) (c d : Nat) (x y : List UInt8) (w : World) (hx : Byt w a x) (hy : Byt w b y) (hn : x.length ≤ 140737488355328) :
    Calls Tryz.prog 124 #[.slice a x.length c, .slice b y.length d] w fun r w' => BoolN w w' r (decide (x = y)) := by
  have HX := Lib.hid hx; have HY := Lib.hid hy; clear hx hy
  by_cases hl : x.length = y.length
  · have t1 : ((x.length : Int) != (y.length : Int)) = false := by rw [hl]; simp
    have HL := Lib.hid hl; clear hl
    go_enter Tryz.func124, Tryz.ntmps124
    go_wp2
    clear t1
    go_loopw [5] (fun k wr => ∃ i : Nat, i ≤ x.length ∧ k = .int .i64 i ∧ x.take i = y.take i ∧ ∃ n, wr = w.drewN n) (fun k _ => x.length - (intOf k).toNat)
    case atStart => exact ⟨0, by omega, rfl, rfl, 0, rfl⟩
    case round =>
      obtain ⟨i, hi, rfl, hq, q, rfl⟩ := hrel
      have HQ := Lib.hid hq; clear hq
      by_cases hlt : i < x.length
      · have t1 : decide ((i : Int) < (x.length : Int)) = true := decide_eq_true (by omega)
        have t1' : decide (i < x.length) = true := decide_eq_true hlt
        have hlt2 : i < y.length := by have := HL.out; omega
        obtain ⟨b0, o0, rfl, _⟩ := HX.out i hlt
        obtain ⟨b1, o1, rfl, _⟩ := HY.out i hlt2
        have q0 := HX.out.at_ hlt
        have q1 := HY.out.at_ hlt2
        by_cases he : x[i] = y[i]
        · have t3 : (((x[i].toNat : Nat) : Int) != ((y[i].toNat : Nat) : Int)) = false := by rw [he]; simp
          have HE : Hid (x.take (i + 1) = y.take (i + 1)) := by show _ = _; rw [List.take_succ_eq_append_getElem hlt, List.take_succ_eq_append_getElem hlt2, HQ.out, he]
          clear he
          go_wp2_with fail
          go_quiet (fail)
          go_wp2
          go_roundw
          case rel => exact ⟨i + 1, by omega, by go_num, HE.out, _, rfl⟩
          case measure => simp [intOf]; omega
        · have t3 : (((x[i].toNat : Nat) : Int) != ((y[i].toNat : Nat) : Int)) = true := by
            rw [bne_iff_ne]
            intro h
            exact he (UInt8.toNat_inj.1 (by omega))
          have HE : Hid (decide (x = y) = false) := by show _ = _; exact decide_eq_false (fun h => he (by subst h; rfl))
          go_wp2_with fail
          go_quiet (fail)
          go_wp2
          go_ret
          exact ⟨_, by rw [HE.out]; rfl, World.drewN_drewN _ _ _⟩
      · have t1 : decide ((i : Int) < (x.length : Int)) = false := decide_eq_false (by omega)
        have t1' : decide (i < x.length) = false := decide_eq_false hlt
        have HE : Hid (decide (x = y) = true) := by
          show _ = _
          have h := HQ.out
          rw [List.take_of_length_le (by omega), List.take_of_length_le (by have := HL.out; omega)] at h
          exact decide_eq_true h
        go_wp2
        go_ret
        exact ⟨_, by rw [HE.out]; rfl, rfl⟩
  · have t1 : ((x.length : Int) != (y.length : Int)) = true := by rw [bne_iff_ne]; omega
    have HE : Hid (decide (x = y) = false) := by show _ = _; exact decide_eq_false (fun h => hl (by rw [h]))
    rw [HE.out]
    clear hl
    go_enter Tryz.func124, Tryz.ntmps124
    go_wp2
    go_ret
    exact ⟨0, rfl, rfl⟩
end Go.Proofs.YtnbpkignkfabkaaGreatDoor
