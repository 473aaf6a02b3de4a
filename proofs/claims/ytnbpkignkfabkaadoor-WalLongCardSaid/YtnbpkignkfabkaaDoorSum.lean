/- record.Sum answers the CRC-32 of its bytes, for any bytes. -/
import Derived.Test.YtnbpkignkfabkaaDoorBase
import Derived.Test.YtnbpkignkfabkaaDoorCrc
namespace Go.Proofs.YtnbpkignkfabkaaDoor
set_option linter.unusedVariables false
set_option linter.unusedSimpArgs false
open Go.RowKit
def u32 (x : BitVec 32) : Int := (x.toNat : Int)
theorem u32_lt (x : BitVec 32) : 0 ≤ u32 x ∧ u32 x < 4294967296 := by unfold u32; have := x.isLt; omega
theorem u32_inj {x y : BitVec 32} (h : u32 x = u32 y) : x = y := by unfold u32 at h; apply BitVec.eq_of_toNat_eq; omega
theorem u32_xor (x y : BitVec 32) : bits .xor .u32 (u32 x) (u32 y) = u32 (x ^^^ y) := by
  have e : ∀ z : BitVec 32, BitVec.ofInt 32 (u32 z) = z := by intro z; unfold u32; rw [BitVec.ofInt_natCast, BitVec.ofNat_toNat, BitVec.setWidth_eq]
  show IntKind.u32.wrap ((BitVec.ofInt 32 (u32 x) ^^^ BitVec.ofInt 32 (u32 y)).toNat : Int) = _
  rw [e, e, IntKind.wrap_u32]
  unfold u32
  have := (x ^^^ y).isLt
  omega
theorem u32_and15 (x : BitVec 32) : bits .and .u32 (u32 x) 15 = ((x.toNat % 16 : Nat) : Int) := by
  have e : BitVec.ofInt 32 (u32 x) = x := by unfold u32; rw [BitVec.ofInt_natCast, BitVec.ofNat_toNat, BitVec.setWidth_eq]
  show IntKind.u32.wrap ((BitVec.ofInt 32 (u32 x) &&& BitVec.ofInt 32 15).toNat : Int) = _
  rw [e, IntKind.wrap_u32, BitVec.toNat_and, show (BitVec.ofInt 32 15).toNat = 2 ^ 4 - 1 from rfl, Nat.and_two_pow_sub_one_eq_mod]
  omega
theorem u32_shr (x : BitVec 32) : u32 x / (16 : Int) = u32 (x >>> 4) := by
  unfold u32
  rw [BitVec.toNat_ushiftRight, Nat.shiftRight_eq_div_pow]
  omega
theorem u32_byte (c : UInt8) : (c.toNat : Int) % 4294967296 = u32 (Crc.b8 c) := by
  unfold u32 Crc.b8
  have := c.toNat_lt
  rw [BitVec.toNat_ofNat]
  omega
theorem u32_not (x : BitVec 32) : bits .xor .u32 IntKind.u32.max (u32 x) = u32 (~~~ x) := by
  have e : IntKind.u32.max = u32 (BitVec.allOnes 32) := by decide
  rw [e, u32_xor, BitVec.allOnes_xor]
theorem u32_xorb (x : BitVec 32) (c : UInt8) : bits .xor .u32 (u32 x) ((c.toNat : Nat) : Int) = u32 (x ^^^ Crc.b8 c) := by
  rw [← u32_xor, ← u32_byte]; congr 1; have := c.toNat_lt; omega
def tbl (i : Nat) : BitVec 32 := BitVec.ofNat 32 (Crc.part.getD i 0)
/-- The table stands where it was laid. -/
def Tab (w : World) : Prop := ∀ i, i < 16 → w.cell? ⟨0, i, none⟩ = some (.int .u32 (u32 (tbl i)))
theorem Tab.upd {S : Nat → Prop} {w w' : World} (h : Tab w) (hu : Upd S w w') (hs : ¬ S 0) : Tab w' := fun i hi => hu.cell' (h i hi) hs
theorem Tab.below {w w' : World} (h : Tab w) (hu : Below w.heap.size w w') : Tab w' := h.upd (Upd.ofBelow hu) (fun h => h)
theorem s4_tbl (s : BitVec 32) : s >>> 4 ^^^ tbl (s.toNat % 16) = Crc.s4 s := (Crc.s4_eq s).symm
theorem run_snoc (s : BitVec 32) (l : List UInt8) (i : Nat) (h : i < l.length) : Crc.run s (l.take (i + 1)) = Crc.s8 (Crc.run s (l.take i) ^^^ Crc.b8 l[i]) := by
  rw [List.take_succ_eq_append_getElem h, Crc.run_append]
  rfl

set_option maxRecDepth 100000 in
set_option maxHeartbeats 400000 in
theorem Sum_calls (a : Option Addr) (cap : Nat) (w : World) (xs : List UInt8) (hn : xs.length ≤ 140737488355328) (hc : Byt w a xs) (hp : Tab w) :
    Calls Tryd.prog 36 #[.slice a xs.length cap] w fun r w' => r = .returned (.int .u32 (u32 (Crc.sum xs))) ∧ w = w' := by
  have HP := Lib.hid hp; clear hp
  have HC := Lib.hid hc; clear hc
  go_enter Tryd.func36, Tryd.ntmps36
  go_wp2
  go_loop [3, 8] (fun s k => ∃ i : Nat, i ≤ xs.length ∧ k = .int .i64 i ∧ s = .int .u32 (u32 (Crc.run 0xffffffff#32 (xs.take i)))) (fun _ k => xs.length - (intOf k).toNat)
  case atStart => exact ⟨0, by omega, rfl, rfl⟩
  case round =>
    obtain ⟨i, hi, rfl, rfl⟩ := hrel
    by_cases hlt : i < xs.length
    · obtain ⟨b, o, rfl, h1⟩ := HC.out i hlt
      have rb := xs[i].toNat_lt
      obtain ⟨y, hy⟩ : ∃ y, Crc.run 0xffffffff#32 (xs.take i) ^^^ Crc.b8 xs[i] = y := ⟨_, rfl⟩
      obtain ⟨z, hz⟩ : ∃ z, Crc.s4 y = z := ⟨_, rfl⟩
      obtain ⟨v, hv⟩ : ∃ v, Crc.s4 z = v := ⟨_, rfl⟩
      have HV : Hid (Crc.run 0xffffffff#32 (xs.take (i + 1)) = v) := by show _ = _; rw [run_snoc _ _ _ hlt, hy, ← hv, ← hz]; rfl
      have e0 : bits .xor .u32 (u32 (Crc.run 0xffffffff#32 (xs.take i))) ((xs[i].toNat : Nat) : Int) = u32 y := by rw [u32_xorb, hy]
      have e1 := u32_and15 y
      have e3 : bits .xor .u32 (u32 y / 16) (u32 (tbl (y.toNat % 16))) = u32 z := by rw [u32_shr, u32_xor, ← hz, s4_tbl]
      have f1 := u32_and15 z
      have f3 : bits .xor .u32 (u32 z / 16) (u32 (tbl (z.toNat % 16))) = u32 v := by rw [u32_shr, u32_xor, ← hv, s4_tbl]
      have c1 := HP.out (y.toNat % 16) (Nat.mod_lt _ (by decide))
      have c2 := HP.out (z.toNat % 16) (Nat.mod_lt _ (by decide))
      have b1 : y.toNat % 16 < 16 := Nat.mod_lt _ (by decide)
      have b2 : z.toNat % 16 < 16 := Nat.mod_lt _ (by decide)
      clear hy hz hv
      go_wp2
      go_round
      case rel => exact ⟨i + 1, by omega, by go_num, by rw [HV.out]⟩
      case measure => simp [intOf]; omega
    · have e : xs.take i = xs := List.take_of_length_le (by omega)
      obtain ⟨y, hy⟩ : ∃ y, Crc.run 0xffffffff#32 (xs.take i) = y := ⟨_, rfl⟩
      obtain ⟨z, hz⟩ : ∃ z, ~~~ y = z := ⟨_, rfl⟩
      have HS : Hid (u32 (Crc.sum xs) = u32 z) := by show _ = _; rw [← hz, ← hy, e]; rfl
      have e1 : bits .xor .u32 IntKind.u32.max (u32 y) = u32 z := by rw [u32_not, hz]
      rw [hy]
      clear hy hz e
      go_wp2
      go_ret
      exact ⟨by rw [HS.out]; rfl, rfl⟩
end Go.Proofs.YtnbpkignkfabkaaDoor
