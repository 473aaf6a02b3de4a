/- record.Sum answers the CRC-32 of its bytes, for any bytes. -/
import Derived.Test.YtcmllfnhdodbdaaDoorBase
import Derived.Test.YtcmllfnhdodbdaaDoorCrc
namespace Go.Proofs.YtcmllfnhdodbdaaDoor
set_option linter.unusedVariables false
set_option linter.unusedSimpArgs false
open Go.RowKit
def u32 (x : BitVec 32) : Int := (x.toNat : Int)
theorem u32_lt (x : BitVec 32) : 0 ≤ u32 x ∧ u32 x < 4294967296 := by unfold u32; have := x.isLt; omega
theorem u32_inj {x y : BitVec 32} (h : u32 x = u32 y) : x = y := by unfold u32 at h; apply BitVec.eq_of_toNat_eq; omega
theorem u32_xor (x y : BitVec 32) : bits .xor .u32 (u32 x) (u32 y) = u32 (x ^^^ y) := by
  have e : ∀ z : BitVec 32, BitVec.ofInt 32 (u32 z) = z := by intro z; unfold u32; rw [BitVec.ofInt_natCast, BitVec.ofNat_toNat, BitVec.setWidth_eq]
  show IntKind.u32.wrap ((BitVec.ofInt 32 (u32 x) ^^^ BitVec.ofInt 32 (u32 y)).toNat : Int) = _
  rw [e, e, IntKind.wrap_u32]
  unfold u32
  have := (x ^^^ y).isLt
  omega
theorem u32_and15 (x : BitVec 32) : bits .and .u32 (u32 x) 15 = ((x.toNat % 16 : Nat) : Int) := by
  have e : BitVec.ofInt 32 (u32 x) = x := by unfold u32; rw [BitVec.ofInt_natCast, BitVec.ofNat_toNat, BitVec.setWidth_eq]
  show IntKind.u32.wrap ((BitVec.ofInt 32 (u32 x) &&& BitVec.ofInt 32 15).toNat : Int) = _
  rw [e, IntKind.wrap_u32, BitVec.toNat_and, show (BitVec.ofInt 32 15).toNat = 2 ^ 4 - 1 from rfl, Nat.and_two_pow_sub_one_eq_mod]
  omega
theorem u32_shr (x : BitVec 32) : u32 x / (16 : Int) = u32 (x >>> 4) := by
  unfold u32
  rw [BitVec.toNat_ushiftRight, Nat.shiftRight_eq_div_pow]
  omega
theorem u32_byte (c : UInt8) : (c.toNat : Int) % 4294967296 = u32 (Crc.b8 c) := by
  unfold u32 Crc.b8
  have := c.toNat_lt
  rw [BitVec.toNat_ofNat]
  omega
theorem u32_not (x : BitVec 32) : bits .xor .u32 IntKind.u32.max (u32 x) = u32 (~~~ x) := by
  have e : IntKind.u32.max = u32 (BitVec.allOnes 32) := by decide
  rw [e, u32_xor, BitVec.allOnes_xor]
theorem u32_xorb (x : BitVec 32) (c : UInt8) : bits .xor .u32 (u32 x) ((c.toNat : Nat) : Int) = u32 (x ^^^ Crc.b8 c) := by
  rw [← u32_xor, ← u32_byte]; congr 1; have := c.toNat_lt; omega
def tbl (i : Nat) : BitVec 32 := BitVec.ofNat 32 (Crc.part.getD i 0)
theorem s4_tbl (s : BitVec 32) : s >>> 4 ^^^ tbl (s.toNat % 16) = Crc.s4 s := (Crc.s4_eq s).symm
theorem run_snoc (s : BitVec 32) (l : List UInt8) (i : Nat) (h : i < l.length) : Crc.run s (l.take (i + 1)) = Crc.s8 (Crc.run s (l.take i) ^^^ Crc.b8 l[i]) := by
  rw [List.take_succ_eq_append_getElem h, Crc.run_append]
  rfl

end Go.Proofs.YtcmllfnhdodbdaaDoor
