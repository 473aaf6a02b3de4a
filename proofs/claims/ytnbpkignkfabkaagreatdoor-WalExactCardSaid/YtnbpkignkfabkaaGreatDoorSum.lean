/- record.Sum answers the CRC-32 of its bytes, for any bytes. -/
import Derived.Test.YtnbpkignkfabkaaGreatDoorBase
/- CRC-32 as a plain function on lists of bytes: it is linear, and tells any change of four bytes next to each other. -/
namespace Go.Proofs.YtnbpkignkfabkaaGreatDoor.Crc
set_option linter.unusedVariables false
set_option linter.unusedSimpArgs false
/-- One bit. -/
def s1 (s : BitVec 32) : BitVec 32 := if s.getLsbD 0 then (s >>> 1) ^^^ 0xedb88320#32 else s >>> 1
def s8 (s : BitVec 32) : BitVec 32 := s1 (s1 (s1 (s1 (s1 (s1 (s1 (s1 s)))))))
def s4 (s : BitVec 32) : BitVec 32 := s1 (s1 (s1 (s1 s)))

theorem xor_left_comm (a b c : BitVec 32) : a ^^^ (b ^^^ c) = b ^^^ (a ^^^ c) := by
  rw [← BitVec.xor_assoc, BitVec.xor_comm a b, BitVec.xor_assoc]

theorem s1_xor (a b : BitVec 32) : s1 (a ^^^ b) = s1 a ^^^ s1 b := by
  unfold s1
  rw [BitVec.getLsbD_xor, BitVec.ushiftRight_xor_distrib]
  cases a.getLsbD 0 <;> cases b.getLsbD 0
  · simp
  · simp [BitVec.xor_assoc]
  · simp [BitVec.xor_assoc, BitVec.xor_comm, xor_left_comm]
  · simp only [Bool.xor_self, if_true, if_false, Bool.false_eq_true]
    rw [BitVec.xor_assoc, xor_left_comm 0xedb88320#32, BitVec.xor_self, BitVec.xor_zero]

theorem s1_zero : s1 0 = 0 := by decide
theorem s1_eq_zero {a : BitVec 32} (h : s1 a = 0) : a = 0 := by
  unfold s1 at h
  split at h
  · exfalso
    have := congrArg (fun x => x.getLsbD 31) h
    simp at this
  · rename_i h0
    apply BitVec.eq_of_getLsbD_eq
    intro i hi
    match i with
    | 0 => simpa using h0
    | i + 1 =>
      have := congrArg (fun x => x.getLsbD i) h
      simpa [Nat.add_comm] using this
theorem s8_xor (a b : BitVec 32) : s8 (a ^^^ b) = s8 a ^^^ s8 b := by simp only [s8, s1_xor]
theorem s8_eq_zero {a : BitVec 32} (h : s8 a = 0) : a = 0 := by
  unfold s8 at h
  exact s1_eq_zero (s1_eq_zero (s1_eq_zero (s1_eq_zero (s1_eq_zero (s1_eq_zero (s1_eq_zero (s1_eq_zero h)))))))
theorem s8_zero : s8 0 = 0 := by decide
theorem s1_even (x : BitVec 32) (h : x.getLsbD 0 = false) : s1 x = x >>> 1 := by
  unfold s1; rw [if_neg (by rw [h]; simp)]
theorem s4_high (x : BitVec 32) (h : ∀ i, i < 4 → x.getLsbD i = false) : s4 x = x >>> 4 := by
  have g : ∀ k i, k + i < 4 → (x >>> k).getLsbD i = false := fun k i hk => by rw [BitVec.getLsbD_ushiftRight]; exact h _ hk
  unfold s4
  rw [s1_even x (h 0 (by decide)), s1_even (x >>> 1) (g 1 0 (by decide)), ← BitVec.shiftRight_add, s1_even (x >>> 2) (g 2 0 (by decide)), ← BitVec.shiftRight_add, s1_even (x >>> 3) (g 3 0 (by decide)), ← BitVec.shiftRight_add]
/-- four bits at once, by the table -/
def part : List Nat := [0x00000000, 0x1db71064, 0x3b6e20c8, 0x26d930ac, 0x76dc4190, 0x6b6b51f4, 0x4db26158, 0x5005713c,
  0xedb88320, 0xf00f9344, 0xd6d6a3e8, 0xcb61b38c, 0x9b64c2b0, 0x86d3d2d4, 0xa00ae278, 0xbdbdf21c]
theorem s4_low : ∀ n : Fin 16, s4 (BitVec.ofNat 32 n.val) = BitVec.ofNat 32 (part.getD n.val 0) := by decide +kernel
theorem split4 (s : BitVec 32) : s = ((s >>> 4) <<< 4) ^^^ BitVec.ofNat 32 (s.toNat % 16) := by
  apply BitVec.eq_of_getLsbD_eq
  intro i hi
  rw [BitVec.getLsbD_xor, BitVec.getLsbD_shiftLeft, BitVec.getLsbD_ushiftRight, BitVec.getLsbD_ofNat, show (16 : Nat) = 2 ^ 4 from rfl, Nat.testBit_mod_two_pow]
  by_cases h : i < 4
  · simp [h, hi, BitVec.getLsbD]
  · simp [h, hi, show 4 + (i - 4) = i by omega]
theorem s4_xor (a b : BitVec 32) : s4 (a ^^^ b) = s4 a ^^^ s4 b := by simp only [s4, s1_xor]
theorem s4_eq (s : BitVec 32) : s4 s = (s >>> 4) ^^^ BitVec.ofNat 32 (part.getD (s.toNat % 16) 0) := by
  have h := congrArg s4 (split4 s)
  rw [h, s4_xor, s4_high _ (fun i hi => by rw [BitVec.getLsbD_shiftLeft]; simp [hi]), s4_low ⟨s.toNat % 16, by omega⟩]
  congr 1
  apply BitVec.eq_of_getLsbD_eq
  intro i hi
  simp only [BitVec.getLsbD_ushiftRight, BitVec.getLsbD_shiftLeft]
  by_cases h : 4 + i < 32
  · simp [h]
  · have : s.getLsbD (4 + i) = false := BitVec.getLsbD_of_ge _ _ (by omega)
    simp [this, h]
/-- The sum's state behind some bytes. -/
def run (s : BitVec 32) : List UInt8 → BitVec 32
  | [] => s
  | c :: l => run (s8 (s ^^^ BitVec.ofNat 32 c.toNat)) l
def sum (l : List UInt8) : BitVec 32 := ~~~ (run (0xffffffff#32) l)
theorem run_append (s : BitVec 32) (a b : List UInt8) : run s (a ++ b) = run (run s a) b := by
  induction a generalizing s with
  | nil => rfl
  | cons c a ih => exact ih _
theorem ofNat_xor8 (a b : UInt8) : BitVec.ofNat 32 (a ^^^ b).toNat = BitVec.ofNat 32 a.toNat ^^^ BitVec.ofNat 32 b.toNat := by
  rw [UInt8.toNat_xor, BitVec.ofNat_xor]
def zx (l m : List UInt8) : List UInt8 := List.zipWith (· ^^^ ·) l m
theorem run_xor (a b : List UInt8) (h : a.length = b.length) (s t : BitVec 32) : run (s ^^^ t) (zx a b) = run s a ^^^ run t b := by
  induction a generalizing b s t with
  | nil => match b, h with | [], _ => rfl
  | cons c a ih =>
    match b, h with
    | d :: b, h =>
      show run (s8 ((s ^^^ t) ^^^ BitVec.ofNat 32 (c ^^^ d).toNat)) (zx a b) = run (s8 (s ^^^ _)) a ^^^ run (s8 (t ^^^ _)) b
      rw [← ih b (by simpa using h), ← s8_xor, ofNat_xor8]
      congr 2
      simp only [BitVec.xor_assoc, xor_left_comm]
theorem run_zeros (n : Nat) (s : BitVec 32) : run s (List.replicate n 0) = 0 → s = 0 := by
  induction n generalizing s with
  | zero => exact id
  | succ n ih =>
    intro h
    rw [List.replicate_succ] at h
    have := s8_eq_zero (ih _ h)
    simpa using this
theorem run_zeros0 (n : Nat) : run 0 (List.replicate n 0) = 0 := by
  induction n with
  | zero => rfl
  | succ n ih => rw [List.replicate_succ]; show run (s8 (0 ^^^ BitVec.ofNat 32 0)) _ = 0; rw [show (0 : BitVec 32) ^^^ BitVec.ofNat 32 0 = 0 from rfl, s8_zero]; exact ih
/-- no bit from k on -/
def Lt (x : BitVec 32) (k : Nat) : Prop := ∀ i, k ≤ i → x.getLsbD i = false
theorem s1_back (x : BitVec 32) (h : Lt x 31) : s1 (x <<< 1) = x := by
  rw [s1_even _ (by simp)]
  apply BitVec.eq_of_getLsbD_eq
  intro i hi
  rw [BitVec.getLsbD_ushiftRight, BitVec.getLsbD_shiftLeft]
  by_cases e : i = 31
  · subst e; rw [h 31 (by decide)]; simp
  · simp; omega
theorem lt_shl {x : BitVec 32} {k n : Nat} (h : Lt x k) : Lt (x <<< n) (k + n) := by
  intro i hi
  rw [BitVec.getLsbD_shiftLeft, h (i - n) (by omega)]
  simp
theorem lt_mono {x : BitVec 32} {k n : Nat} (h : Lt x k) (hk : k ≤ n) : Lt x n := fun i hi => h i (by omega)
theorem lt_xor {x y : BitVec 32} {k : Nat} (h : Lt x k) (h' : Lt y k) : Lt (x ^^^ y) k := fun i hi => by rw [BitVec.getLsbD_xor, h i hi, h' i hi]; rfl
theorem s8_back (x : BitVec 32) (h : Lt x 24) : s8 (x <<< 8) = x := by
  have e : x <<< 8 = (((((((x <<< 1) <<< 1) <<< 1) <<< 1) <<< 1) <<< 1) <<< 1) <<< 1 := by simp only [← BitVec.shiftLeft_add]
  have m : ∀ n, n ≤ 7 → Lt (x <<< n) 31 := fun n hn => lt_mono (lt_shl h) (by omega)
  rw [e]
  unfold s8
  simp only [← BitVec.shiftLeft_add]
  rw [BitVec.shiftLeft_add x 7 1, s1_back _ (m 7 (by decide)), BitVec.shiftLeft_add x 6 1, s1_back _ (m 6 (by decide)), BitVec.shiftLeft_add x 5 1, s1_back _ (m 5 (by decide)),
    BitVec.shiftLeft_add x 4 1, s1_back _ (m 4 (by decide)), BitVec.shiftLeft_add x 3 1, s1_back _ (m 3 (by decide)), BitVec.shiftLeft_add x 2 1, s1_back _ (m 2 (by decide)),
    BitVec.shiftLeft_add x 1 1, s1_back _ (m 1 (by decide)), s1_back x (lt_mono h (by decide))]
theorem xor_eq_zero {a b : BitVec 32} (h : a ^^^ b = 0) : a = b := by
  have := congrArg (· ^^^ b) h
  simpa [BitVec.xor_assoc] using this
theorem s8_peel {x y : BitVec 32} (hy : Lt y 24) (h : s8 x = y) : x = y <<< 8 := by
  apply xor_eq_zero
  apply s8_eq_zero
  rw [s8_xor, s8_back y hy, h, BitVec.xor_self]; rfl
theorem low_high {a y : BitVec 32} (ha : Lt a 8) (hy : Lt y 24) (h : a = y <<< 8) : a = 0 ∧ y = 0 := by
  have hb : ∀ i, a.getLsbD (i + 8) = y.getLsbD i := by
    intro i
    rw [h, BitVec.getLsbD_shiftLeft]
    by_cases hi : i + 8 < 32
    · simp [hi]
    · simp [hi, hy i (by omega)]
  have y0 : y = 0 := by
    apply BitVec.eq_of_getLsbD_eq
    intro i _
    rw [← hb i, ha (i + 8) (by omega)]; simp
  subst y0
  exact ⟨by simpa using h, rfl⟩
def b8 (c : UInt8) : BitVec 32 := BitVec.ofNat 32 c.toNat
theorem lt_b8 (c : UInt8) : Lt (b8 c) 8 := by
  intro i hi
  unfold b8
  rw [BitVec.getLsbD_ofNat]
  have : c.toNat.testBit i = false := Nat.testBit_lt_two_pow (Nat.lt_of_lt_of_le c.toNat_lt (Nat.pow_le_pow_right (n := 2) (by decide) hi))
  simp [this]
theorem b8_zero {c : UInt8} (h : b8 c = 0) : c = 0 := by
  have := congrArg BitVec.toNat h
  simp [b8] at this
  have hl := c.toNat_lt
  apply UInt8.toNat_inj.1
  show c.toNat = 0
  omega
theorem run_four (a b c d : UInt8) (h : run 0 [a, b, c, d] = 0) : a = 0 ∧ b = 0 ∧ c = 0 ∧ d = 0 := by
  have h1 : s8 (s8 (s8 (s8 (0 ^^^ b8 a) ^^^ b8 b) ^^^ b8 c) ^^^ b8 d) = 0 := h
  rw [show (0 : BitVec 32) ^^^ b8 a = b8 a from BitVec.zero_xor] at h1
  have h2 := xor_eq_zero (s8_eq_zero h1)
  have h3 := s8_peel (lt_mono (lt_b8 d) (by decide)) h2
  have hd : Lt (b8 d <<< 8) 16 := lt_shl (lt_b8 d)
  have h4 : s8 (s8 (b8 a) ^^^ b8 b) = b8 c ^^^ b8 d <<< 8 := by
    apply xor_eq_zero; rw [← BitVec.xor_assoc, h3, BitVec.xor_self]; rfl
  have hc : Lt (b8 c ^^^ b8 d <<< 8) 16 := lt_xor (lt_mono (lt_b8 c) (by decide)) hd
  have h5 := s8_peel (lt_mono hc (by decide)) h4
  have h6 : s8 (b8 a) = b8 b ^^^ (b8 c ^^^ b8 d <<< 8) <<< 8 := by
    apply xor_eq_zero; rw [← BitVec.xor_assoc, h5, BitVec.xor_self]; rfl
  have hb : Lt (b8 b ^^^ (b8 c ^^^ b8 d <<< 8) <<< 8) 24 := lt_xor (lt_mono (lt_b8 b) (by decide)) (lt_shl hc)
  obtain ⟨ha, e1⟩ := low_high (lt_b8 a) hb (s8_peel hb h6)
  obtain ⟨hb', e2⟩ := low_high (lt_b8 b) (lt_mono hc (by decide)) (xor_eq_zero e1)
  obtain ⟨hc', e3⟩ := low_high (lt_b8 c) (lt_mono (lt_b8 d) (by decide)) (xor_eq_zero e2)
  exact ⟨b8_zero ha, b8_zero hb', b8_zero hc', b8_zero e3⟩
theorem run_burst (ds : List UInt8) (hn : ds.length ≤ 4) (h : run 0 ds = 0) : ∀ x ∈ ds, x = 0 := by
  have h4 : run 0 (ds ++ List.replicate (4 - ds.length) 0) = 0 := by rw [run_append, h, run_zeros0]
  match ds, hn with
  | [], _ => simp
  | [a], _ => have := run_four a 0 0 0 h4; simp [this.1]
  | [a, b], _ => have := run_four a b 0 0 h4; simp [this.1, this.2.1]
  | [a, b, c], _ => have := run_four a b c 0 h4; simp [this.1, this.2.1, this.2.2.1]
  | [a, b, c, d], _ => have := run_four a b c d h4; simp [this.1, this.2.1, this.2.2.1, this.2.2.2]
theorem run_mid (p q : Nat) (ds : List UInt8) (hn : ds.length ≤ 4) (h : run 0 (List.replicate p 0 ++ ds ++ List.replicate q 0) = 0) : ∀ x ∈ ds, x = 0 := by
  rw [run_append, run_append, run_zeros0] at h
  exact run_burst ds hn (run_zeros q _ h)
/-- two rows that differ in at most four bytes next to each other -/
theorem sum_burst (pre a b post : List UInt8) (hl : a.length = b.length) (hn : a.length ≤ 4) (h : sum (pre ++ a ++ post) = sum (pre ++ b ++ post)) : a = b := by
  have h1 : run 0xffffffff#32 (pre ++ a ++ post) = run 0xffffffff#32 (pre ++ b ++ post) := by
    have := congrArg (~~~ ·) h
    simpa [sum] using this
  simp only [run_append] at h1
  have key : ∀ (l : List UInt8) (s t : BitVec 32), run s l = run t l → s = t := by
    intro l
    induction l with
    | nil => intro s t h; exact h
    | cons c l ih =>
      intro s t h
      have := ih _ _ h
      have e : s8 ((s ^^^ BitVec.ofNat 32 c.toNat) ^^^ (t ^^^ BitVec.ofNat 32 c.toNat)) = 0 := by rw [s8_xor, this, BitVec.xor_self]; rfl
      have e2 := xor_eq_zero (s8_eq_zero e)
      have e3 := congrArg (· ^^^ BitVec.ofNat 32 c.toNat) e2
      simpa [BitVec.xor_assoc] using e3
  have h2 := key _ _ _ h1
  have h3 := run_xor a b hl (run 0xffffffff#32 pre) (run 0xffffffff#32 pre)
  rw [h2, BitVec.xor_self, BitVec.xor_self] at h3
  have h4 := run_burst (zx a b) (by simp [zx]; omega) h3
  clear h1 h2 h3 h hn
  induction a generalizing b with
  | nil => match b, hl with | [], _ => rfl
  | cons c a ih =>
    match b, hl with
    | d :: b, hl =>
      have hc : c ^^^ d = 0 := h4 _ (by simp [zx])
      have : c = d := by
        have := congrArg (· ^^^ d) hc
        simpa [UInt8.xor_assoc] using this
      rw [this, ih b (by simpa using hl) (fun x hx => h4 x (by simp only [zx, List.zipWith_cons_cons, List.mem_cons]; exact .inr hx))]
theorem sum_xor3 (a b c : List UInt8) (h : a.length = b.length) (h' : b.length = c.length) : sum (zx (zx a b) c) = sum a ^^^ sum b ^^^ sum c := by
  have e := run_xor (zx a b) c (by simp [zx]; omega) (0xffffffff#32 ^^^ 0xffffffff#32) 0xffffffff#32
  rw [run_xor a b h] at e
  have e0 : (0xffffffff#32 ^^^ 0xffffffff#32) ^^^ 0xffffffff#32 = 0xffffffff#32 := by decide
  rw [e0] at e
  unfold sum
  rw [e]
  apply BitVec.eq_of_getLsbD_eq
  intro i hi
  simp only [BitVec.getLsbD_xor, BitVec.getLsbD_not, hi, decide_true, Bool.true_and]
  cases BitVec.getLsbD (run _ a) i <;> cases BitVec.getLsbD (run _ b) i <;> cases BitVec.getLsbD (run _ c) i <;> rfl
end Go.Proofs.YtnbpkignkfabkaaGreatDoor.Crc
namespace Go.Proofs.YtnbpkignkfabkaaGreatDoor
set_option linter.unusedVariables false
set_option linter.unusedSimpArgs false
open Go.RowKit
def u32 (x : BitVec 32) : Int := (x.toNat : Int)
theorem u32_lt (x : BitVec 32) : 0 ≤ u32 x ∧ u32 x < 4294967296 := by unfold u32; have := x.isLt; omega
theorem u32_inj {x y : BitVec 32} (h : u32 x = u32 y) : x = y := by unfold u32 at h; apply BitVec.eq_of_toNat_eq; omega
theorem u32_xor (x y : BitVec 32) : bits .xor .u32 (u32 x) (u32 y) = u32 (x ^^^ y) := by
  have e : ∀ z : BitVec 32, BitVec.ofInt 32 (u32 z) = z := by intro z; unfold u32; rw [BitVec.ofInt_natCast, BitVec.ofNat_toNat, BitVec.setWidth_eq]
  show IntKind.u32.wrap ((BitVec.ofInt 32 (u32 x) ^^^ BitVec.ofInt 32 (u32 y)).toNat : Int) = _
  rw [e, e, IntKind.wrap_u32]
  unfold u32
  have := (x ^^^ y).isLt
  omega
theorem u32_and15 (x : BitVec 32) : bits .and .u32 (u32 x) 15 = ((x.toNat % 16 : Nat) : Int) := by
  have e : BitVec.ofInt 32 (u32 x) = x := by unfold u32; rw [BitVec.ofInt_natCast, BitVec.ofNat_toNat, BitVec.setWidth_eq]
  show IntKind.u32.wrap ((BitVec.ofInt 32 (u32 x) &&& BitVec.ofInt 32 15).toNat : Int) = _
  rw [e, IntKind.wrap_u32, BitVec.toNat_and, show (BitVec.ofInt 32 15).toNat = 2 ^ 4 - 1 from rfl, Nat.and_two_pow_sub_one_eq_mod]
  omega
theorem u32_shr (x : BitVec 32) : u32 x / (16 : Int) = u32 (x >>> 4) := by
  unfold u32
  rw [BitVec.toNat_ushiftRight, Nat.shiftRight_eq_div_pow]
  omega
theorem u32_byte (c : UInt8) : (c.toNat : Int) % 4294967296 = u32 (Crc.b8 c) := by
  unfold u32 Crc.b8
  have := c.toNat_lt
  rw [BitVec.toNat_ofNat]
  omega
theorem u32_not (x : BitVec 32) : bits .xor .u32 IntKind.u32.max (u32 x) = u32 (~~~ x) := by
  have e : IntKind.u32.max = u32 (BitVec.allOnes 32) := by decide
  rw [e, u32_xor, BitVec.allOnes_xor]
theorem u32_xorb (x : BitVec 32) (c : UInt8) : bits .xor .u32 (u32 x) ((c.toNat : Nat) : Int) = u32 (x ^^^ Crc.b8 c) := by
  rw [← u32_xor, ← u32_byte]; congr 1; have := c.toNat_lt; omega
def tbl (i : Nat) : BitVec 32 := BitVec.ofNat 32 (Crc.part.getD i 0)
/-- The table stands where it was laid. -/
def Tab (w : World) : Prop := ∀ i, i < 16 → w.cell? ⟨0, i, none⟩ = some (.int .u32 (u32 (tbl i)))
theorem Tab.upd {S : Nat → Prop} {w w' : World} (h : Tab w) (hu : Upd S w w') (hs : ¬ S 0) : Tab w' := fun i hi => hu.cell' (h i hi) hs
theorem Tab.below {w w' : World} (h : Tab w) (hu : Below w.heap.size w w') : Tab w' := h.upd (Upd.ofBelow hu) (fun h => h)
theorem s4_tbl (s : BitVec 32) : s >>> 4 ^^^ tbl (s.toNat % 16) = Crc.s4 s := (Crc.s4_eq s).symm
theorem run_snoc (s : BitVec 32) (l : List UInt8) (i : Nat) (h : i < l.length) : Crc.run s (l.take (i + 1)) = Crc.s8 (Crc.run s (l.take i) ^^^ Crc.b8 l[i]) := by
  rw [List.take_succ_eq_append_getElem h, Crc.run_append]
  rfl

set_option maxRecDepth 100000 in
set_option maxHeartbeats 400000 in
theorem Sum_calls (a : Option Addr) (cap : Nat) (w : World) (xs : List UInt8) (hn : xs.length ≤ 140737488355328) (hc : Byt w a xs) (hp : Tab w) :
    Calls Tryz.prog 104 #[.slice a xs.length cap] w fun r w' => r = .returned (.int .u32 (u32 (Crc.sum xs))) ∧ w = w' := by
  have HP := Lib.hid hp; clear hp
  have HC := Lib.hid hc; clear hc
  go_enter Tryz.func104, Tryz.ntmps104
  go_wp2
  go_loop [3, 8] (fun s k => ∃ i : Nat, i ≤ xs.length ∧ k = .int .i64 i ∧ s = .int .u32 (u32 (Crc.run 0xffffffff#32 (xs.take i)))) (fun _ k => xs.length - (intOf k).toNat)
  case atStart => exact ⟨0, by omega, rfl, rfl⟩
  case round =>
    obtain ⟨i, hi, rfl, rfl⟩ := hrel
    by_cases hlt : i < xs.length
    · obtain ⟨b, o, rfl, h1⟩ := HC.out i hlt
      have rb := xs[i].toNat_lt
      obtain ⟨y, hy⟩ : ∃ y, Crc.run 0xffffffff#32 (xs.take i) ^^^ Crc.b8 xs[i] = y := ⟨_, rfl⟩
      obtain ⟨z, hz⟩ : ∃ z, Crc.s4 y = z := ⟨_, rfl⟩
      obtain ⟨v, hv⟩ : ∃ v, Crc.s4 z = v := ⟨_, rfl⟩
      have HV : Hid (Crc.run 0xffffffff#32 (xs.take (i + 1)) = v) := by show _ = _; rw [run_snoc _ _ _ hlt, hy, ← hv, ← hz]; rfl
      have e0 : bits .xor .u32 (u32 (Crc.run 0xffffffff#32 (xs.take i))) ((xs[i].toNat : Nat) : Int) = u32 y := by rw [u32_xorb, hy]
      have e1 := u32_and15 y
      have e3 : bits .xor .u32 (u32 y / 16) (u32 (tbl (y.toNat % 16))) = u32 z := by rw [u32_shr, u32_xor, ← hz, s4_tbl]
      have f1 := u32_and15 z
      have f3 : bits .xor .u32 (u32 z / 16) (u32 (tbl (z.toNat % 16))) = u32 v := by rw [u32_shr, u32_xor, ← hv, s4_tbl]
      have c1 := HP.out (y.toNat % 16) (Nat.mod_lt _ (by decide))
      have c2 := HP.out (z.toNat % 16) (Nat.mod_lt _ (by decide))
      have b1 : y.toNat % 16 < 16 := Nat.mod_lt _ (by decide)
      have b2 : z.toNat % 16 < 16 := Nat.mod_lt _ (by decide)
      clear hy hz hv
      go_wp2
      go_round
      case rel => exact ⟨i + 1, by omega, by go_num, by rw [HV.out]⟩
      case measure => simp [intOf]; omega
    · have e : xs.take i = xs := List.take_of_length_le (by omega)
      obtain ⟨y, hy⟩ : ∃ y, Crc.run 0xffffffff#32 (xs.take i) = y := ⟨_, rfl⟩
      obtain ⟨z, hz⟩ : ∃ z, ~~~ y = z := ⟨_, rfl⟩
      have HS : Hid (u32 (Crc.sum xs) = u32 z) := by show _ = _; rw [← hz, ← hy, e]; rfl
      have e1 : bits .xor .u32 IntKind.u32.max (u32 y) = u32 z := by rw [u32_not, hz]
      rw [hy]
      clear hy hz e
      go_wp2
      go_ret
      exact ⟨by rw [HS.out]; rfl, rfl⟩
end Go.Proofs.YtnbpkignkfabkaaGreatDoor
