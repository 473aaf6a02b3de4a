/- posternlaw3.mixed: the exclusive or of three rows. -/
import Derived.Test.YtjiciklnhcmfaaaDoorStep
namespace Go.Proofs.YtjiciklnhcmfaaaDoor
set_option linter.unusedVariables false
set_option linter.unusedSimpArgs false
open Go.RowKit
theorem xorb (a b : UInt8) : bits BinOp.xor IntKind.u8 (a.toNat : Int) (b.toNat : Int) = ((a ^^^ b).toNat : Int) := by
  have e2 : ∀ z : UInt8, BitVec.ofInt 8 (z.toNat : Int) = z.toBitVec := by intro z; rw [BitVec.ofInt_natCast]; simp
  show IntKind.u8.wrap ((BitVec.ofInt 8 (a.toNat : Int) ^^^ BitVec.ofInt 8 (b.toNat : Int)).toNat : Int) = _
  rw [e2, e2, wrap_u8]
  show ((a.toBitVec ^^^ b.toBitVec).toNat : Int) % 256 = ((a.toBitVec ^^^ b.toBitVec).toNat : Int)
  have := (a.toBitVec ^^^ b.toBitVec).isLt
  omega
/-- Three rows, byte by byte. -/
def mix (a b c : List UInt8) : List UInt8 := Crc.zx (Crc.zx a b) c
theorem mix_length (a b c : List UInt8) : (mix a b c).length = min (min a.length b.length) c.length := by simp [mix, Crc.zx]
theorem mix_get (a b c : List UInt8) (i : Nat) (h : i < (mix a b c).length) (h0 : i < a.length) (h1 : i < b.length) (h2 : i < c.length) : (mix a b c)[i] = (a[i] ^^^ b[i]) ^^^ c[i] := by simp [mix, Crc.zx]
set_option maxRecDepth 100000 in
set_option maxHeartbeats 4000000 in
theorem mixed_calls (w : World) (aa ab ac : Option Addr) (ca cb cc : Nat) (a b c : List UInt8) (ha : Byt w aa a) (hb : Byt w ab b) (hc : Byt w ac c) (hn : a.length ≤ 140737488351232) (hn2 : b.length ≤ 140737488351232) (hn3 : c.length ≤ 140737488351232) :
    Calls Tryd.prog 25 #[.slice aa a.length ca, .slice ab b.length cb, .slice ac c.length cc] w fun r w' => ∃ v, r = .returned v ∧ Own w' w.heap.size 5 1 v (mix a b c).length (bys (mix a b c)) ∧ Below w.heap.size w w' := by
  have HA := Lib.hid ha; clear ha
  have HB := Lib.hid hb; clear hb
  have HC := Lib.hid hc; clear hc
  obtain ⟨l, hl⟩ : ∃ l, mix a b c = l := ⟨_, rfl⟩
  rw [hl]
  have hlen : l.length = min (min a.length b.length) c.length := by rw [← hl, mix_length]
  have HL := Lib.hid hl; clear hl
  have LL := Lib.hid hlen; clear hlen
  go_enter Tryd.func25, Tryd.ntmps25
  go_wp2
  go_loopw [7, 8] (fun vl vi wr => ∃ i : Nat, vi = .int .i64 i ∧ i ≤ l.length ∧ Own wr w.heap.size 5 1 vl i (bys (l.take i)) ∧ Below w.heap.size w wr) (fun _ vi _ => l.length - (intOf vi).toNat)
  case atStart => exact ⟨0, rfl, Nat.zero_le _, by simpa [bys] using Own.nil w w.heap.size 5 1, Below.refl _ _⟩
  case round =>
    obtain ⟨i, rfl, hi, ho, hbw⟩ := hrel
    have OW := Lib.hid ho; clear ho
    have BW := Lib.hid hbw; clear hbw
    by_cases c0 : i < a.length
    · have t0 : decide ((i : Int) < (a.length : Int)) = true := decide_eq_true (by omega)
      have t0' : decide (i < a.length) = true := decide_eq_true c0
      by_cases c1 : i < b.length
      · have t1 : decide ((i : Int) < (b.length : Int)) = true := decide_eq_true (by omega)
        have t1' : decide (i < b.length) = true := decide_eq_true c1
        by_cases c2 : i < c.length
        · have t2 : decide ((i : Int) < (c.length : Int)) = true := decide_eq_true (by omega)
          have t2' : decide (i < c.length) = true := decide_eq_true c2
          have hil : i < l.length := by have := LL.out; omega
          obtain ⟨x, hx⟩ : ∃ x, a[i] = x := ⟨_, rfl⟩
          obtain ⟨y, hy⟩ : ∃ x, b[i] = x := ⟨_, rfl⟩
          obtain ⟨z, hz⟩ : ∃ x, c[i] = x := ⟨_, rfl⟩
          have hli : Hid (l[i] = (x ^^^ y) ^^^ z) := by
            show _ = _
            have h1 := HL.out
            subst h1
            rw [mix_get a b c i hil c0 c1 c2, hx, hy, hz]
          obtain ⟨b0, o0, rfl, _⟩ := HA.out i c0
          obtain ⟨b1, o1, rfl, _⟩ := HB.out i c1
          obtain ⟨b2, o2, rfl, _⟩ := HC.out i c2
          have q0 := (HA.out.below BW.out).at_ c0
          have q1 := (HB.out.below BW.out).at_ c1
          have q2 := (HC.out.below BW.out).at_ c2
          rw [hx] at q0; rw [hy] at q1; rw [hz] at q2
          have e1 := xorb x y
          obtain ⟨xy, hxy⟩ : ∃ q, x ^^^ y = q := ⟨_, rfl⟩
          rw [hxy] at e1 hli
          have e2 := xorb xy z
          obtain ⟨p, hp⟩ : ∃ q, xy ^^^ z = q := ⟨_, rfl⟩
          rw [hp] at e2 hli
          clear hx hy hz hxy hp
          have M1 : Hid (i + 1 ≤ maxLen) := by show _ ≤ _; unfold maxLen; omega
          have M2 : Hid ((i + 1) * 1 ≤ 140737488355328) := by show _ ≤ _; omega
          have M3 : Hid (w.heap.size ≤ (wr.alloc (.cells #[.int .u8 (p.toNat : Int)] 5)).drew.heap.size) := by show _ ≤ _; have := BW.out.size; simp; omega
          go_wp2
          go_region_law (refine step_append rfl (.tmp 27) (.tmp 42) 55 55 rfl w.heap.size 5 (.int .u8 0) 1 1 Tryd.underlying55 infoByte rfl (n := i) (xs := bys (l.take i)) (OW.out.alloc _).drew rfl (xv := .slice (some ⟨wr.heap.size, 0, none⟩) 1 1) (m := 1) (news := [.int .u8 (p.toNat : Int)]) (Src_new Tryd.underlying55 (e := 5) (heap_alloc_new wr _) rfl) rfl M1.out M2.out M3.out ?_; intro v2 w2 ho2 hg2 _ _)
          all_goals
            have B2 : Below w.heap.size w w2 := ((BW.out.alloc BW.out.size _).drew).grown hg2 (by have := M3.out; exact this) (fun k hk => (OW.out.lt k hk).1)
            have O2 := Lib.hid ho2
            have B2h := Lib.hid B2
            clear ho2 hg2 B2
            go_wp2
            go_roundw
            case rel =>
              refine ⟨i + 1, by go_num, by omega, ?_, B2h.out⟩
              have h := O2.out
              rw [bys_one_snoc, ← hli.out] at h
              rw [List.take_succ_eq_append_getElem hil]
              exact h
            case measure => simp [intOf]; omega
        · have t2 : decide ((i : Int) < (c.length : Int)) = false := decide_eq_false (by omega)
          have t2' : decide (i < c.length) = false := decide_eq_false c2
          have hil : i = l.length := by have := LL.out; omega
          go_wp2
          go_ret
          exact ⟨_, rfl, by have h := OW.out; rw [hil, List.take_length] at h; exact h, BW.out⟩
      · have t1 : decide ((i : Int) < (b.length : Int)) = false := decide_eq_false (by omega)
        have t1' : decide (i < b.length) = false := decide_eq_false c1
        have hil : i = l.length := by have := LL.out; omega
        go_wp2
        go_ret
        exact ⟨_, rfl, by have h := OW.out; rw [hil, List.take_length] at h; exact h, BW.out⟩
    · have t0 : decide ((i : Int) < (a.length : Int)) = false := decide_eq_false (by omega)
      have t0' : decide (i < a.length) = false := decide_eq_false c0
      have hil : i = l.length := by have := LL.out; omega
      go_wp2
      go_ret
      exact ⟨_, rfl, by have h := OW.out; rw [hil, List.take_length] at h; exact h, BW.out⟩
end Go.Proofs.YtjiciklnhcmfaaaDoor
