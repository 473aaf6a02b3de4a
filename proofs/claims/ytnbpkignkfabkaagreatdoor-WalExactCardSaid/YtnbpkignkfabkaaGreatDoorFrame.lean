/- record.Frame. -/
import Derived.Test.YtnbpkignkfabkaaGreatDoorRdr2
import Derived.Test.YtnbpkignkfabkaaGreatDoorSum
/- record.Reader: Text, Left, End, From. -/
namespace Go.Proofs.YtnbpkignkfabkaaGreatDoor
set_option linter.unusedVariables false
set_option linter.unusedSimpArgs false
open Go.RowKit

theorem frozen_of_row {w : World} {g : Nat} {cur : Array Value} {e : TypeId} (h : w.heap[g]? = some (.cells cur e (0, 0))) (j : Nat) : w.frozen? ⟨g, j, none⟩ = false := by
  unfold World.frozen?
  rw [h]
  simp
def rEnd (l : List UInt8) (e : Int) : Int := if e = 0 ∧ 0 < l.length then 33 else e
/-- A reader that the call made. -/
def NewRdr (w w' : World) (r : Ending) (l : List UInt8) : Prop := ∃ rb B a cap, r = .returned (.pointer (some ⟨rb, 0, none⟩)) ∧ Rdr w' rb 0 B l 0 a cap ∧ w.heap.size ≤ rb ∧ (∀ ad, a = some ad → w.heap.size ≤ B ∧ B < w'.heap.size) ∧ Below w.heap.size w w'
end Go.Proofs.YtnbpkignkfabkaaGreatDoor
namespace Go.Proofs.YtnbpkignkfabkaaGreatDoor
set_option linter.unusedVariables false
set_option linter.unusedSimpArgs false
open Go.RowKit
def sumN (l : List UInt8) : Nat := (Crc.sum l).toNat
theorem sumN_lt (l : List UInt8) : sumN l < 4294967296 := (Crc.sum l).isLt
theorem SumN_calls (a : Option Addr) (cap : Nat) (w : World) (xs : List UInt8) (hn : xs.length ≤ 140737488355328) (hc : Byt w a xs) (hp : Tab w) :
    Calls Tryz.prog 104 #[.slice a xs.length cap] w fun r w' => r = .returned (.int .u32 (sumN xs)) ∧ w = w' := Sum_calls a cap w xs hn hc hp
def hd (n : Nat) : List UInt8 := be 201 1 ++ be n 4
def frm (b : List UInt8) : List UInt8 := hd b.length ++ be (sumN (hd b.length)) 4 ++ b ++ be (sumN b) 4
theorem hd_length (n : Nat) : (hd n).length = 5 := by simp [hd, be_length]
theorem frm_length (b : List UInt8) : (frm b).length = b.length + 13 := by simp [frm, hd_length, be_length]; omega
def FrameR (b : List UInt8) : List UInt8 × Int := if b.length ≤ 16777216 then (frm b, 0) else ([], 31)

theorem Wri.new {w : World} {base : Nat} (hb : base ≤ w.heap.size) : Wri (w.alloc (.cells #[.slice none 0 0, .int .i64 0] 155)) w.heap.size 0 base [] 0 (.slice none 0 0) := by
  have hn := heap_alloc_new w (.cells #[.slice none 0 0, .int .i64 0] 155)
  exact ⟨by rw [cell_of_row' hn]; rfl, by rw [cell_of_row' hn]; rfl, frozen_of_row hn _, frozen_of_row hn _, Own.nil _ _ _ _, by simp [Value.ownBlock]⟩
theorem wNum_fit {l : List UInt8} {n : Nat} {k : Nat} (h1 : 1 ≤ k) (h8 : k ≤ 8) (h : n < 256 ^ k) : wNum l 0 n k = (l ++ be n k, 0) := by
  have e : n / 2 ^ (8 * ((k : Int)).toNat) = 0 := by
    rw [Int.toNat_natCast, Nat.pow_mul]
    exact Nat.div_eq_of_lt h
  have c : 1 ≤ (k : Int) ∧ (k : Int) ≤ 8 ∧ ((k : Int) = 8 ∨ n / 2 ^ (8 * ((k : Int)).toNat) = 0) := ⟨by omega, by omega, .inr e⟩
  unfold wNum
  rw [if_pos rfl, if_pos c, Int.toNat_natCast]

/-- Bytes of the call's own, and an error. -/
def OwnErr (w w' : World) (r : Ending) (q : List UInt8 × Int) : Prop := ∃ v, r = .returned (.tuple #[v, .int .i64 q.2]) ∧ Own w' w.heap.size 5 1 v q.1.length (bys q.1) ∧ Below w.heap.size w w'

set_option maxRecDepth 100000 in
set_option maxHeartbeats 2000000 in
theorem Frame_ok (w : World) (b : List UInt8) (a : Option Addr) (cap : Nat) (h : Byt w a b) (hl : b.length ≤ 16777216) (ht : Tab w) (hg : 0 < w.heap.size) :
    Calls Tryz.prog 52 #[.slice a b.length cap] w fun r w' => OwnErr w w' r (frm b, 0) := by
  have H := Lib.hid h; clear h
  have HT := Lib.hid ht; clear ht
  have HG := Lib.hid hg; clear hg
  have t1 : decide ((16777216 : Int) < (b.length : Int)) = false := decide_eq_false (by omega)
  have t2 : decide (16777216 < b.length) = false := decide_eq_false (by omega)
  have W0 := Lib.hid (Wri.new (w := w) (Nat.le_refl _))
  go_enter Tryz.func52, Tryz.ntmps52
  go_wp2_with fail
  -- the mark
  refine (Num_calls w.heap.size 0 w.heap.size 201 1 _ _ [] 0 W0.out (Nat.le_refl _) (by simp)).mono ?_
  rintro r w1 ⟨rfl, v1, hw, hu⟩
  rw [show wNum [] 0 201 1 = ([] ++ be 201 1, 0) from wNum_fit (k := 1) (by decide) (by decide) (by decide), List.nil_append] at hw
  have W1 := Lib.hid hw; have U1 := Lib.hid hu; clear hw hu
  go_wp2_with fail
  -- the length
  refine (Num_calls w.heap.size 0 w.heap.size b.length 4 _ _ (be 201 1) 0 W1.out (Nat.le_refl _) (by rw [be_length]; decide)).mono ?_
  rintro r w2 ⟨rfl, v2, hw, hu⟩
  rw [wNum_len (by omega)] at hw
  have U2 := Lib.hid (U1.out.trans hu); clear hu U1 W1
  obtain ⟨a2, c2, rfl, _, _, hb2, _⟩ := own_val hw.own
  have W2 := Lib.hid hw; have B2 := Lib.hid hb2; clear hb2
  have hl2 : (be 201 1 ++ be b.length 4).length = 5 := hd_length b.length
  obtain ⟨g0, _, _, _, _, _⟩ := hw
  rw [hl2] at g0
  have HG2 : Hid (0 ≠ w.heap.size) := by show _ ≠ _; have := HG.out; omega
  have tab2 : Hid (Tab w2) := (HT.out.upd ((Upd.refl (fun _ => False) w).alloc _) (fun h => h)).upd U2.out.upd (by rintro (e | e); exact HG2.out e; cases e)
  have L2 := Lib.hid hl2; clear hl2
  go_wp2_with fail
  -- the head's sum
  have hs := SumN_calls a2 c2 w2 (be 201 1 ++ be b.length 4) (by rw [L2.out]; decide) B2.out tab2.out
  rw [L2.out] at hs
  refine hs.mono ?_
  clear hs
  rintro r w3 ⟨rfl, rfl⟩
  obtain ⟨s2, hs2⟩ : ∃ s, sumN (be 201 1 ++ be b.length 4) = s := ⟨_, rfl⟩
  have s2lt : s2 < 4294967296 := by rw [← hs2]; exact sumN_lt _
  rw [hs2]
  have S2 := Lib.hid hs2; clear hs2
  go_wp2_with fail
  refine (Num_calls w.heap.size 0 w.heap.size s2 4 _ _ (be 201 1 ++ be b.length 4) 0 W2.out (Nat.le_refl _) (by rw [L2.out]; decide)).mono ?_
  rintro r w4 ⟨rfl, v4, hw, hu⟩
  rw [wNum_len (by omega)] at hw
  have U4 := Lib.hid (U2.out.trans hu); clear hu
  obtain ⟨l4, hl4⟩ : ∃ l, be 201 1 ++ be b.length 4 ++ be s2 4 = l := ⟨_, rfl⟩
  have n4 : l4.length = 9 := by rw [← hl4, List.length_append, L2.out, be_length]
  rw [hl4] at hw
  have L4 := Lib.hid hl4; clear hl4
  have W4 := Lib.hid hw
  obtain ⟨a4, c4, rfl, _, _, _, _⟩ := own_val hw.own
  obtain ⟨k0, k1, q0, q1, _, _⟩ := hw
  rw [n4] at k0
  have plt : w.heap.size < w4.heap.size := W4.out.lt
  have N4 := Lib.hid n4; clear n4 g0 B2 tab2
  have H4 : Hid (Byt w4 a b) := (H.out.alloc _).upd U4.out.upd (fun ad ha hne => by rintro (e | e); (have := (ha ▸ H.out).lt hne; omega); cases e)
  have M1 : Hid (9 + b.length ≤ maxLen) := by show _ ≤ _; unfold maxLen; omega
  have M2 : Hid ((9 + b.length) * 1 ≤ 140737488355328) := by show _ ≤ _; omega
  have O4 : Hid (Own w4 w.heap.size 5 1 (.slice a4 9 c4) 9 (bys l4)) := by have := W4.out.own; rw [N4.out] at this; exact this
  have W4' : Hid (Wri w4 w.heap.size 0 w.heap.size l4 0 (.slice a4 9 c4)) := by have := W4.out; rw [N4.out] at this; exact this
  go_wp2_with (at_builtin; refine wpList_append rfl (.tmp 19) (.tmp 20) 74 74 rfl w.heap.size 5 (.int .u8 0) 1 1 Tryz.underlying74 infoByte rfl (v := .slice a4 9 c4) (n := 9) (xs := bys l4) O4.out rfl (xv := .slice a b.length cap) (m := b.length) (news := bys b) (Src_byt Tryz.underlying74 H4.out (fun _ => .inr trivial)) rfl M1.out M2.out (Nat.le_of_lt plt) ?_)
  intro v5 w5 ho5 hg5 hn5 hv5
  have U5 : Hid (Upd (fun k => (Value.slice a4 9 c4).ownBlock = some k) w4 w5) := (Upd.refl _ w4).grown hg5 (fun _ h _ => h)
  obtain ⟨g5, c5, rfl⟩ := ho5.shape (by omega)
  have s0 := U5.out.cell' W4'.out.c0 W4'.out.ne
  have s1 := (U5.out.frozen (p := ⟨w.heap.size, 0, none⟩) plt W4'.out.ne).trans W4'.out.f0
  have hput := W4'.out.put (l' := l4 ++ b) (v' := .slice (some ⟨g5, 0, none⟩) (9 + b.length) c5) (Nat.le_refl _) (by rw [List.length_append, N4.out, bys_append]; exact ho5) U5.out (by
    rcases hv5 with e | e
    · exact .inl e
    · exact .inr (fun i hi => by rw [e] at hi; injection hi with hi; omega))
  have W6 := Lib.hid hput.1
  have U6 : Hid (WUpd (w.alloc (.cells #[.slice none 0 0, .int .i64 0] 155)) (w5.setCell ⟨w.heap.size, 0, none⟩ (.slice (some ⟨g5, 0, none⟩) (9 + b.length) c5)) w.heap.size 0 (.slice none 0 0) (.slice (some ⟨g5, 0, none⟩) (9 + b.length) c5)) := by
    have h4 := U4.out
    rw [N4.out] at h4
    exact h4.trans hput.2
  clear hput ho5 hg5 hn5 hv5 k0 k1 q0 q1
  have fresh : ∀ (wx : World) (v : Value), WUpd (w.alloc (.cells #[.slice none 0 0, .int .i64 0] 155)) wx w.heap.size 0 (.slice none 0 0) v → Below w.heap.size w wx := by
    intro wx v hu
    exact ((Below.refl _ w).alloc (Nat.le_refl _) _).trans (hu.upd.below (by rintro k (rfl | hk) _; exact Nat.le_refl _; cases hk) (by simp))
  have FR := Lib.hid fresh; clear fresh
  have T6 : Hid (Tab (w5.setCell ⟨w.heap.size, 0, none⟩ (.slice (some ⟨g5, 0, none⟩) (9 + b.length) c5))) := HT.out.below (FR.out _ _ U6.out)
  have B6 : Hid (Byt (w5.setCell ⟨w.heap.size, 0, none⟩ (.slice (some ⟨g5, 0, none⟩) (9 + b.length) c5)) a b) := H.out.below (FR.out _ _ U6.out)
  go_wp2_with fail
  refine (SumN_calls a cap _ b (by omega) B6.out T6.out).mono ?_
  rintro r w7 ⟨rfl, rfl⟩
  obtain ⟨sb, hsb⟩ : ∃ s, sumN b = s := ⟨_, rfl⟩
  have sblt : sb < 4294967296 := by rw [← hsb]; exact sumN_lt _
  rw [hsb]
  have SB := Lib.hid hsb; clear hsb
  go_wp2_with fail
  refine (Num_calls w.heap.size 0 w.heap.size sb 4 _ _ (l4 ++ b) 0 W6.out (Nat.le_refl _) (by rw [List.length_append, N4.out]; omega)).mono ?_
  rintro r w8 ⟨rfl, v8, hw, hu⟩
  rw [wNum_len (by omega)] at hw
  have U8 := Lib.hid (U6.out.trans hu); clear hu
  have W8 := Lib.hid hw
  obtain ⟨k0, _, _, _, _, _⟩ := hw
  clear s0 s1
  go_wp2
  go_ret2
  refine ⟨v8, rfl, ?_, FR.out _ _ U8.out⟩
  have := W8.out.own
  rw [show frm b = l4 ++ b ++ be sb 4 by rw [← L4.out, ← S2.out, ← SB.out]; rfl]
  exact this

set_option maxRecDepth 100000 in
set_option maxHeartbeats 2000000 in
theorem Frame_calls (w : World) (b : List UInt8) (a : Option Addr) (cap : Nat) (h : Byt w a b) (ht : Tab w) (hg : 0 < w.heap.size) (hs : b.length ≤ 140737488355328) :
    Calls Tryz.prog 52 #[.slice a b.length cap] w fun r w' => OwnErr w w' r (FrameR b) := by
  unfold FrameR
  by_cases hl : b.length ≤ 16777216
  · rw [if_pos hl]
    exact Frame_ok w b a cap h hl ht hg
  · rw [if_neg hl]
    have t1 : decide ((16777216 : Int) < (b.length : Int)) = true := decide_eq_true (by omega)
    have t2 : decide (16777216 < b.length) = true := decide_eq_true (by omega)
    clear h ht hg hl
    go_enter Tryz.func52, Tryz.ntmps52
    go_wp2
    go_ret2
    exact ⟨_, rfl, Own.nil _ _ _ _, Below.refl _ _⟩
end Go.Proofs.YtnbpkignkfabkaaGreatDoor
