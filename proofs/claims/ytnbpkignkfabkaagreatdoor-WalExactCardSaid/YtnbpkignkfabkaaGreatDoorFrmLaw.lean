/- Frames as lists of bytes: there and back, each beginning, one byte changed. -/
import Derived.Test.YtnbpkignkfabkaaGreatDoorFrame
/- record.Unframe. -/
namespace Go.Proofs.YtnbpkignkfabkaaGreatDoor
set_option linter.unusedVariables false
set_option linter.unusedSimpArgs false
open Go.RowKit
/-- A callee that leaves the world alone, in a region that draws; and in one behind another. -/
theorem qone {P : Program} {f : FuncId} {args : Array Value} {w : World} {n : Nat} {v : Value} (h : Calls P f args (w.drewN n) fun e w' => e = .returned v ∧ w.drewN n = w') :
    Calls P f args (w.drewN n) fun e w'' => e = .returned v ∧ ∃ m, w'' = w.drewN m := h.mono fun _ _ ⟨he, hm⟩ => ⟨he, n, hm.symm⟩
theorem qtwo {P : Program} {f : FuncId} {args : Array Value} {w : World} {a n : Nat} {v : Value} (h : Calls P f args (w.drewN (a + n)) fun e w' => e = .returned v ∧ w.drewN (a + n) = w') :
    Calls P f args (w.drewN (a + n)) fun e w'' => e = .returned v ∧ ∃ m, w'' = w.drewN (a + m) := h.mono fun _ _ ⟨he, hm⟩ => ⟨he, n, hm.symm⟩
theorem Byt.drewN {w : World} {a : Option Addr} {l : List UInt8} (h : Byt w a l) (n : Nat) : Byt (w.drewN n) a l := h
theorem Tab.drewN {w : World} (h : Tab w) (n : Nat) : Tab (w.drewN n) := h
theorem Byt.sub {w : World} {b o : Nat} {l : List UInt8} (h : Byt w (some ⟨b, o, none⟩) l) (i j : Nat) (hj : i + j ≤ l.length) : Byt w (some ⟨b, o + i, none⟩) ((l.drop i).take j) ∧ ((l.drop i).take j).length = j := by
  refine ⟨fun k hk => ?_, by rw [List.length_take, List.length_drop]; omega⟩
  rw [List.length_take, List.length_drop] at hk
  refine ⟨b, o + i, rfl, ?_⟩
  rw [Nat.add_assoc, h.at_ (by omega)]
  simp

def UnframeR (b : List UInt8) : List UInt8 × Nat × Int :=
  if b.length = 0 then ([], 0, 30) else if b.getD 0 0 ≠ 201 then ([], 0, 34) else if b.length < 9 then ([], 0, 30) else
  if sumN (b.take 5) ≠ ofBe ((b.drop 5).take 4) then ([], 0, 32) else
  if 16777216 < ofBe ((b.drop 1).take 4) then ([], 0, 31) else if b.length < ofBe ((b.drop 1).take 4) + 13 then ([], 0, 30) else
  if sumN ((b.drop 9).take (ofBe ((b.drop 1).take 4))) ≠ ofBe ((b.drop (9 + ofBe ((b.drop 1).take 4))).take 4) then ([], 0, 32) else
  ((b.drop 9).take (ofBe ((b.drop 1).take 4)), ofBe ((b.drop 1).take 4) + 13, 0)
def OwnNErr (w w' : World) (r : Ending) (q : List UInt8 × Nat × Int) : Prop := ∃ v, r = .returned (.tuple #[v, .int .i64 q.2.1, .int .i64 q.2.2]) ∧ Own w' w.heap.size 5 1 v q.1.length (bys q.1) ∧ Below w.heap.size w w'

theorem Sum_q {w : World} {a : Option Addr} {l : List UInt8} {k c : Nat} (h : Byt w a l) (hl : l.length = k) (ht : Tab w) (hs : l.length ≤ 140737488355328) (n : Nat) : Calls Tryz.prog 104 #[.slice a k c] (w.drewN n) fun e w' => e = .returned (.int .u32 (sumN l)) ∧ w.drewN n = w' := by
  subst hl
  exact SumN_calls a c (w.drewN n) l hs (h.drewN n) (ht.drewN n)
theorem number_q {w : World} {a : Option Addr} {l : List UInt8} {k c : Nat} (h : Byt w a l) (hl : l.length = k) (hs : k ≤ 8) (n : Nat) : Calls Tryz.prog 105 #[.slice a k c] (w.drewN n) fun e w' => e = .returned (.int .u64 (ofBe l)) ∧ w.drewN n = w' := by
  subst hl
  exact number_calls a c l (w.drewN n) (h.drewN n) hs

theorem Clone_q {w : World} {a : Option Addr} {l : List UInt8} {k c : Nat} (h : Byt w a l) (hl : l.length = k) (hs : k ≤ 140737488355328) (n : Nat) : Calls Tryz.prog 43 #[.slice a k c] (w.drewN n) fun r w' => ∃ v', r = .returned v' ∧ Own w' w.heap.size 5 1 v' l.length (bys l) ∧ Below w.heap.size (w.drewN n) w' := by
  subst hl
  exact Clone_calls a c l (w.drewN n) (h.drewN n) hs
set_option maxRecDepth 100000 in
set_option maxHeartbeats 2000000 in
theorem Unframe_early (w : World) (b : List UInt8) (a : Option Addr) (cap : Nat) (h : Byt w a b) (hq : b.length = 0 ∨ b.getD 0 0 ≠ 201 ∨ b.length < 9) (hs : b.length ≤ 140737488355328) :
    Calls Tryz.prog 50 #[.slice a b.length cap] w fun r w' => OwnNErr w w' r (UnframeR b) := by
  unfold UnframeR
  by_cases h0 : b.length = 0
  · have t0 : ((b.length : Int) == 0) = true := by simp [h0]
    rw [if_pos h0]
    clear hq h h0
    go_enter Tryz.func50, Tryz.ntmps50
    go_wp2
    go_ret3
    exact ⟨_, rfl, Own.nil _ _ _ _, Below.refl _ _⟩
  · have t0 : ((b.length : Int) == 0) = false := beq_eq_false_iff_ne.2 (by omega)
    obtain ⟨bl, o, rfl, hc⟩ := h 0 (by omega)
    obtain ⟨c, hcc⟩ : ∃ c, b[0]'(by omega) = c := ⟨_, rfl⟩
    have hg : b.getD 0 0 = c := by rw [← hcc]; simp [List.getD, show 0 < b.length by omega]
    rw [hcc, Nat.add_zero] at hc
    rw [hg] at hq ⊢
    have clt := c.toNat_lt
    clear hg hcc
    by_cases h1 : c = 201
    · have h2 : b.length < 9 := by rcases hq with e | e | e; exact absurd e h0; exact absurd h1 e; exact e
      have t1 : (((c.toNat : Nat) : Int) != 201) = false := by rw [h1]; rfl
      have t2 : decide ((b.length : Int) < 9) = true := decide_eq_true (by omega)
      rw [if_neg h0, if_neg (by simp [h1]), if_pos h2]
      clear hq h
      go_enter Tryz.func50, Tryz.ntmps50
      go_wp2
      go_ret3
      exact ⟨_, rfl, Own.nil _ _ _ _, Below.refl _ _⟩
    · have t1 : (((c.toNat : Nat) : Int) != 201) = true := by
        rw [bne_iff_ne]
        intro e
        exact h1 (UInt8.toNat_inj.1 (by show c.toNat = 201; omega))
      rw [if_neg h0, if_pos h1]
      clear hq h h1
      go_enter Tryz.func50, Tryz.ntmps50
      go_wp2
      go_ret3
      exact ⟨_, rfl, Own.nil _ _ _ _, Below.refl _ _⟩

set_option maxRecDepth 100000 in
set_option maxHeartbeats 2000000 in
theorem Unframe_late (w : World) (b : List UInt8) (bl o : Nat) (cap : Nat) (h : Byt w (some ⟨bl, o, none⟩) b) (hcap : b.length ≤ cap) (h9 : 9 ≤ b.length) (hm : b.getD 0 0 = 201) (hs : b.length ≤ 140737488355328) (ht : Tab w) :
    Calls Tryz.prog 50 #[.slice (some ⟨bl, o, none⟩) b.length cap] w fun r w' => OwnNErr w w' r (UnframeR b) := by
  have H := Lib.hid h
  have HT := Lib.hid ht; clear ht
  have t0 : ((b.length : Int) == 0) = false := beq_eq_false_iff_ne.2 (by omega)
  have c0 : w.cell? ⟨bl, o, none⟩ = some (.int .u8 201) := by
    have := h.at_ (i := 0) (by omega)
    rw [Nat.add_zero] at this
    rw [this]
    have hg : b[0]'(by omega) = 201 := by rw [← hm]; simp [List.getD, show 0 < b.length by omega]
    rw [hg]; rfl
  have t1 : ((201 : Int) != 201) = false := rfl
  have t2 : decide ((b.length : Int) < 9) = false := decide_eq_false (by omega)
  have hcap5 : Hid (9 ≤ cap) := by show _ ≤ _; omega
  have hcap' : 9 ≤ cap := by omega
  obtain ⟨s1, hs1⟩ := h.sub 0 5 (by omega)
  obtain ⟨s2, hs2⟩ := h.sub 5 4 (by omega)
  obtain ⟨s3, hs3⟩ := h.sub 1 4 (by omega)
  rw [Nat.add_zero, List.drop_zero] at s1
  rw [List.drop_zero] at hs1
  have S1 := Lib.hid s1; have S2 := Lib.hid s2; have S3 := Lib.hid s3
  clear h s1 s2 s3
  have q1 := fun n => Lib.hid (Sum_q (c := cap) S1.out hs1 HT.out (by omega) n)
  have q2 := fun n => Lib.hid (number_q (c := cap - 5) S2.out hs2 (by decide) n)
  have q3 := fun n => Lib.hid (number_q (c := cap - 1) S3.out hs3 (by decide) n)
  unfold UnframeR
  rw [if_neg (by omega), if_neg (fun e => e hm), if_neg (by omega)]
  obtain ⟨x1, e1⟩ : ∃ x, sumN (b.take 5) = x := ⟨_, rfl⟩
  obtain ⟨x2, e2⟩ : ∃ x, ofBe ((b.drop 5).take 4) = x := ⟨_, rfl⟩
  obtain ⟨n, en⟩ : ∃ x, ofBe ((b.drop 1).take 4) = x := ⟨_, rfl⟩
  have l1 : x1 < 4294967296 := by rw [← e1]; exact sumN_lt _
  have l2 : n < 4294967296 := by rw [← en]; have := ofBe_lt ((b.drop 1).take 4); rw [hs3] at this; simpa using this
  rw [e1] at q1 ⊢
  rw [e2] at q2 ⊢
  rw [en] at q3 ⊢
  have HS3 := Lib.hid hs3
  clear e1 e2 en hs1 hs2 hs3 hm hcap5
  by_cases hne : x1 = x2
  · rw [if_neg (fun h => h hne)]
    have t3 : ((x1 : Int) != (x2 : Int)) = false := by rw [hne]; simp
    clear hne
    by_cases hn : 16777216 < n
    · rw [if_pos hn]
      have t4 : decide ((16777216 : Int) < (n : Int)) = true := decide_eq_true (by omega)
      go_enter Tryz.func50, Tryz.ntmps50
      go_wp2
      go_quiet (first | ((go_at_call 104; exact qone (q1 _).out)) | ((go_at_call 105; exact qone (q2 _).out)))
      go_wp2_with fail
      refine ((q3 _).out).mono ?_
      rintro r w1 ⟨rfl, rfl⟩
      go_wp2
      go_ret3
      exact ⟨_, rfl, Own.nil _ _ _ _, bel_drewN (Below.refl _ _) _⟩
    · rw [if_neg hn]
      have t4 : decide ((16777216 : Int) < (n : Int)) = false := decide_eq_false (by omega)
      by_cases hlen : b.length < n + 13
      · rw [if_pos hlen]
        have t5 : decide ((b.length : Int) < 9 + (n : Int) + 4) = true := decide_eq_true (by omega)
        go_enter Tryz.func50, Tryz.ntmps50
        go_wp2
        go_quiet (first | ((go_at_call 104; exact qone (q1 _).out)) | ((go_at_call 105; exact qone (q2 _).out)))
        go_wp2_with fail
        refine ((q3 _).out).mono ?_
        rintro r w1 ⟨rfl, rfl⟩
        go_wp2
        go_ret3
        exact ⟨_, rfl, Own.nil _ _ _ _, bel_drewN (Below.refl _ _) _⟩
      · rw [if_neg hlen]
        have t5 : decide ((b.length : Int) < 9 + (n : Int) + 4) = false := decide_eq_false (by omega)
        obtain ⟨s4, hs4⟩ := H.out.sub 9 n (by omega)
        obtain ⟨s5, hs5⟩ := H.out.sub (9 + n) 4 (by omega)
        have S4 := Lib.hid s4; have S5 := Lib.hid s5
        clear s4 s5
        have HB4 := Lib.hid hs4
        have q4 := fun k => Lib.hid (Sum_q (c := cap - 9) S4.out hs4 HT.out (by omega) k)
        have q5 := fun k => Lib.hid (number_q (c := cap - (9 + n)) S5.out hs5 (by decide) k)
        obtain ⟨y1, e1⟩ : ∃ x, sumN ((b.drop 9).take n) = x := ⟨_, rfl⟩
        obtain ⟨y2, e2⟩ : ∃ x, ofBe ((b.drop (9 + n)).take 4) = x := ⟨_, rfl⟩
        have l3 : y1 < 4294967296 := by rw [← e1]; exact sumN_lt _
        rw [e1] at q4 ⊢
        rw [e2] at q5 ⊢
        clear e1 e2 hs4 hs5
        have hcn : 9 + n + 4 ≤ cap := by omega
        by_cases hy : y1 = y2
        · rw [if_neg (fun h => h hy)]
          have t6 : ((y1 : Int) != (y2 : Int)) = false := by rw [hy]; simp
          clear hy
          rcases Nat.eq_zero_or_pos n with rfl | hpos
          · go_enter Tryz.func50, Tryz.ntmps50
            go_wp2
            go_quiet (first | ((go_at_call 104; exact qone (q1 _).out)) | ((go_at_call 105; exact qone (q2 _).out)))
            go_wp2_with fail
            refine ((q3 _).out).mono ?_
            rintro r w1 ⟨rfl, rfl⟩
            go_wp2
            go_quiet (first | ((go_at_call 104; exact qtwo (q4 _).out)) | ((go_at_call 105; exact qtwo (q5 _).out)))
            go_wp2_with fail
            refine (Clone_calls (some ⟨bl, o, none⟩) 0 [] _ (Byt.nil _ _) (by decide)).mono ?_
            rintro r w2 ⟨v2, rfl, ho, hbel⟩
            have O2 := Lib.hid ho; have B2 := Lib.hid hbel
            clear ho hbel
            go_wp2
            go_ret3
            exact ⟨_, rfl, by simpa using O2.out, (bel_drewN (Below.refl _ w) _).trans B2.out⟩
          · have hn0 : ¬ n = 0 := by omega
            go_enter Tryz.func50, Tryz.ntmps50
            go_wp2
            go_quiet (first | ((go_at_call 104; exact qone (q1 _).out)) | ((go_at_call 105; exact qone (q2 _).out)))
            go_wp2_with fail
            refine ((q3 _).out).mono ?_
            rintro r w1 ⟨rfl, rfl⟩
            go_wp2
            go_quiet (first | ((go_at_call 104; exact qtwo (q4 _).out)) | ((go_at_call 105; exact qtwo (q5 _).out)))
            go_wp2_with fail
            refine (Clone_q (c := n) S4.out HB4.out (by omega) _).mono ?_
            rintro r w2 ⟨v2, rfl, ho, hbel⟩
            have O2 := Lib.hid ho; have B2 := Lib.hid hbel
            clear ho hbel
            go_wp2
            go_ret3
            have e13 : ((9 : Int) + (n : Int) + 4) = ((n + 13 : Nat) : Int) := by omega
            exact ⟨v2, by show Ending.returned (.tuple #[v2, .int .i64 ((9 : Int) + (n : Int) + 4), .int .i64 0]) = _; rw [e13], O2.out, (bel_drewN (Below.refl _ w) _).trans B2.out⟩
        · rw [if_pos hy]
          have t6 : ((y1 : Int) != (y2 : Int)) = true := by rw [bne_iff_ne]; omega
          clear hy
          go_enter Tryz.func50, Tryz.ntmps50
          go_wp2
          go_quiet (first | ((go_at_call 104; exact qone (q1 _).out)) | ((go_at_call 105; exact qone (q2 _).out)))
          go_wp2_with fail
          refine ((q3 _).out).mono ?_
          rintro r w1 ⟨rfl, rfl⟩
          go_wp2
          go_quiet (first | ((go_at_call 104; exact qtwo (q4 _).out)) | ((go_at_call 105; exact qtwo (q5 _).out)))
          go_wp2
          go_ret3
          exact ⟨_, rfl, Own.nil _ _ _ _, bel_drewN (bel_drewN (Below.refl _ w) _) _⟩
  · rw [if_pos hne]
    have t3 : ((x1 : Int) != (x2 : Int)) = true := by rw [bne_iff_ne]; omega
    clear hne
    go_enter Tryz.func50, Tryz.ntmps50
    go_wp2
    go_quiet (first | ((go_at_call 104; exact qone (q1 _).out)) | ((go_at_call 105; exact qone (q2 _).out)))
    go_wp2
    go_ret3
    exact ⟨_, rfl, Own.nil _ _ _ _, bel_drewN (Below.refl _ _) _⟩
theorem Unframe_calls (w : World) (b : List UInt8) (a : Option Addr) (cap : Nat) (h : Byt w a b) (hcap : b.length ≤ cap) (hs : b.length ≤ 140737488355328) (ht : Tab w) :
    Calls Tryz.prog 50 #[.slice a b.length cap] w fun r w' => OwnNErr w w' r (UnframeR b) := by
  by_cases hq : b.length = 0 ∨ b.getD 0 0 ≠ 201 ∨ b.length < 9
  · exact Unframe_early w b a cap h hq hs
  · have h9 : 9 ≤ b.length := by omega
    obtain ⟨bl, o, rfl, _⟩ := h 0 (by omega)
    exact Unframe_late w b bl o cap h hcap h9 (by
      by_cases e : b.getD 0 0 = 201
      · exact e
      · exact absurd (.inr (.inl e)) hq) hs ht
end Go.Proofs.YtnbpkignkfabkaaGreatDoor
namespace Go.Proofs.YtnbpkignkfabkaaGreatDoor
set_option linter.unusedVariables false
set_option linter.unusedSimpArgs false
theorem ofBe_be (n k : Nat) : ofBe (be n k) = n % 256 ^ k := by
  induction k with
  | zero => simp [be, ofBe, Nat.mod_one]
  | succ k ih =>
    have e : (UInt8.ofNat (n / 256 ^ k)).toNat = n / 256 ^ k % 256 := UInt8.toNat_ofNat'
    rw [be, ofBe_cons, be_length, ih, e, Nat.pow_succ 256 k, Nat.mod_mul, Nat.add_comm, Nat.mul_comm]
theorem ofBe_inj : ∀ (l m : List UInt8), l.length = m.length → ofBe l = ofBe m → l = m
  | [], [], _, _ => rfl
  | c :: l, d :: m, hl, h => by
    have hl' : l.length = m.length := by simpa using hl
    rw [ofBe_cons, ofBe_cons, hl'] at h
    have h1 := ofBe_lt l
    have h2 := ofBe_lt m
    rw [hl'] at h1
    have hp : 0 < 256 ^ m.length := Nat.pow_pos (by decide)
    have hc : c.toNat = d.toNat := by
      have e1 : (c.toNat * 256 ^ m.length + ofBe l) / 256 ^ m.length = c.toNat := by rw [Nat.mul_comm, Nat.mul_add_div hp, Nat.div_eq_of_lt h1, Nat.add_zero]
      have e2 : (d.toNat * 256 ^ m.length + ofBe m) / 256 ^ m.length = d.toNat := by rw [Nat.mul_comm, Nat.mul_add_div hp, Nat.div_eq_of_lt h2, Nat.add_zero]
      rw [← e1, ← e2, h]
    rw [hc] at h
    rw [UInt8.toNat_inj.1 hc, ofBe_inj l m hl' (by omega)]

theorem mid {α : Type} (a m c : List α) (i j : Nat) (hi : a.length = i) (hj : m.length = j) : ((a ++ m ++ c).drop i).take j = m := by
  subst hi hj
  rw [List.append_assoc, List.drop_left, List.take_left]
theorem be_sum (l : List UInt8) : ofBe (be (sumN l) 4) = sumN l := by rw [ofBe_be]; exact Nat.mod_eq_of_lt (sumN_lt l)

/-- Unframe at what has the make of a frame, whatever stands in its parts. -/
theorem unframe_parts (h s b s' t : List UInt8) (hh : h.length = 5) (hs : s.length = 4) (hs' : s'.length = 4) (h0 : h.getD 0 0 = 201) (hn : ofBe ((h.drop 1).take 4) = b.length) (hb : b.length ≤ 16777216) :
    UnframeR (h ++ s ++ b ++ s' ++ t) = if sumN h ≠ ofBe s then ([], 0, 32) else if sumN b ≠ ofBe s' then ([], 0, 32) else (b, b.length + 13, 0) := by
  have hlen : (h ++ s ++ b ++ s' ++ t).length = b.length + 13 + t.length := by simp only [List.length_append]; omega
  have e0 : (h ++ s ++ b ++ s' ++ t).getD 0 0 = 201 := by
    rw [← h0]
    cases h with
    | nil => simp at hh
    | cons x h => rfl
  have e1 : (h ++ s ++ b ++ s' ++ t).take 5 = h := by rw [List.append_assoc, List.append_assoc, List.append_assoc]; exact List.take_left' hh
  have e2 : ((h ++ s ++ b ++ s' ++ t).drop 5).take 4 = s := by
    have := mid h s (b ++ s' ++ t) 5 4 hh hs
    simpa only [List.append_assoc] using this
  have e3 : ((h ++ s ++ b ++ s' ++ t).drop 1).take 4 = (h.drop 1).take 4 := by
    cases h with
    | nil => simp at hh
    | cons x h =>
      have hl : h.length = 4 := by simpa using hh
      show (h ++ s ++ b ++ s' ++ t).take 4 = h.take 4
      rw [List.append_assoc, List.append_assoc, List.append_assoc, List.take_left' hl, List.take_of_length_le (by omega)]
  have e4 : ((h ++ s ++ b ++ s' ++ t).drop 9).take b.length = b := by
    have := mid (h ++ s) b (s' ++ t) 9 b.length (by rw [List.length_append]; omega) rfl
    simpa only [List.append_assoc] using this
  have e5 : ((h ++ s ++ b ++ s' ++ t).drop (9 + b.length)).take 4 = s' := mid (h ++ s ++ b) s' t _ 4 (by simp only [List.length_append]; omega) hs'
  unfold UnframeR
  rw [e0, e1, e2, e3, hn, e4, e5, hlen]
  rw [if_neg (by omega), if_neg (by simp), if_neg (by omega)]
  split
  · rfl
  · rw [if_neg (by omega), if_neg (by omega)]

theorem hd_get (n : Nat) : (hd n).getD 0 0 = 201 := by unfold hd; simp [be]
theorem hd_num (n : Nat) (h : n ≤ 16777216) : ofBe (((hd n).drop 1).take 4) = n := by
  have : ((hd n).drop 1).take 4 = be n 4 := by
    unfold hd
    show (be n 4).take 4 = be n 4
    rw [List.take_of_length_le (by rw [be_length]; omega)]
  rw [this, ofBe_be]
  exact Nat.mod_eq_of_lt (by omega)
theorem unframe_frm (b t : List UInt8) (hb : b.length ≤ 16777216) : UnframeR (frm b ++ t) = (b, b.length + 13, 0) := by
  unfold frm
  rw [unframe_parts (hd b.length) _ b _ t (hd_length _) (be_length _ _) (be_length _ _) (hd_get _) (hd_num _ hb) hb, be_sum, be_sum]
  simp
theorem getD_take {l : List UInt8} {k : Nat} (hk : 0 < k) : (l.take k).getD 0 0 = l.getD 0 0 := by
  cases l with
  | nil => simp
  | cons x l => match k, hk with | k + 1, _ => rfl
theorem unframe_short (b : List UInt8) (k : Nat) (hb : b.length ≤ 16777216) (hk : k < (frm b).length) : UnframeR ((frm b).take k) = ([], 0, 30) := by
  have hl : ((frm b).take k).length = k := by rw [List.length_take]; omega
  have h0 : (frm b).getD 0 0 = 201 := by unfold frm; rw [show (hd b.length ++ be (sumN (hd b.length)) 4 ++ b ++ be (sumN b) 4) = 201 :: (be b.length 4 ++ be (sumN (hd b.length)) 4 ++ b ++ be (sumN b) 4) from rfl]; rfl
  have hlen := frm_length b
  unfold UnframeR
  rw [hl]
  by_cases k0 : k = 0
  · rw [if_pos k0]
  · rw [if_neg k0, getD_take (by omega), h0, if_neg (by simp)]
    by_cases k9 : k < 9
    · rw [if_pos k9]
    · rw [if_neg k9]
      have tt : ∀ i j, i + j ≤ 9 → (((frm b).take k).drop i).take j = ((frm b).drop i).take j := by
        intro i j hij
        rw [List.drop_take, List.take_take, Nat.min_eq_left (by omega)]
      have e1 : ((frm b).take k).take 5 = hd b.length := by
        rw [List.take_take, Nat.min_eq_left (by omega)]
        unfold frm
        rw [List.append_assoc, List.append_assoc]
        exact List.take_left' (hd_length _)
      have e2 : (((frm b).take k).drop 5).take 4 = be (sumN (hd b.length)) 4 := by
        rw [tt 5 4 (by omega)]
        have := mid (hd b.length) (be (sumN (hd b.length)) 4) (b ++ be (sumN b) 4) 5 4 (hd_length _) (be_length _ _)
        simpa only [frm, List.append_assoc] using this
      have e3 : ofBe ((((frm b).take k).drop 1).take 4) = b.length := by
        rw [tt 1 4 (by omega)]
        have : ((frm b).drop 1).take 4 = ((hd b.length).drop 1).take 4 := by
          unfold frm
          rw [List.append_assoc, List.append_assoc, List.drop_append_of_le_length (by rw [hd_length]; omega), List.take_append_of_le_length (by rw [List.length_drop, hd_length]; omega)]
        rw [this, hd_num _ hb]
      rw [e1, e2, be_sum, if_neg (by simp), e3, if_neg (by omega), if_pos (by omega)]

theorem xor_ne (x y : UInt8) (hy : y ≠ 0) : x ^^^ y ≠ x := by
  intro h
  have := congrArg (x ^^^ ·) h
  simp only [UInt8.xor_self, ← UInt8.xor_assoc, UInt8.zero_xor] at this
  exact hy this
/-- One byte changed. -/
def bent (l : List UInt8) (i : Nat) (y : UInt8) : List UInt8 := l.set i (l.getD i 0 ^^^ y)
theorem bent_length (l : List UInt8) (i : Nat) (y : UInt8) : (bent l i y).length = l.length := by simp [bent]
theorem bent_ne {l : List UInt8} {i : Nat} {y : UInt8} (hy : y ≠ 0) (hi : i < l.length) : bent l i y ≠ l := by
  intro h
  have := congrArg (fun m => m.getD i 0) h
  simp only [bent, List.getD, List.getElem?_set_self hi, Option.getD_some, List.getElem?_eq_getElem hi] at this
  exact xor_ne _ y hy this
theorem bent_sum {l : List UInt8} {i : Nat} {y : UInt8} (hy : y ≠ 0) (hi : i < l.length) : sumN (bent l i y) ≠ sumN l := by
  intro h
  have h' : Crc.sum (bent l i y) = Crc.sum l := BitVec.eq_of_toNat_eq h
  have e1 : l = l.take i ++ [l[i]] ++ l.drop (i + 1) := by simp
  have e2 : bent l i y = l.take i ++ [l[i] ^^^ y] ++ l.drop (i + 1) := by
    unfold bent
    rw [List.set_eq_take_append_cons_drop, if_pos hi]
    simp [List.getD, hi]
  rw [e2] at h'
  have e3 : Crc.sum l = Crc.sum (l.take i ++ [l[i]] ++ l.drop (i + 1)) := congrArg Crc.sum e1
  rw [e3] at h'
  have := Crc.sum_burst (l.take i) [l[i] ^^^ y] [l[i]] (l.drop (i + 1)) rfl (by rw [List.length_singleton]; decide) h'
  exact xor_ne _ y hy (by simpa using this)
theorem bent_left (a c : List UInt8) (i : Nat) (y : UInt8) (hi : i < a.length) : bent (a ++ c) i y = bent a i y ++ c := by
  unfold bent
  rw [List.set_append_left _ _ hi]
  congr 2
  simp [List.getD, List.getElem?_append_left hi]
theorem bent_right (a c : List UInt8) (i : Nat) (y : UInt8) (hi : a.length ≤ i) : bent (a ++ c) i y = a ++ bent c (i - a.length) y := by
  unfold bent
  rw [List.set_append_right _ _ hi]
  congr 2
  simp [List.getD, List.getElem?_append_right hi]
theorem unframe_bent (b t : List UInt8) (i : Nat) (y : UInt8) (hb : b.length ≤ 16777216) (hi : i < (frm b).length) (hy : y ≠ 0) : ∃ e, UnframeR (bent (frm b) i y ++ t) = ([], 0, e) ∧ (e = 32 ∨ e = 34) := by
  rw [frm_length] at hi
  by_cases h0 : i = 0
  · subst h0
    refine ⟨34, ?_, .inr rfl⟩
    have e : bent (frm b) 0 y ++ t = (201 ^^^ y) :: ((be b.length 4 ++ be (sumN (hd b.length)) 4 ++ b ++ be (sumN b) 4) ++ t) := by
      show bent (201 :: (be b.length 4 ++ be (sumN (hd b.length)) 4 ++ b ++ be (sumN b) 4)) 0 y ++ t = _
      rfl
    rw [e]
    unfold UnframeR
    rw [if_neg (by simp), if_pos]
    show ¬ (201 ^^^ y) = 201
    exact xor_ne 201 y hy
  · by_cases h5 : i < 5
    · -- in the head's length
      refine ⟨32, ?_, .inl rfl⟩
      have hne := bent_sum hy (l := hd b.length) (i := i) (by rw [hd_length]; exact h5)
      have e : bent (frm b) i y = bent (hd b.length) i y ++ be (sumN (hd b.length)) 4 ++ (b ++ be (sumN b) 4) := by
        unfold frm
        rw [List.append_assoc, bent_left _ _ _ _ (by rw [List.length_append, hd_length]; omega), bent_left _ _ _ _ (by rw [hd_length]; exact h5)]
      have hl5 : (bent (hd b.length) i y).length = 5 := by rw [bent_length, hd_length]
      have g0 : (bent (hd b.length) i y).getD 0 0 = 201 := by
        unfold bent
        rw [← hd_get b.length]
        simp [List.getD, List.getElem?_set_ne h0]
      rw [e]
      unfold UnframeR
      have x0 : (bent (hd b.length) i y ++ be (sumN (hd b.length)) 4 ++ (b ++ be (sumN b) 4) ++ t).getD 0 0 = 201 := by
        rw [← g0]
        cases hh : bent (hd b.length) i y with
        | nil => rw [hh] at hl5; simp at hl5
        | cons x l => rfl
      have x1 : (bent (hd b.length) i y ++ be (sumN (hd b.length)) 4 ++ (b ++ be (sumN b) 4) ++ t).take 5 = bent (hd b.length) i y := by
        rw [List.append_assoc, List.append_assoc]; exact List.take_left' hl5
      have x2 : ((bent (hd b.length) i y ++ be (sumN (hd b.length)) 4 ++ (b ++ be (sumN b) 4) ++ t).drop 5).take 4 = be (sumN (hd b.length)) 4 := by
        have := mid (bent (hd b.length) i y) (be (sumN (hd b.length)) 4) ((b ++ be (sumN b) 4) ++ t) 5 4 hl5 (be_length _ _)
        simpa only [List.append_assoc] using this
      have xl : (bent (hd b.length) i y ++ be (sumN (hd b.length)) 4 ++ (b ++ be (sumN b) 4) ++ t).length = b.length + 13 + t.length := by simp only [List.length_append, hl5, be_length]; omega
      rw [x0, x1, x2, be_sum, xl, if_neg (by omega), if_neg (by simp), if_neg (by omega), if_pos hne]
    · refine ⟨32, ?_, .inl rfl⟩
      have key : ∀ (s b' s' : List UInt8), s.length = 4 → b'.length = b.length → s'.length = 4 → bent (frm b) i y = hd b.length ++ s ++ b' ++ s' → (sumN (hd b.length) ≠ ofBe s ∨ sumN b' ≠ ofBe s') → UnframeR (bent (frm b) i y ++ t) = ([], 0, 32) := by
        intro s b' s' h1 h2 h3 he hne
        rw [he, unframe_parts (hd b.length) s b' s' t (hd_length _) h1 h3 (hd_get _) (by rw [hd_num _ hb, h2]) (by omega)]
        rcases hne with h | h
        · rw [if_pos h]
        · rw [if_pos h]; split <;> rfl
      by_cases h9 : i < 9
      · refine key (bent (be (sumN (hd b.length)) 4) (i - 5) y) b (be (sumN b) 4) (by rw [bent_length, be_length]) rfl (be_length _ _) ?_ (.inl ?_)
        · unfold frm
          rw [List.append_assoc, bent_left _ _ _ _ (by rw [List.length_append, hd_length, be_length]; omega), bent_right _ _ _ _ (by rw [hd_length]; omega), hd_length, ← List.append_assoc]
        · intro h
          have h' : ofBe (be (sumN (hd b.length)) 4) = ofBe (bent (be (sumN (hd b.length)) 4) (i - 5) y) := by rw [be_sum]; exact h
          exact bent_ne hy (by rw [be_length]; omega) (ofBe_inj _ _ (by rw [bent_length]) h').symm
      · by_cases hb9 : i < 9 + b.length
        · refine key (be (sumN (hd b.length)) 4) (bent b (i - 9) y) (be (sumN b) 4) (be_length _ _) (bent_length _ _ _) (be_length _ _) ?_ (.inr ?_)
          · unfold frm
            rw [bent_left _ _ _ _ (by simp only [List.length_append, hd_length, be_length]; omega), bent_right _ _ _ _ (by simp only [List.length_append, hd_length, be_length]; omega), List.length_append, hd_length, be_length]
          · rw [be_sum]
            exact bent_sum hy (by omega)
        · refine key (be (sumN (hd b.length)) 4) b (bent (be (sumN b) 4) (i - (9 + b.length)) y) (be_length _ _) rfl (by rw [bent_length, be_length]) ?_ (.inr ?_)
          · unfold frm
            rw [bent_right _ _ _ _ (by simp only [List.length_append, hd_length, be_length]; omega)]
            simp only [List.length_append, hd_length, be_length]
          · intro h
            have h' : ofBe (be (sumN b) 4) = ofBe (bent (be (sumN b) 4) (i - (9 + b.length)) y) := by rw [be_sum]; exact h
            exact bent_ne hy (by rw [be_length]; omega) (ofBe_inj _ _ (by rw [bent_length]) h').symm
end Go.Proofs.YtnbpkignkfabkaaGreatDoor
