/- record.Unframe. -/
import Derived.Test.YtnbpkignkfabkaaDoorFrame
namespace Go.Proofs.YtnbpkignkfabkaaDoor
set_option linter.unusedVariables false
set_option linter.unusedSimpArgs false
open Go.RowKit
/-- A callee that leaves the world alone, in a region that draws; and in one behind another. -/
theorem qone {P : Program} {f : FuncId} {args : Array Value} {w : World} {n : Nat} {v : Value} (h : Calls P f args (w.drewN n) fun e w' => e = .returned v ∧ w.drewN n = w') :
    Calls P f args (w.drewN n) fun e w'' => e = .returned v ∧ ∃ m, w'' = w.drewN m := h.mono fun _ _ ⟨he, hm⟩ => ⟨he, n, hm.symm⟩
theorem qtwo {P : Program} {f : FuncId} {args : Array Value} {w : World} {a n : Nat} {v : Value} (h : Calls P f args (w.drewN (a + n)) fun e w' => e = .returned v ∧ w.drewN (a + n) = w') :
    Calls P f args (w.drewN (a + n)) fun e w'' => e = .returned v ∧ ∃ m, w'' = w.drewN (a + m) := h.mono fun _ _ ⟨he, hm⟩ => ⟨he, n, hm.symm⟩
theorem Byt.drewN {w : World} {a : Option Addr} {l : List UInt8} (h : Byt w a l) (n : Nat) : Byt (w.drewN n) a l := h
theorem Tab.drewN {w : World} (h : Tab w) (n : Nat) : Tab (w.drewN n) := h
theorem Byt.sub {w : World} {b o : Nat} {l : List UInt8} (h : Byt w (some ⟨b, o, none⟩) l) (i j : Nat) (hj : i + j ≤ l.length) : Byt w (some ⟨b, o + i, none⟩) ((l.drop i).take j) ∧ ((l.drop i).take j).length = j := by
  refine ⟨fun k hk => ?_, by rw [List.length_take, List.length_drop]; omega⟩
  rw [List.length_take, List.length_drop] at hk
  refine ⟨b, o + i, rfl, ?_⟩
  rw [Nat.add_assoc, h.at_ (by omega)]
  simp

def UnframeR (b : List UInt8) : List UInt8 × Nat × Int :=
  if b.length = 0 then ([], 0, 30) else if b.getD 0 0 ≠ 201 then ([], 0, 34) else if b.length < 9 then ([], 0, 30) else
  if sumN (b.take 5) ≠ ofBe ((b.drop 5).take 4) then ([], 0, 32) else
  if 16777216 < ofBe ((b.drop 1).take 4) then ([], 0, 31) else if b.length < ofBe ((b.drop 1).take 4) + 13 then ([], 0, 30) else
  if sumN ((b.drop 9).take (ofBe ((b.drop 1).take 4))) ≠ ofBe ((b.drop (9 + ofBe ((b.drop 1).take 4))).take 4) then ([], 0, 32) else
  ((b.drop 9).take (ofBe ((b.drop 1).take 4)), ofBe ((b.drop 1).take 4) + 13, 0)
def OwnNErr (w w' : World) (r : Ending) (q : List UInt8 × Nat × Int) : Prop := ∃ v, r = .returned (.tuple #[v, .int .i64 q.2.1, .int .i64 q.2.2]) ∧ Own w' w.heap.size 5 1 v q.1.length (bys q.1) ∧ Below w.heap.size w w'

theorem Sum_q {w : World} {a : Option Addr} {l : List UInt8} {k c : Nat} (h : Byt w a l) (hl : l.length = k) (ht : Tab w) (hs : l.length ≤ 140737488355328) (n : Nat) : Calls Tryd.prog 36 #[.slice a k c] (w.drewN n) fun e w' => e = .returned (.int .u32 (sumN l)) ∧ w.drewN n = w' := by
  subst hl
  exact SumN_calls a c (w.drewN n) l hs (h.drewN n) (ht.drewN n)
theorem number_q {w : World} {a : Option Addr} {l : List UInt8} {k c : Nat} (h : Byt w a l) (hl : l.length = k) (hs : k ≤ 8) (n : Nat) : Calls Tryd.prog 37 #[.slice a k c] (w.drewN n) fun e w' => e = .returned (.int .u64 (ofBe l)) ∧ w.drewN n = w' := by
  subst hl
  exact number_calls a c l (w.drewN n) (h.drewN n) hs

theorem Clone_q {w : World} {a : Option Addr} {l : List UInt8} {k c : Nat} (h : Byt w a l) (hl : l.length = k) (hs : k ≤ 140737488355328) (n : Nat) : Calls Tryd.prog 33 #[.slice a k c] (w.drewN n) fun r w' => ∃ v', r = .returned v' ∧ Own w' w.heap.size 5 1 v' l.length (bys l) ∧ Below w.heap.size (w.drewN n) w' := by
  subst hl
  exact Clone_calls a c l (w.drewN n) (h.drewN n) hs
set_option maxRecDepth 100000 in
set_option maxHeartbeats 2000000 in
theorem Unframe_early (w : World) (b : List UInt8) (a : Option Addr) (cap : Nat) (h : Byt w a b) (hq : b.length = 0 ∨ b.getD 0 0 ≠ 201 ∨ b.length < 9) (hs : b.length ≤ 140737488355328) :
    Calls Tryd.prog 26 #[.slice a b.length cap] w fun r w' => OwnNErr w w' r (UnframeR b) := by
  unfold UnframeR
  by_cases h0 : b.length = 0
  · have t0 : ((b.length : Int) == 0) = true := by simp [h0]
    rw [if_pos h0]
    clear hq h h0
    go_enter Tryd.func26, Tryd.ntmps26
    go_wp2
    go_ret3
    exact ⟨_, rfl, Own.nil _ _ _ _, Below.refl _ _⟩
  · have t0 : ((b.length : Int) == 0) = false := beq_eq_false_iff_ne.2 (by omega)
    obtain ⟨bl, o, rfl, hc⟩ := h 0 (by omega)
    obtain ⟨c, hcc⟩ : ∃ c, b[0]'(by omega) = c := ⟨_, rfl⟩
    have hg : b.getD 0 0 = c := by rw [← hcc]; simp [List.getD, show 0 < b.length by omega]
    rw [hcc, Nat.add_zero] at hc
    rw [hg] at hq ⊢
    have clt := c.toNat_lt
    clear hg hcc
    by_cases h1 : c = 201
    · have h2 : b.length < 9 := by rcases hq with e | e | e; exact absurd e h0; exact absurd h1 e; exact e
      have t1 : (((c.toNat : Nat) : Int) != 201) = false := by rw [h1]; rfl
      have t2 : decide ((b.length : Int) < 9) = true := decide_eq_true (by omega)
      rw [if_neg h0, if_neg (by simp [h1]), if_pos h2]
      clear hq h
      go_enter Tryd.func26, Tryd.ntmps26
      go_wp2
      go_ret3
      exact ⟨_, rfl, Own.nil _ _ _ _, Below.refl _ _⟩
    · have t1 : (((c.toNat : Nat) : Int) != 201) = true := by
        rw [bne_iff_ne]
        intro e
        exact h1 (UInt8.toNat_inj.1 (by show c.toNat = 201; omega))
      rw [if_neg h0, if_pos h1]
      clear hq h h1
      go_enter Tryd.func26, Tryd.ntmps26
      go_wp2
      go_ret3
      exact ⟨_, rfl, Own.nil _ _ _ _, Below.refl _ _⟩

set_option maxRecDepth 100000 in
set_option maxHeartbeats 2000000 in
theorem Unframe_late (w : World) (b : List UInt8) (bl o : Nat) (cap : Nat) (h : Byt w (some ⟨bl, o, none⟩) b) (hcap : b.length ≤ cap) (h9 : 9 ≤ b.length) (hm : b.getD 0 0 = 201) (hs : b.length ≤ 140737488355328) (ht : Tab w) :
    Calls Tryd.prog 26 #[.slice (some ⟨bl, o, none⟩) b.length cap] w fun r w' => OwnNErr w w' r (UnframeR b) := by
  have H := Lib.hid h
  have HT := Lib.hid ht; clear ht
  have t0 : ((b.length : Int) == 0) = false := beq_eq_false_iff_ne.2 (by omega)
  have c0 : w.cell? ⟨bl, o, none⟩ = some (.int .u8 201) := by
    have := h.at_ (i := 0) (by omega)
    rw [Nat.add_zero] at this
    rw [this]
    have hg : b[0]'(by omega) = 201 := by rw [← hm]; simp [List.getD, show 0 < b.length by omega]
    rw [hg]; rfl
  have t1 : ((201 : Int) != 201) = false := rfl
  have t2 : decide ((b.length : Int) < 9) = false := decide_eq_false (by omega)
  have hcap5 : Hid (9 ≤ cap) := by show _ ≤ _; omega
  have hcap' : 9 ≤ cap := by omega
  obtain ⟨s1, hs1⟩ := h.sub 0 5 (by omega)
  obtain ⟨s2, hs2⟩ := h.sub 5 4 (by omega)
  obtain ⟨s3, hs3⟩ := h.sub 1 4 (by omega)
  rw [Nat.add_zero, List.drop_zero] at s1
  rw [List.drop_zero] at hs1
  have S1 := Lib.hid s1; have S2 := Lib.hid s2; have S3 := Lib.hid s3
  clear h s1 s2 s3
  have q1 := fun n => Lib.hid (Sum_q (c := cap) S1.out hs1 HT.out (by omega) n)
  have q2 := fun n => Lib.hid (number_q (c := cap - 5) S2.out hs2 (by decide) n)
  have q3 := fun n => Lib.hid (number_q (c := cap - 1) S3.out hs3 (by decide) n)
  unfold UnframeR
  rw [if_neg (by omega), if_neg (fun e => e hm), if_neg (by omega)]
  obtain ⟨x1, e1⟩ : ∃ x, sumN (b.take 5) = x := ⟨_, rfl⟩
  obtain ⟨x2, e2⟩ : ∃ x, ofBe ((b.drop 5).take 4) = x := ⟨_, rfl⟩
  obtain ⟨n, en⟩ : ∃ x, ofBe ((b.drop 1).take 4) = x := ⟨_, rfl⟩
  have l1 : x1 < 4294967296 := by rw [← e1]; exact sumN_lt _
  have l2 : n < 4294967296 := by rw [← en]; have := ofBe_lt ((b.drop 1).take 4); rw [hs3] at this; simpa using this
  rw [e1] at q1 ⊢
  rw [e2] at q2 ⊢
  rw [en] at q3 ⊢
  have HS3 := Lib.hid hs3
  clear e1 e2 en hs1 hs2 hs3 hm hcap5
  by_cases hne : x1 = x2
  · rw [if_neg (fun h => h hne)]
    have t3 : ((x1 : Int) != (x2 : Int)) = false := by rw [hne]; simp
    clear hne
    by_cases hn : 16777216 < n
    · rw [if_pos hn]
      have t4 : decide ((16777216 : Int) < (n : Int)) = true := decide_eq_true (by omega)
      go_enter Tryd.func26, Tryd.ntmps26
      go_wp2
      go_quiet (first | ((go_at_call 36; exact qone (q1 _).out)) | ((go_at_call 37; exact qone (q2 _).out)))
      go_wp2_with fail
      refine ((q3 _).out).mono ?_
      rintro r w1 ⟨rfl, rfl⟩
      go_wp2
      go_ret3
      exact ⟨_, rfl, Own.nil _ _ _ _, bel_drewN (Below.refl _ _) _⟩
    · rw [if_neg hn]
      have t4 : decide ((16777216 : Int) < (n : Int)) = false := decide_eq_false (by omega)
      by_cases hlen : b.length < n + 13
      · rw [if_pos hlen]
        have t5 : decide ((b.length : Int) < 9 + (n : Int) + 4) = true := decide_eq_true (by omega)
        go_enter Tryd.func26, Tryd.ntmps26
        go_wp2
        go_quiet (first | ((go_at_call 36; exact qone (q1 _).out)) | ((go_at_call 37; exact qone (q2 _).out)))
        go_wp2_with fail
        refine ((q3 _).out).mono ?_
        rintro r w1 ⟨rfl, rfl⟩
        go_wp2
        go_ret3
        exact ⟨_, rfl, Own.nil _ _ _ _, bel_drewN (Below.refl _ _) _⟩
      · rw [if_neg hlen]
        have t5 : decide ((b.length : Int) < 9 + (n : Int) + 4) = false := decide_eq_false (by omega)
        obtain ⟨s4, hs4⟩ := H.out.sub 9 n (by omega)
        obtain ⟨s5, hs5⟩ := H.out.sub (9 + n) 4 (by omega)
        have S4 := Lib.hid s4; have S5 := Lib.hid s5
        clear s4 s5
        have HB4 := Lib.hid hs4
        have q4 := fun k => Lib.hid (Sum_q (c := cap - 9) S4.out hs4 HT.out (by omega) k)
        have q5 := fun k => Lib.hid (number_q (c := cap - (9 + n)) S5.out hs5 (by decide) k)
        obtain ⟨y1, e1⟩ : ∃ x, sumN ((b.drop 9).take n) = x := ⟨_, rfl⟩
        obtain ⟨y2, e2⟩ : ∃ x, ofBe ((b.drop (9 + n)).take 4) = x := ⟨_, rfl⟩
        have l3 : y1 < 4294967296 := by rw [← e1]; exact sumN_lt _
        rw [e1] at q4 ⊢
        rw [e2] at q5 ⊢
        clear e1 e2 hs4 hs5
        have hcn : 9 + n + 4 ≤ cap := by omega
        by_cases hy : y1 = y2
        · rw [if_neg (fun h => h hy)]
          have t6 : ((y1 : Int) != (y2 : Int)) = false := by rw [hy]; simp
          clear hy
          rcases Nat.eq_zero_or_pos n with rfl | hpos
          · go_enter Tryd.func26, Tryd.ntmps26
            go_wp2
            go_quiet (first | ((go_at_call 36; exact qone (q1 _).out)) | ((go_at_call 37; exact qone (q2 _).out)))
            go_wp2_with fail
            refine ((q3 _).out).mono ?_
            rintro r w1 ⟨rfl, rfl⟩
            go_wp2
            go_quiet (first | ((go_at_call 36; exact qtwo (q4 _).out)) | ((go_at_call 37; exact qtwo (q5 _).out)))
            go_wp2_with fail
            refine (Clone_calls (some ⟨bl, o, none⟩) 0 [] _ (Byt.nil _ _) (by decide)).mono ?_
            rintro r w2 ⟨v2, rfl, ho, hbel⟩
            have O2 := Lib.hid ho; have B2 := Lib.hid hbel
            clear ho hbel
            go_wp2
            go_ret3
            exact ⟨_, rfl, by simpa using O2.out, (bel_drewN (Below.refl _ w) _).trans B2.out⟩
          · have hn0 : ¬ n = 0 := by omega
            go_enter Tryd.func26, Tryd.ntmps26
            go_wp2
            go_quiet (first | ((go_at_call 36; exact qone (q1 _).out)) | ((go_at_call 37; exact qone (q2 _).out)))
            go_wp2_with fail
            refine ((q3 _).out).mono ?_
            rintro r w1 ⟨rfl, rfl⟩
            go_wp2
            go_quiet (first | ((go_at_call 36; exact qtwo (q4 _).out)) | ((go_at_call 37; exact qtwo (q5 _).out)))
            go_wp2_with fail
            refine (Clone_q (c := n) S4.out HB4.out (by omega) _).mono ?_
            rintro r w2 ⟨v2, rfl, ho, hbel⟩
            have O2 := Lib.hid ho; have B2 := Lib.hid hbel
            clear ho hbel
            go_wp2
            go_ret3
            have e13 : ((9 : Int) + (n : Int) + 4) = ((n + 13 : Nat) : Int) := by omega
            exact ⟨v2, by show Ending.returned (.tuple #[v2, .int .i64 ((9 : Int) + (n : Int) + 4), .int .i64 0]) = _; rw [e13], O2.out, (bel_drewN (Below.refl _ w) _).trans B2.out⟩
        · rw [if_pos hy]
          have t6 : ((y1 : Int) != (y2 : Int)) = true := by rw [bne_iff_ne]; omega
          clear hy
          go_enter Tryd.func26, Tryd.ntmps26
          go_wp2
          go_quiet (first | ((go_at_call 36; exact qone (q1 _).out)) | ((go_at_call 37; exact qone (q2 _).out)))
          go_wp2_with fail
          refine ((q3 _).out).mono ?_
          rintro r w1 ⟨rfl, rfl⟩
          go_wp2
          go_quiet (first | ((go_at_call 36; exact qtwo (q4 _).out)) | ((go_at_call 37; exact qtwo (q5 _).out)))
          go_wp2
          go_ret3
          exact ⟨_, rfl, Own.nil _ _ _ _, bel_drewN (bel_drewN (Below.refl _ w) _) _⟩
  · rw [if_pos hne]
    have t3 : ((x1 : Int) != (x2 : Int)) = true := by rw [bne_iff_ne]; omega
    clear hne
    go_enter Tryd.func26, Tryd.ntmps26
    go_wp2
    go_quiet (first | ((go_at_call 36; exact qone (q1 _).out)) | ((go_at_call 37; exact qone (q2 _).out)))
    go_wp2
    go_ret3
    exact ⟨_, rfl, Own.nil _ _ _ _, bel_drewN (Below.refl _ _) _⟩
theorem Unframe_calls (w : World) (b : List UInt8) (a : Option Addr) (cap : Nat) (h : Byt w a b) (hcap : b.length ≤ cap) (hs : b.length ≤ 140737488355328) (ht : Tab w) :
    Calls Tryd.prog 26 #[.slice a b.length cap] w fun r w' => OwnNErr w w' r (UnframeR b) := by
  by_cases hq : b.length = 0 ∨ b.getD 0 0 ≠ 201 ∨ b.length < 9
  · exact Unframe_early w b a cap h hq hs
  · have h9 : 9 ≤ b.length := by omega
    obtain ⟨bl, o, rfl, _⟩ := h 0 (by omega)
    exact Unframe_late w b bl o cap h hcap h9 (by
      by_cases e : b.getD 0 0 = 201
      · exact e
      · exact absurd (.inr (.inl e)) hq) hs ht
end Go.Proofs.YtnbpkignkfabkaaDoor
