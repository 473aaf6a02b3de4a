/- posternref3.Unframe. -/
import Derived.Test.YtnbpkignkfabkaaGreatDoorRef3
import Derived.IntWalk
namespace Go.Proofs.YtnbpkignkfabkaaGreatDoor
set_option linter.unusedVariables false
set_option linter.unusedSimpArgs false
open Go.RowKit
theorem be_eq (x : Nat) (s : List UInt8) (hs : s.length = 4) (hx : x < 4294967296) : decide (be x 4 = s) = decide (x = ofBe s) := by
  have h1 : ofBe (be x 4) = x := by rw [ofBe_be]; exact Nat.mod_eq_of_lt hx
  by_cases h : x = ofBe s
  · rw [decide_eq_true h, decide_eq_true (ofBe_inj _ _ (by rw [be_length, hs]) (by rw [h1, h]))]
  · rw [decide_eq_false h, decide_eq_false (fun e => h (by rw [← e, h1]))]
theorem tup3 (v : Value) {a b : Int} (h : a = b) : Ending.returned (.tuple #[v, .int .i64 a, .int .i64 0]) = Ending.returned (.tuple #[v, .int .i64 b, .int .i64 0]) := by rw [h]
/-- The sum of some bytes, and whether others are it: what is asked of both. -/
theorem SC_of {w : World} {a : Option Addr} {l : List UInt8} {k c : Nat} (h : Byt w a l) (hl : l.length = k) (hs : k ≤ 140737488355328) : ∀ wx, Below w.heap.size w wx →
    Calls Tryz.prog 121 #[.slice a k c] wx fun r w' => ∃ a1 c1, r = .returned (.slice a1 4 c1) ∧ Byt w' a1 (be (sumN l) 4) ∧ Below w.heap.size w w' := by
  intro wx hb
  subst hl
  refine (sum_calls a c wx l hs (h.below hb)).mono ?_
  rintro r w' ⟨v, rfl, ho, hb'⟩
  rw [be_length] at ho
  obtain ⟨a1, c1, rfl, _, _, hy, _⟩ := own_vn ho
  exact ⟨a1, c1, rfl, hy, hb.trans (hb'.mono hb.size)⟩
theorem EQ_of {w : World} {a : Option Addr} {l : List UInt8} {c x : Nat} (h : Byt w a l) (hl : l.length = 4) (hx : x < 4294967296) : ∀ wx a1 c1, Byt wx a1 (be x 4) → Below w.heap.size w wx →
    Calls Tryz.prog 124 #[.slice a1 4 c1, .slice a 4 c] wx fun r w' => BoolN wx w' r (decide (x = ofBe l)) := by
  intro wx a1 c1 hy hb
  have e := Eq_calls a1 a c1 c (be x 4) l wx hy (h.below hb) (by rw [be_length]; decide)
  rw [be_length, hl, be_eq x l hl hx] at e
  exact e
theorem Unframe3_early (w : World) (b : List UInt8) (a : Option Addr) (cap : Nat) (h : Byt w a b) (hq : b.length = 0 ∨ b.getD 0 0 ≠ 201 ∨ b.length < 9) (hs : b.length ≤ 140737488355328) :
    Calls Tryz.prog 117 #[.slice a b.length cap] w fun r w' => OwnNErr w w' r (UnframeR b) := by
  unfold UnframeR
  by_cases h0 : b.length = 0
  · have t0 : ((b.length : Int) == 0) = true := by simp [h0]
    rw [if_pos h0]
    clear hq h h0
    go_enter Tryz.func117, Tryz.ntmps117
    go_wp2
    go_ret3
    exact ⟨_, rfl, Own.nil _ _ _ _, Below.refl _ _⟩
  · have t0 : ((b.length : Int) == 0) = false := beq_eq_false_iff_ne.2 (by omega)
    obtain ⟨bl, o, rfl, hc⟩ := h 0 (by omega)
    obtain ⟨c, hcc⟩ : ∃ c, b[0]'(by omega) = c := ⟨_, rfl⟩
    have hg : b.getD 0 0 = c := by rw [← hcc]; simp [List.getD, show 0 < b.length by omega]
    rw [hcc, Nat.add_zero] at hc
    rw [hg] at hq ⊢
    have clt := c.toNat_lt
    clear hg hcc
    by_cases h1 : c = 201
    · have h2 : b.length < 9 := by rcases hq with e | e | e; exact absurd e h0; exact absurd h1 e; exact e
      have t1 : (((c.toNat : Nat) : Int) != 201) = false := by rw [h1]; rfl
      have t2 : decide ((b.length : Int) < 9) = true := decide_eq_true (by omega)
      rw [if_neg h0, if_neg (by simp [h1]), if_pos h2]
      clear hq h
      go_enter Tryz.func117, Tryz.ntmps117
      go_wp2
      go_ret3
      exact ⟨_, rfl, Own.nil _ _ _ _, Below.refl _ _⟩
    · have t1 : (((c.toNat : Nat) : Int) != 201) = true := by
        rw [bne_iff_ne]
        intro e
        exact h1 (UInt8.toNat_inj.1 (by show c.toNat = 201; omega))
      rw [if_neg h0, if_pos h1]
      clear hq h h1
      go_enter Tryz.func117, Tryz.ntmps117
      go_wp2
      go_ret3
      exact ⟨_, rfl, Own.nil _ _ _ _, Below.refl _ _⟩

set_option maxRecDepth 100000 in
set_option maxHeartbeats 2000000 in
theorem Unframe3_late (w : World) (b : List UInt8) (bl o : Nat) (cap : Nat) (h : Byt w (some ⟨bl, o, none⟩) b) (hcap : b.length ≤ cap) (h9 : 9 ≤ b.length) (hm : b.getD 0 0 = 201) (hs : b.length ≤ 140737488355328) :
    Calls Tryz.prog 117 #[.slice (some ⟨bl, o, none⟩) b.length cap] w fun r w' => OwnNErr w w' r (UnframeR b) := by
  have H := Lib.hid h
  have t0 : ((b.length : Int) == 0) = false := beq_eq_false_iff_ne.2 (by omega)
  have c0 : w.cell? ⟨bl, o, none⟩ = some (.int .u8 201) := by
    have := h.at_ (i := 0) (by omega)
    rw [Nat.add_zero] at this
    rw [this]
    have hg : b[0]'(by omega) = 201 := by rw [← hm]; simp [List.getD, show 0 < b.length by omega]
    rw [hg]; rfl
  have t1 : ((201 : Int) != 201) = false := rfl
  have t2 : decide ((b.length : Int) < 9) = false := decide_eq_false (by omega)
  have hcap' : 9 ≤ cap := by omega
  obtain ⟨s1, hs1⟩ := h.sub 0 5 (by omega)
  obtain ⟨s2, hs2⟩ := h.sub 5 4 (by omega)
  obtain ⟨s3, hs3⟩ := h.sub 1 4 (by omega)
  rw [Nat.add_zero, List.drop_zero] at s1
  rw [List.drop_zero] at hs1
  have SC := Lib.hid (SC_of (c := cap) s1 hs1 (by decide))
  have EQ := Lib.hid (EQ_of (c := cap - 5) (x := sumN (b.take 5)) s2 hs2 (sumN_lt _))
  have OFH := fun (wx : World) (hb : Below w.heap.size w wx) => Of_calls (some ⟨bl, o + 1, none⟩) (cap - 1) ((b.drop 1).take 4) wx (s3.below hb) (by omega)
  rw [hs3] at OFH
  clear h s1 s2 s3
  unfold UnframeR
  rw [if_neg (by omega), if_neg (fun e => e hm), if_neg (by omega)]
  obtain ⟨x1, e1⟩ : ∃ x, sumN (b.take 5) = x := ⟨_, rfl⟩
  obtain ⟨x2, e2⟩ : ∃ x, ofBe ((b.drop 5).take 4) = x := ⟨_, rfl⟩
  obtain ⟨n, en⟩ : ∃ x, ofBe ((b.drop 1).take 4) = x := ⟨_, rfl⟩
  have l2 : n < 4294967296 := by rw [← en]; have := ofBe_lt ((b.drop 1).take 4); rw [hs3] at this; simpa using this
  rw [e1] at EQ SC ⊢
  rw [e2] at EQ ⊢
  rw [en] at OFH ⊢
  have OF := Lib.hid OFH
  have BX := Lib.hid (Below.refl w.heap.size w)
  clear e1 e2 en hs1 hs2 hs3 hm OFH
  obtain ⟨q, hq⟩ : ∃ q, decide (x1 = x2) = q := ⟨_, rfl⟩
  rw [hq] at EQ
  cases q with
  | false =>
    rw [if_pos (of_decide_eq_false hq)]
    clear hq
    go_enter Tryz.func117, Tryz.ntmps117
    go_wp2_with fail
    go_cut [23] (fun v wx => v = .bool true ∧ Below w.heap.size w wx)
    case first =>
      go_region_with (first
        | (go_at_call 121; refine (SC.out _ (bel_drew BX.out)).mono ?_; rintro r w1 ⟨a1, c1, rfl, hy1, hb1⟩; have Y1 := Lib.hid hy1; have B1 := Lib.hid hb1; clear hy1 hb1)
        | (go_at_call 124; refine (EQ.out _ _ _ Y1.out B1.out).mono ?_; rintro r w2 ⟨n2, rfl, rfl⟩))
      all_goals go_wp2_with fail
      all_goals go_meet
      all_goals exact ⟨rfl, bel_drewN B1.out _⟩
    case rest =>
      obtain ⟨rfl, hb⟩ := hcut
      have BW := Lib.hid hb; clear hb
      go_wp2
      go_ret3
      exact ⟨_, rfl, Own.nil _ _ _ _, BW.out⟩
  | true =>
    rw [if_neg (fun h => h (of_decide_eq_true hq))]
    clear hq
    by_cases hn : 16777216 < n
    · rw [if_pos hn]
      have t4 : decide ((16777216 : Int) < (n : Int)) = true := decide_eq_true (by omega)
      go_enter Tryz.func117, Tryz.ntmps117
      go_wp2_with fail
      go_cut [23] (fun v wx => v = .bool false ∧ Below w.heap.size w wx)
      case first =>
        go_region_with (first
          | (go_at_call 121; refine (SC.out _ (bel_drew BX.out)).mono ?_; rintro r w1 ⟨a1, c1, rfl, hy1, hb1⟩; have Y1 := Lib.hid hy1; have B1 := Lib.hid hb1; clear hy1 hb1)
          | (go_at_call 124; refine (EQ.out _ _ _ Y1.out B1.out).mono ?_; rintro r w2 ⟨n2, rfl, rfl⟩))
        all_goals go_wp2_with fail
        all_goals go_meet
        all_goals exact ⟨rfl, bel_drewN B1.out _⟩
      case rest =>
        obtain ⟨rfl, hb⟩ := hcut
        have BW := Lib.hid hb; clear hb
        go_wp2_with fail
        refine (OF.out _ BW.out).mono ?_
        rintro r w1 ⟨rfl, rfl⟩
        go_wp2
        go_ret3
        exact ⟨_, rfl, Own.nil _ _ _ _, BW.out⟩
    · rw [if_neg hn]
      have t4 : decide ((16777216 : Int) < (n : Int)) = false := decide_eq_false (by omega)
      by_cases hlen : b.length < n + 13
      · rw [if_pos hlen]
        have t5 : decide ((b.length : Int) < (n : Int) + 13) = true := decide_eq_true (by omega)
        go_enter Tryz.func117, Tryz.ntmps117
        go_wp2_with fail
        go_cut [23] (fun v wx => v = .bool false ∧ Below w.heap.size w wx)
        case first =>
          go_region_with (first
            | (go_at_call 121; refine (SC.out _ (bel_drew BX.out)).mono ?_; rintro r w1 ⟨a1, c1, rfl, hy1, hb1⟩; have Y1 := Lib.hid hy1; have B1 := Lib.hid hb1; clear hy1 hb1)
            | (go_at_call 124; refine (EQ.out _ _ _ Y1.out B1.out).mono ?_; rintro r w2 ⟨n2, rfl, rfl⟩))
          all_goals go_wp2_with fail
          all_goals go_meet
          all_goals exact ⟨rfl, bel_drewN B1.out _⟩
        case rest =>
          obtain ⟨rfl, hb⟩ := hcut
          have BW := Lib.hid hb; clear hb
          go_wp2_with fail
          refine (OF.out _ BW.out).mono ?_
          rintro r w1 ⟨rfl, rfl⟩
          go_wp2
          go_ret3
          exact ⟨_, rfl, Own.nil _ _ _ _, BW.out⟩
      · rw [if_neg hlen]
        have t5 : decide ((b.length : Int) < (n : Int) + 13) = false := decide_eq_false (by omega)
        have hend : 9 + n + 4 ≤ b.length := by omega
        obtain ⟨p1, hp1⟩ := H.out.sub 9 n (by omega)
        obtain ⟨p2, hp2⟩ := H.out.sub (9 + n) 4 (by omega)
        obtain ⟨body, hbody⟩ : ∃ l, (b.drop 9).take n = l := ⟨_, rfl⟩
        obtain ⟨rest, hrest⟩ : ∃ l, (b.drop (9 + n)).take 4 = l := ⟨_, rfl⟩
        rw [hbody] at p1 hp1 ⊢
        rw [hrest] at p2 hp2 ⊢
        have ob : o + (9 + n) = o + (9 + n) := rfl
        have SC2 := fun wB (hb : Below w.heap.size w wB) => SC_of (c := cap - 9) (p1.below hb) hp1 (by omega)
        have EQ2 := fun wB (hb : Below w.heap.size w wB) => EQ_of (c := cap - (9 + n)) (x := sumN body) (p2.below hb) hp2 (sumN_lt _)
        have CP := fun wB (hb : Below w.heap.size w wB) => Copy_calls (some ⟨bl, o + 9, none⟩) (cap - 9) body wB (p1.below hb) (by omega)
        rw [hp1] at CP
        obtain ⟨q2, hq2⟩ : ∃ q, decide (sumN body = ofBe rest) = q := ⟨_, rfl⟩
        rw [hq2] at EQ2
        have HP1 := Lib.hid hp1
        have c9 : 9 + n ≤ cap := by omega
        have c13 : 9 + n + 4 ≤ cap := by omega
        have i1 : (9 : Int) + (n : Int) ≤ (cap : Int) := by omega
        have i2 : (9 : Int) + (n : Int) + 4 ≤ (cap : Int) := by omega
        have nc1 : ¬ cap = 9 := by omega
        have nc2 : ¬ cap = 9 + n := by omega
        have ws1 : Hid (IntKind.i64.wrap ((9 : Int) + (n : Int) + 4) = 9 + (n : Int) + 4) := IntWalk.i64_in _ (by omega)
        have ws2 : Hid (((9 : Int) + (n : Int) + 4).toNat = 9 + n + 4) := by show _ = _; omega
        have ws3 : (0 : Int) ≤ 9 + (n : Int) + 4 := by omega
        have ws4 : Hid (((9 : Int) + (n : Int)).toNat = 9 + n) := by show _ = _; omega
        have ws5 : (9 : Int) ≤ 9 + (n : Int) := by omega
        have ws6 : (9 : Int) + (n : Int) ≤ 9 + (n : Int) + 4 := by omega
        have SC2h := Lib.hid SC2; have EQ2h := Lib.hid EQ2; have CPh := Lib.hid CP
        clear SC2 EQ2 CP hp1 hp2 p1 p2 hbody hrest ob
        cases q2 with
        | false =>
          rw [if_pos (of_decide_eq_false hq2)]
          clear hq2
          go_enter Tryz.func117, Tryz.ntmps117
          go_wp2_with fail
          go_cut [23] (fun v wx => v = .bool false ∧ Below w.heap.size w wx)
          case first =>
            go_region_with (first
              | (go_at_call 121; refine (SC.out _ (bel_drew BX.out)).mono ?_; rintro r w1 ⟨a1, c1, rfl, hy1, hb1⟩; have Y1 := Lib.hid hy1; have B1 := Lib.hid hb1; clear hy1 hb1)
              | (go_at_call 124; refine (EQ.out _ _ _ Y1.out B1.out).mono ?_; rintro r w2 ⟨n2, rfl, rfl⟩))
            all_goals go_wp2_with fail
            all_goals go_meet
            all_goals exact ⟨rfl, bel_drewN B1.out _⟩
          case rest =>
            obtain ⟨wB, rfl⟩ : ∃ q, q = wc := ⟨_, rfl⟩
            obtain ⟨rfl, hb⟩ := hcut
            have BW := Lib.hid hb
            clear BX
            have BX := Lib.hid (Below.refl wB.heap.size wB)
            have SCb := Lib.hid (SC2h.out wB hb)
            have EQb := Lib.hid (EQ2h.out wB hb)
            clear hb
            go_wp2_with fail
            refine (OF.out _ BW.out).mono ?_
            rintro r w1 ⟨rfl, rfl⟩
            go_wp2_with fail
            have wt1 := ws1.out
            have wt2 := ws2.out
            have wt4 := ws4.out
            go_cut [48] (fun v wx => v = .bool true ∧ Below wB.heap.size wB wx)
            case first =>
              go_region_with (first
                | (go_at_call 121; refine (SCb.out _ (bel_drew BX.out)).mono ?_; rintro r w1 ⟨a1, c1, rfl, hy1, hb1⟩; have Y1 := Lib.hid hy1; have B1 := Lib.hid hb1; clear hy1 hb1)
                | (go_at_call 124; refine (EQb.out _ _ _ Y1.out B1.out).mono ?_; rintro r w2 ⟨n2, rfl, rfl⟩))
              all_goals go_wp2_with fail
              all_goals go_meet
              all_goals exact ⟨rfl, bel_drewN B1.out _⟩
            case rest =>
              clear wt1 wt2 wt4
              obtain ⟨rfl, hb⟩ := hcut
              have BW2 := Lib.hid (BW.out.trans (hb.mono BW.out.size)); clear hb
              go_wp2
              go_ret3
              exact ⟨_, rfl, Own.nil _ _ _ _, BW2.out⟩
        | true =>
          rw [if_neg (fun h => h (of_decide_eq_true hq2))]
          clear hq2
          go_enter Tryz.func117, Tryz.ntmps117
          go_wp2_with fail
          go_cut [23] (fun v wx => v = .bool false ∧ Below w.heap.size w wx)
          case first =>
            go_region_with (first
              | (go_at_call 121; refine (SC.out _ (bel_drew BX.out)).mono ?_; rintro r w1 ⟨a1, c1, rfl, hy1, hb1⟩; have Y1 := Lib.hid hy1; have B1 := Lib.hid hb1; clear hy1 hb1)
              | (go_at_call 124; refine (EQ.out _ _ _ Y1.out B1.out).mono ?_; rintro r w2 ⟨n2, rfl, rfl⟩))
            all_goals go_wp2_with fail
            all_goals go_meet
            all_goals exact ⟨rfl, bel_drewN B1.out _⟩
          case rest =>
            obtain ⟨wB, rfl⟩ : ∃ q, q = wc := ⟨_, rfl⟩
            obtain ⟨rfl, hb⟩ := hcut
            have BW := Lib.hid hb
            clear BX
            have BX := Lib.hid (Below.refl wB.heap.size wB)
            have SCb := Lib.hid (SC2h.out wB hb)
            have EQb := Lib.hid (EQ2h.out wB hb)
            clear hb
            go_wp2_with fail
            refine (OF.out _ BW.out).mono ?_
            rintro r w1 ⟨rfl, rfl⟩
            go_wp2_with fail
            have wt1 := ws1.out
            have wt2 := ws2.out
            have wt4 := ws4.out
            go_cut [48] (fun v wx => v = .bool false ∧ Below wB.heap.size wB wx)
            case first =>
              go_region_with (first
                | (go_at_call 121; refine (SCb.out _ (bel_drew BX.out)).mono ?_; rintro r w1 ⟨a1, c1, rfl, hy1, hb1⟩; have Y1 := Lib.hid hy1; have B1 := Lib.hid hb1; clear hy1 hb1)
                | (go_at_call 124; refine (EQb.out _ _ _ Y1.out B1.out).mono ?_; rintro r w2 ⟨n2, rfl, rfl⟩))
              all_goals go_wp2_with fail
              all_goals go_meet
              all_goals exact ⟨rfl, bel_drewN B1.out _⟩
            case rest =>
              clear wt1 wt2 wt4
              obtain ⟨rfl, hb⟩ := hcut
              have BW2 := Lib.hid (BW.out.trans (hb.mono BW.out.size)); clear hb
              go_wp2_with fail
              refine (CPh.out _ BW2.out).mono ?_
              rintro r w3 ⟨v3, rfl, ho3, hb3⟩
              have O3 := Lib.hid ho3
              have B3 := Lib.hid (BW2.out.trans (hb3.mono BW2.out.size))
              have BS := BW2.out.size
              clear ho3 hb3
              go_wp2
              go_ret3
              exact ⟨v3, tup3 v3 (a := 9 + (n : Int) + 4) (b := ((n + 13 : Nat) : Int)) (by omega), (show Own w3 w.heap.size 5 1 v3 body.length (bys body) by rw [HP1.out]; exact O3.out.mono BS), B3.out⟩
theorem Unframe3_calls (w : World) (b : List UInt8) (a : Option Addr) (cap : Nat) (h : Byt w a b) (hcap : b.length ≤ cap) (hs : b.length ≤ 140737488355328) :
    Calls Tryz.prog 117 #[.slice a b.length cap] w fun r w' => OwnNErr w w' r (UnframeR b) := by
  by_cases hq : b.length = 0 ∨ b.getD 0 0 ≠ 201 ∨ b.length < 9
  · exact Unframe3_early w b a cap h hq hs
  · have h1 : b.length ≠ 0 := fun e => hq (.inl e)
    have h2 : b.getD 0 0 = 201 := by by_cases e : b.getD 0 0 = 201; exact e; exact absurd (.inr (.inl e)) hq
    have h3 : 9 ≤ b.length := by by_cases e : b.length < 9; exact absurd (.inr (.inr e)) hq; omega
    obtain ⟨bl, o, rfl, _⟩ := h 0 (by omega)
    exact Unframe3_late w b bl o cap h hcap h3 h2 hs
end Go.Proofs.YtnbpkignkfabkaaGreatDoor
