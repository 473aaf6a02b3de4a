/- (*record.Writer).Text, Bytes, ID, Done; slices.Clone of bytes. -/
import Derived.Test.YtnbpkignkfabkaaGreatDoorBase
import Derived.Deep.QuietTactic
import Derived.BigQuiet
/- record.Writer: what stands at a writer, and what a call may turn. -/
namespace Go.Proofs.YtnbpkignkfabkaaGreatDoor
set_option linter.unusedVariables false
set_option linter.unusedSimpArgs false
open Go.RowKit
theorem infoByte : (Tryz.prog.info? 5).map (fun i => (i.zero, i.size, i.bytes)) = some (some (.int .u8 0), 1, 1) := by kernel_rfl

/-- A writer stands at pb, po: these bytes, this error. -/
structure Wri (w : World) (pb po base : Nat) (l : List UInt8) (e : Int) (v : Value) : Prop where
  c0 : w.cell? ⟨pb, po, none⟩ = some v
  c1 : w.cell? ⟨pb, po + 1, none⟩ = some (.int .i64 e)
  f0 : w.frozen? ⟨pb, po, none⟩ = false
  f1 : w.frozen? ⟨pb, po + 1, none⟩ = false
  own : Own w base 5 1 v l.length (bys l)
  ne : v.ownBlock ≠ some pb

/-- What a call on a writer may turn. -/
structure WUpd (w w' : World) (pb po : Nat) (v v' : Value) : Prop where
  upd : Upd (fun k => k = pb ∨ v.ownBlock = some k) w w'
  rest : ∀ o, o ≠ po → o ≠ po + 1 → w'.cell? ⟨pb, o, none⟩ = w.cell? ⟨pb, o, none⟩ ∧ w'.frozen? ⟨pb, o, none⟩ = w.frozen? ⟨pb, o, none⟩
  own : v'.ownBlock = v.ownBlock ∨ ∀ k, v'.ownBlock = some k → w.heap.size ≤ k

theorem WUpd.refl (w : World) (pb po : Nat) (v : Value) : WUpd w w pb po v v := ⟨Upd.refl _ _, fun _ _ _ => ⟨rfl, rfl⟩, .inl rfl⟩
theorem WUpd.trans {a b c : World} {pb po : Nat} {u v x : Value} (h : WUpd a b pb po u v) (k : WUpd b c pb po v x) : WUpd a c pb po u x := by
  refine ⟨h.upd.trans k.upd (fun _ h _ => h) ?_, fun o h1 h2 => ⟨(k.rest o h1 h2).1.trans (h.rest o h1 h2).1, (k.rest o h1 h2).2.trans (h.rest o h1 h2).2⟩, ?_⟩
  · rintro i (rfl | hi) hlt
    · exact .inl rfl
    · rcases h.own with e | e
      · rw [e] at hi; exact .inr hi
      · have := e i hi; omega
  · rcases k.own with e | e
    · rw [e]; exact h.own
    · exact .inr fun i hi => Nat.le_trans h.upd.size (e i hi)
theorem WUpd.drew {w w' : World} {pb po : Nat} {u v : Value} (h : WUpd w w' pb po u v) : WUpd w w'.drew pb po u v := ⟨h.upd.drew, h.rest, h.own⟩

theorem Wri.lt {w : World} {pb po base : Nat} {l : List UInt8} {e : Int} {v : Value} (h : Wri w pb po base l e v) : pb < w.heap.size := World.block_lt_of_cell? w _ h.c0
/-- A writer that nothing touched. -/
theorem Wri.upd {S : Nat → Prop} {w w' : World} {pb po base : Nat} {l : List UInt8} {e : Int} {v : Value} (h : Wri w pb po base l e v) (hu : Upd S w w') (hs : ¬ S pb) (hv : ∀ k, v.ownBlock = some k → ¬ S k) : Wri w' pb po base l e v :=
  ⟨hu.cell' h.c0 hs, hu.cell' h.c1 hs, (hu.frozen h.lt hs).trans h.f0, (hu.frozen h.lt hs).trans h.f1, h.own.upd hu hv, h.ne⟩

theorem cell_same {w : World} {a : Addr} {v u : Value} (h : w.cell? a = some v) : (w.setCell a u).cell? a = some u := World.cell?_setCell_same _ _ _ h
theorem cell_other {w : World} {b o o' : Nat} (u : Value) (h : o ≠ o') : (w.setCell ⟨b, o, none⟩ u).cell? ⟨b, o', none⟩ = w.cell? ⟨b, o', none⟩ :=
  World.cell?_setCell_other _ _ _ _ (by intro e; injection e with _ e; exact h e)
theorem frozen_same (w : World) (a b : Addr) (u : Value) : (w.setCell a u).frozen? b = w.frozen? b := World.frozen?_setCell _ _ _ _

/-- Bytes are laid behind: first the append, then the store into the field. -/
theorem Wri.put {w w1 : World} {pb po base : Nat} {l l' : List UInt8} {e : Int} {v v' : Value} (h : Wri w pb po base l e v) (hb : base ≤ pb) (ho : Own w1 base 5 1 v' l'.length (bys l')) (hg : Upd (fun k => v.ownBlock = some k) w w1)
    (hv : v'.ownBlock = v.ownBlock ∨ ∀ k, v'.ownBlock = some k → w.heap.size ≤ k) : Wri (w1.setCell ⟨pb, po, none⟩ v') pb po base l' e v' ∧ WUpd w (w1.setCell ⟨pb, po, none⟩ v') pb po v v' := by
  have hne : v'.ownBlock ≠ some pb := by
    rcases hv with e | e
    · rw [e]; exact h.ne
    · intro e2; have := e _ e2; have := h.lt; omega
  have c0 := hg.cell' h.c0 h.ne
  have c1 := hg.cell' h.c1 h.ne
  have f0 := (hg.frozen (p := ⟨pb, po, none⟩) h.lt h.ne).trans h.f0
  have f1 := (hg.frozen (p := ⟨pb, po + 1, none⟩) h.lt h.ne).trans h.f1
  refine ⟨⟨cell_same c0, (cell_other _ (by omega)).trans c1, (frozen_same _ _ _ _).trans f0, (frozen_same _ _ _ _).trans f1, ho.setCell_other hne _, hne⟩, ⟨?_, ?_, hv⟩⟩
  · exact (hg.mono (fun k e _ => .inr e)).setCell (fun _ => .inl rfl) _
  · intro o h1 h2
    exact ⟨(cell_other _ (fun e => h1 e.symm)).trans (hg.cell (p := ⟨pb, o, none⟩) h.lt h.ne), (frozen_same _ _ _ _).trans (hg.frozen (p := ⟨pb, o, none⟩) h.lt h.ne)⟩
/-- The error is set. -/
theorem Wri.bad {w : World} {pb po base : Nat} {l : List UInt8} {e e' : Int} {v : Value} (h : Wri w pb po base l e v) : Wri (w.setCell ⟨pb, po + 1, none⟩ (.int .i64 e')) pb po base l e' v ∧ WUpd w (w.setCell ⟨pb, po + 1, none⟩ (.int .i64 e')) pb po v v := by
  refine ⟨⟨(cell_other _ (by omega)).trans h.c0, cell_same h.c1, (frozen_same _ _ _ _).trans h.f0, (frozen_same _ _ _ _).trans h.f1, h.own.setCell_other h.ne _, h.ne⟩, ⟨(Upd.refl _ _).setCell (fun _ => .inl rfl) _, ?_, .inl rfl⟩⟩
  intro o h1 h2
  exact ⟨cell_other _ (fun e => h2 e.symm), frozen_same _ _ _ _⟩

/-- The big-endian bytes of a number: so many. -/
def be (n : Nat) : Nat → List UInt8
  | 0 => []
  | k + 1 => UInt8.ofNat (n / 256 ^ k) :: be n k
theorem be_length (n k : Nat) : (be n k).length = k := by induction k with | zero => rfl | succ k ih => simp [be, ih]
theorem bys_one_snoc (l : List UInt8) (c : UInt8) : bys l ++ [.int .u8 (c.toNat : Int)] = bys (l ++ [c]) := by simp [bys]
theorem wrap_u8 (x : Int) : IntKind.u8.wrap x = x % 256 := by simp [IntKind.wrap, IntKind.bits, IntKind.signed]
theorem Src_new {P : Program} {tx e' : TypeId} (hk : P.underlying tx = some (.slice e')) {w : World} {g : Nat} {u : Value} {e : TypeId} (h : w.heap[g]? = some (.cells #[u] e (0, 0))) (h1 : u.oneCell' = true) : Src P 1 tx (.slice (some ⟨g, 0, none⟩) 1 1) 1 [u] w :=
  Src.ofSlice w hk ⟨g, 0, none⟩ 1 1 [u] rfl (by
    intro j x hx
    match j, hx with
    | 0, hx => simp at hx; subst hx; rw [Addr.add_lit]; exact cell_of_one h) (by
    intro x hx
    simp at hx
    subst hx
    exact h1)
theorem byte_of (n j : Nat) : ((n : Int) / 2 ^ (8 * (j : Int)).toNat) % 256 = ((UInt8.ofNat (n / 256 ^ j)).toNat : Int) := by
  have e : (8 * (j : Int)).toNat = 8 * j := by omega
  have e2 : (2 : Int) ^ (8 * j) = ((256 ^ j : Nat) : Int) := by
    rw [show (256 : Nat) = 2 ^ 8 from rfl, ← Nat.pow_mul]; norm_cast
  rw [e, e2, UInt8.toNat_ofNat']
  omega
end Go.Proofs.YtnbpkignkfabkaaGreatDoor
/- (*record.Writer).Num as one contract; Int, Flag. -/
/- (*record.Writer).Num: all its cases. -/
namespace Go.Proofs.YtnbpkignkfabkaaGreatDoor
set_option linter.unusedVariables false
set_option linter.unusedSimpArgs false
open Go.RowKit
/-- What a number in so many bytes makes of a writer. -/
def fitsB (n : Nat) (k : Int) : Bool := decide (1 ≤ k) && decide (k ≤ 8) && (decide (k = 8) || decide (n / 2 ^ (8 * k).toNat = 0))

set_option maxRecDepth 100000 in
set_option maxHeartbeats 1000000 in
theorem Num_ok (pb po base n k : Nat) (w : World) (v : Value) (l : List UInt8) (h : Wri w pb po base l 0 v) (hb : base ≤ pb) (hk1 : 1 ≤ k) (hk8 : k ≤ 8) (hfit : k = 8 ∨ n / 2 ^ (8 * k) = 0)
  (hl : l.length ≤ 140737488000000) :
    Calls Tryz.prog 108 #[.pointer (some ⟨pb, po, none⟩), .int .u64 n, .int .i64 k] w fun r w' => r = .returned (.tuple #[]) ∧ ∃ v', Wri w' pb po base (l ++ be n k) 0 v' ∧ WUpd w w' pb po v v' := by
  have H := Lib.hid h
  obtain ⟨h0, h1, f0, f1, _, _⟩ := h
  have hbad : (((0 : Int)) != 0) = false := rfl
  have t1 : decide ((k : Int) < 1) = false := by simp; omega
  have t2 : decide (8 < (k : Int)) = false := by simp; omega
  by_cases hk : k < 8
  case' pos =>
    have t3 : decide ((k : Int) < 8) = true := by simp; omega
    have t4 : (((n : Int) / 2 ^ (8 * (k : Int)).toNat) != 0) = false := by
      have e : (8 * (k : Int)).toNat = 8 * k := by omega
      have e2 : (n : Int) / 2 ^ (8 * k) = ((n / 2 ^ (8 * k) : Nat) : Int) := by norm_cast
      rw [e, e2, hfit.resolve_left (by omega)]
      rfl
    have t5 : (((n : Int) / 2 ^ (8 * k)) != 0) = false := by
      have e2 : (n : Int) / 2 ^ (8 * k) = ((n / 2 ^ (8 * k) : Nat) : Int) := by norm_cast
      rw [e2, hfit.resolve_left (by omega)]
      rfl
  case' neg =>
    have t3 : decide ((k : Int) < 8) = false := by simp; omega
  all_goals
    clear hfit
    have HO := Lib.hid hl; clear hl
    go_enter Tryz.func108, Tryz.ntmps108
    go_wp2
    go_loopw [6] (fun s wr => ∃ (j : Nat) (pre : List UInt8) (v1 : Value), j ≤ k ∧ pre ++ be n j = be n k ∧ s = .int .i64 (8 * (j : Int) - 8) ∧ Wri wr pb po base (l ++ pre) 0 v1 ∧ WUpd w wr pb po v v1) (fun s wr => ((intOf s + 8) / 8).toNat)
    case atStart => exact ⟨k, [], v, by omega, rfl, by congr 1; omega, by simpa using H.out, WUpd.refl _ _ _ _⟩
    case round =>
      obtain ⟨j, pre, v1, hj, hpre, rfl, hw, hu⟩ := hrel
      cases j with
      | zero =>
        have HW := Lib.hid hw; clear hw
        have HU := Lib.hid hu; clear hu
        have HP := Lib.hid hpre; clear hpre
        go_wp2
        go_end0
        exact ⟨rfl, v1, by have := HW.out; rw [← HP.out]; simpa [be] using this, HU.out⟩
      | succ j =>
        have HW := Lib.hid hw
        have HU := Lib.hid hu; clear hu
        have HP := Lib.hid hpre; clear hpre
        obtain ⟨g0, g1, q0, q1, _, _⟩ := hw
        have b0 : (8 : Int) * ((j + 1 : Nat) : Int) - 8 = 8 * (j : Int) := by omega
        rw [b0]
        clear b0
        go_wp2
        obtain ⟨c, hc⟩ : ∃ c, UInt8.ofNat (n / 256 ^ j) = c := ⟨_, rfl⟩
        have eb : IntKind.u8.wrap ((n : Int) / 2 ^ (8 * (j : Int)).toNat) = ((c.toNat : Nat) : Int) := by rw [wrap_u8, byte_of, hc]
        have HC := Lib.hid hc; clear hc
        have hpl : pre.length = k - (j + 1) := by have := congrArg List.length HP.out; simp only [List.length_append, be_length] at this; omega
        have M1 : Hid ((l ++ pre).length + 1 ≤ maxLen) := by show _ ≤ _; have := HO.out; unfold maxLen; rw [List.length_append]; omega
        have M2 : Hid (((l ++ pre).length + 1) * 1 ≤ 140737488355328) := by show _ ≤ _; have := HO.out; rw [List.length_append]; omega
        have M3 : Hid (base ≤ (wr.alloc (.cells #[.int .u8 (c.toNat : Int)] 5)).drew.heap.size) := by show _ ≤ _; have := HW.out.lt; simp; omega
        have plt := HW.out.lt
        clear hpl
        go_region_law (refine step_append rfl (.tmp 43) (.tmp 48) 74 74 rfl base 5 (.int .u8 0) 1 1 Tryz.underlying74 infoByte rfl (v := v1) (n := (l ++ pre).length) (xs := bys (l ++ pre)) (HW.out.own.alloc _).drew rfl (xv := .slice (some ⟨wr.heap.size, 0, none⟩) 1 1) (m := 1) (news := [.int .u8 (c.toNat : Int)]) (Src_new Tryz.underlying74 (e := 5) (heap_alloc_new wr _) rfl) rfl M1.out M2.out M3.out ?_; intro v2 w2 ho2 hg2 _ hv2; obtain ⟨g, cap, rfl⟩ := ho2.shape (Nat.succ_pos _); have U2 : Hid (Upd (fun k => v1.ownBlock = some k) wr w2) := (((Upd.refl _ wr).alloc _).drew).grown hg2 (fun _ h _ => h); have s0 := U2.out.cell' HW.out.c0 HW.out.ne; have s1 := (U2.out.frozen (p := ⟨pb, po, none⟩) HW.out.lt HW.out.ne).trans HW.out.f0; have O2 := Lib.hid ho2; clear ho2 hg2; have V2 := Lib.hid hv2; clear hv2)
        all_goals
          go_wp2
          go_roundw
          case rel =>
            obtain ⟨R1, R2⟩ := HW.out.put (l' := l ++ (pre ++ [c])) (v' := .slice (some ⟨g, 0, none⟩) ((l ++ pre).length + 1) cap) hb (by
              have := O2.out
              rw [bys_one_snoc, List.append_assoc] at this
              rw [show (l ++ (pre ++ [c])).length = (l ++ pre).length + 1 by simp [Nat.add_assoc]]
              exact this) U2.out (by
              rcases V2.out with e | e
              · exact .inl e
              · exact .inr (fun i hi => by rw [e] at hi; injection hi with hi; simp at hi; omega))
            rw [show (l ++ pre).length = l.length + pre.length from List.length_append] at R1 R2
            exact ⟨j, pre ++ [c], _, by omega, by rw [← HP.out, ← HC.out]; simp [be], rfl, R1, HU.out.trans R2⟩
          case measure => simp [intOf]; omega
end Go.Proofs.YtnbpkignkfabkaaGreatDoor
namespace Go.Proofs.YtnbpkignkfabkaaGreatDoor
set_option linter.unusedVariables false
set_option linter.unusedSimpArgs false
open Go.RowKit
def wNum (l : List UInt8) (e : Int) (n : Nat) (k : Int) : List UInt8 × Int :=
  if e = 0 then (if 1 ≤ k ∧ k ≤ 8 ∧ (k = 8 ∨ n / 2 ^ (8 * k.toNat) = 0) then (l ++ be n k.toNat, 0) else (l, 34)) else (l, e)

set_option maxRecDepth 100000 in
set_option maxHeartbeats 1000000 in
theorem Num_off (pb po base n : Nat) (k : Int) (w : World) (v : Value) (l : List UInt8) (e : Int) (h : Wri w pb po base l e v) (he : e ≠ 0) :
    Calls Tryz.prog 108 #[.pointer (some ⟨pb, po, none⟩), .int .u64 n, .int .i64 k] w fun r w' => r = .returned (.tuple #[]) ∧ w = w' := by
  obtain ⟨h0, h1, f0, f1, _, _⟩ := h
  have t0 : (e != 0) = true := by simpa using he
  clear he
  go_enter Tryz.func108, Tryz.ntmps108
  go_wp2
  refine bodyPost_ret (results_none rfl _ _ _) rfl ?_
  exact ⟨rfl, rfl⟩

set_option maxRecDepth 100000 in
set_option maxHeartbeats 1000000 in
theorem Num_form (pb po base n : Nat) (k : Int) (w : World) (v : Value) (l : List UInt8) (h : Wri w pb po base l 0 v) (hk : ¬ (1 ≤ k ∧ k ≤ 8 ∧ (k = 8 ∨ n / 2 ^ (8 * k.toNat) = 0))) :
    Calls Tryz.prog 108 #[.pointer (some ⟨pb, po, none⟩), .int .u64 n, .int .i64 k] w fun r w' => r = .returned (.tuple #[]) ∧ w.setCell ⟨pb, po + 1, none⟩ (.int .i64 34) = w' := by
  obtain ⟨h0, h1, f0, f1, _, _⟩ := h
  have t0 : ((0 : Int) != 0) = false := rfl
  by_cases h1 : k < 1
  · have t1 : decide (k < 1) = true := by simpa using h1
    clear hk
    go_enter Tryz.func108, Tryz.ntmps108
    go_wp2
    all_goals ((try simp only [Exit.inBlock, Exit.then]); refine bodyPost_ret (results_none rfl _ _ _) rfl ?_; exact ⟨rfl, rfl⟩)
  · by_cases h2 : 8 < k
    · have t1 : decide (k < 1) = false := by simpa using h1
      have t2 : decide (8 < k) = true := by simpa using h2
      clear hk
      go_enter Tryz.func108, Tryz.ntmps108
      go_wp2
      all_goals ((try simp only [Exit.inBlock, Exit.then]); refine bodyPost_ret (results_none rfl _ _ _) rfl ?_; exact ⟨rfl, rfl⟩)
    · have t1 : decide (k < 1) = false := by simpa using h1
      have t2 : decide (8 < k) = false := by simpa using h2
      have h3 : k < 8 := by
        by_cases h4 : k = 8
        · exact absurd ⟨by omega, by omega, .inl h4⟩ hk
        · omega
      have t3 : decide (k < 8) = true := by simpa using h3
      obtain ⟨j, rfl⟩ := Int.eq_ofNat_of_zero_le (show 0 ≤ k by omega)
      have h5 : ¬ n / 2 ^ (8 * j) = 0 := fun h => hk ⟨by omega, by omega, .inr (by simpa using h)⟩
      have t4 : (((n : Int) / 2 ^ (8 * j)) != 0) = true := by
        have e2 : (n : Int) / 2 ^ (8 * j) = ((n / 2 ^ (8 * j) : Nat) : Int) := by norm_cast
        rw [e2, bne_iff_ne]
        omega
      have t5 : (((n : Int) / 2 ^ (8 * (j : Int)).toNat) != 0) = true := by
        rw [show (8 * (j : Int)).toNat = 8 * j by omega]; exact t4
      clear hk h5
      go_enter Tryz.func108, Tryz.ntmps108
      go_wp2
      all_goals ((try simp only [Exit.inBlock, Exit.then]); refine bodyPost_ret (results_none rfl _ _ _) rfl ?_; exact ⟨rfl, rfl⟩)

theorem Num_calls (pb po base n : Nat) (k : Int) (w : World) (v : Value) (l : List UInt8) (e : Int) (h : Wri w pb po base l e v) (hb : base ≤ pb) (hl : l.length ≤ 140737488000000) :
    Calls Tryz.prog 108 #[.pointer (some ⟨pb, po, none⟩), .int .u64 n, .int .i64 k] w fun r w' => r = .returned (.tuple #[]) ∧ ∃ v', Wri w' pb po base (wNum l e n k).1 (wNum l e n k).2 v' ∧ WUpd w w' pb po v v' := by
  unfold wNum
  by_cases he : e = 0
  · subst he
    rw [if_pos rfl]
    by_cases hk : 1 ≤ k ∧ k ≤ 8 ∧ (k = 8 ∨ n / 2 ^ (8 * k.toNat) = 0)
    · rw [if_pos hk]
      obtain ⟨j, rfl⟩ := Int.eq_ofNat_of_zero_le (show 0 ≤ k by omega)
      exact Num_ok pb po base n j w v l h hb (by omega) (by omega) (by rcases hk.2.2 with h | h; exact .inl (by omega); exact .inr (by simpa using h)) hl
    · rw [if_neg hk]
      refine (Num_form pb po base n k w v l h hk).mono fun r w' => ?_
      rintro ⟨rfl, rfl⟩
      exact ⟨rfl, v, h.bad⟩
  · rw [if_neg he]
    refine (Num_off pb po base n k w v l e h he).mono fun r w' => ?_
    rintro ⟨rfl, rfl⟩
    exact ⟨rfl, v, h, WUpd.refl _ _ _ _⟩

/-- A signed number as the sixty-four bits that it has. -/
def i64n (x : Int) : Nat := (x % 18446744073709551616).toNat
end Go.Proofs.YtnbpkignkfabkaaGreatDoor
namespace Go.Proofs.YtnbpkignkfabkaaGreatDoor
set_option linter.unusedVariables false
set_option linter.unusedSimpArgs false
open Go.RowKit
def wText (l : List UInt8) (e : Int) (t : List UInt8) : List UInt8 × Int :=
  if e = 0 then (if t.length ≤ 1048576 then (l ++ be t.length 4 ++ t, 0) else (l, 31)) else (l, e)

theorem wNum_off {l : List UInt8} {e : Int} {n : Nat} {k : Int} (h : e ≠ 0) : wNum l e n k = (l, e) := if_neg h
theorem wNum_len {l : List UInt8} {n : Nat} (h : n ≤ 4294967295) : wNum l 0 n 4 = (l ++ be n 4, 0) := by
  have c : 1 ≤ (4 : Int) ∧ (4 : Int) ≤ 8 ∧ ((4 : Int) = 8 ∨ n / 2 ^ (8 * (4 : Int).toNat) = 0) := ⟨by decide, by decide, .inr (by show n / 2 ^ 32 = 0; omega)⟩
  unfold wNum
  rw [if_pos rfl, if_pos c]
  rfl

set_option maxRecDepth 100000 in
set_option maxHeartbeats 1000000 in
theorem Clone_calls (a : Option Addr) (cap : Nat) (t : List UInt8) (w : World) (ht : Byt w a t) (hs : t.length ≤ 140737488355328) :
    Calls Tryz.prog 43 #[.slice a t.length cap] w fun r w' => ∃ v', r = .returned v' ∧ Own w' w.heap.size 5 1 v' t.length (bys t) ∧ Below w.heap.size w w' := by
  have HT := Lib.hid ht; clear ht
  have hnil := Lib.run_eql_slice_nil (P := Tryz.prog) w 74 5 a t.length cap 0 0 Tryz.underlying74
  cases a with
  | none =>
    obtain rfl := HT.out.none_nil
    simp only [Option.isNone_none, List.length_nil] at hnil
    go_enter Tryz.func43, Tryz.ntmps43
    go_wp2
    go_ret
    exact ⟨_, rfl, Own.nil _ _ _ _, Below.refl _ _⟩
  | some ad =>
    simp only [Option.isNone_some] at hnil
    have M1 : Hid (0 + t.length ≤ maxLen) := by show _ ≤ _; unfold maxLen; omega
    have M2 : Hid ((0 + t.length) * 1 ≤ 140737488355328) := by show _ ≤ _; omega
    have O1 : Hid (Own (w.alloc (.cells #[] 5)) w.heap.size 5 1 (.slice (some ⟨w.heap.size, 0, none⟩) 0 0) 0 []) :=
      ⟨rfl, .inr ⟨w.heap.size, 0, #[], (0, 0), rfl, Nat.le_refl _, heap_alloc_new w _, NoFr.zero _, Nat.le_refl _, Nat.zero_le _, rfl, rfl⟩⟩
    go_enter Tryz.func43, Tryz.ntmps43
    go_wp2_with (at_builtin; refine wpList_append rfl (.tmp 5) (.tmp 6) 74 74 rfl w.heap.size 5 (.int .u8 0) 1 1 Tryz.underlying74 infoByte rfl (v := .slice (some ⟨w.heap.size, 0, none⟩) 0 0) (n := 0) (xs := []) O1.out rfl (xv := .slice (some ad) t.length cap) (m := t.length) (news := bys t) (Src_byt Tryz.underlying74 (HT.out.alloc _) (fun _ => .inr trivial)) rfl M1.out M2.out (by simp) ?_)
    intro v2 w2 ho2 hg2 hn2 hv2
    have B2 : Hid (Below w.heap.size w w2) := ((Below.refl _ w).alloc (Nat.le_refl _) _).grown hg2 (by simp) (by intro k hk; simp [Value.ownBlock] at hk; omega)
    have O2 := Lib.hid ho2; clear ho2 hg2 hn2 hv2
    go_wp2
    go_ret
    exact ⟨_, rfl, O2.out, B2.out⟩

/-- What a writer has laid, and the first error. -/
def wDone (l : List UInt8) (e : Int) : List UInt8 × Int := if e = 0 then (l, 0) else ([], e)
end Go.Proofs.YtnbpkignkfabkaaGreatDoor
