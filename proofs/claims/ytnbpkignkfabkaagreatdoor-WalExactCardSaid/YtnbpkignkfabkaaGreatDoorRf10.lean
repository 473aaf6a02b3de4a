/- posternref10: the document's log: Open, Append. -/
import Derived.Test.YtnbpkignkfabkaaGreatDoorWalO
import Derived.Test.YtnbpkignkfabkaaGreatDoorUnfr3
import Derived.Test.YtnbpkignkfabkaaGreatDoorRefN
import Derived.Test.YtnbpkignkfabkaaGreatDoorWalA
import Derived.Deep.RegionHeld3
/- posternref10: the records of some bytes. -/
namespace Go.Proofs.YtnbpkignkfabkaaGreatDoor
set_option linter.unusedVariables false
set_option linter.unusedSimpArgs false
open Go.RowKit Go.Maps
/-- In the loop of Records. -/
structure RcS (w wr : World) (b : List UInt8) (k : Nat) (xs : List (List UInt8)) (v : Value) (Af : Nat → Option Addr) (Cf : Nat → Nat) : Prop where
  row : Own wr w.heap.size 74 1 v xs.length (svs xs Af Cf xs.length)
  els : ∀ i, i < xs.length → Own wr w.heap.size 5 1 (.slice (Af i) (xs.getD i []).length (Cf i)) (xs.getD i []).length (bys (xs.getD i []))
  bel : Below w.heap.size w wr
  recs : recOf b = (xs ++ (recOf (b.drop k)).1, k + (recOf (b.drop k)).2.1, (recOf (b.drop k)).2.2)
  kle : k ≤ b.length
  cnt : xs.length ≤ k
  short : ∀ x ∈ xs, x.length ≤ 268435456
  dis : ∀ i j, i < j → j < xs.length → ∀ k, (Value.slice (Af i) (xs.getD i []).length (Cf i)).ownBlock = some k → (Value.slice (Af j) (xs.getD j []).length (Cf j)).ownBlock ≠ some k
theorem RcS.rd {w wr : World} {b : List UInt8} {k : Nat} {xs : List (List UInt8)} {v : Value} {Af : Nat → Option Addr} {Cf : Nat → Nat} (h : RcS w wr b k xs v Af Cf) :
    ∃ a c, v = .slice a xs.length c ∧ Rd2 wr a xs Af Cf ∧ RdG (fun i => w.heap.size ≤ i ∧ i < wr.heap.size) a xs Af ∧ Els wr w.heap.size (fun i => i < w.heap.size ∨ wr.heap.size ≤ i) a c xs Af Cf := by
  obtain ⟨a, c, hv, hc, ha, -⟩ := h.row.shape'
  have hw2 : Els wr w.heap.size (fun i => i < w.heap.size ∨ wr.heap.size ≤ i) a c xs Af Cf := by
    have hr := h.row
    rw [hv] at hr
    exact ⟨hr, (fun k hk hn => by have := hr.lt k hk; omega), h.els, h.dis, (fun i k hi hk hn => by have := (h.els i hi).lt k hk; omega)⟩
  refine ⟨a, c, hv, ⟨?_, ?_, ?_, ?_⟩, ⟨?_, ?_⟩, hw2⟩
  · intro i hi
    rw [hv] at h
    have hr := h.row
    cases a with
    | none =>
      rcases hr.2 with ⟨_, h0⟩ | ⟨_, _, _, _, h0, _⟩
      · omega
      · cases h0
    | some ad =>
      rw [(ha ad rfl).1] at hr ⊢
      refine ⟨_, 0, rfl, ?_⟩
      rw [Nat.zero_add, hr.cellAt i (by omega), svs_get hi, getD_lt hi]
  · intro i hi
    have := (Own.byt (h.els i hi)).1
    rw [getD_lt hi] at this
    exact this
  · intro i hi
    have := own_le (h.els i hi)
    rw [getD_lt hi] at this
    exact this
  · intro i hi
    have := h.short xs[i] (List.getElem_mem hi)
    omega
  · intro ad hd _
    exact ⟨(ha ad hd).2.1, (ha ad hd).2.2⟩
  · intro i hi _ ad hd
    have h1 := (h.els i hi).lt ad.block (by rw [hd]; rfl)
    exact h1
theorem RcS.next {w wr w3 w4 : World} {b : List UInt8} {k : Nat} {xs : List (List UInt8)} {v v4 : Value} {Af : Nat → Option Addr} {Cf : Nat → Nat} {x : List UInt8} {n : Nat} {xa : Option Addr} {xc : Nat}
    (h : RcS w wr b k xs v Af Cf) (hbl : b.length ≤ 268435456) (hu : UnframeR (b.drop k) = (x, n, 0)) (hk : k < b.length)
    (hb3 : Below wr.heap.size wr w3) (ho3 : Own w3 wr.heap.size 5 1 (.slice xa x.length xc) x.length (bys x))
    (ho4 : Own w4 w.heap.size 74 1 v4 (xs.length + 1) (svs xs Af Cf xs.length ++ [.slice xa x.length xc])) (hg4 : (w3.alloc (.cells #[.slice xa x.length xc] 74)).grownBy w4 v.ownBlock) :
    RcS w w4 b (k + n) (xs ++ [x]) v4 (fun i => if i = xs.length then xa else Af i) (fun i => if i = xs.length then xc else Cf i) ∧ k < k + n ∧ k + n ≤ b.length := by
  have e0 : (b.drop k).length ≠ 0 := by rw [List.length_drop]; omega
  have hc : (UnframeR (b.drop k)).2.2 = 0 := by rw [hu]
  have hn := unframe_n hc
  rw [hu] at hn
  simp only [List.length_drop] at hn
  have hst := recOf_step e0 hc
  rw [hu] at hst
  simp only [List.drop_drop] at hst
  have hW : w.heap.size ≤ wr.heap.size := h.bel.size
  have B3a : Below wr.heap.size wr (w3.alloc (.cells #[.slice xa x.length xc] 74)) := hb3.alloc hb3.size _
  have row3 : Own (w3.alloc (.cells #[.slice xa x.length xc] 74)) w.heap.size 74 1 v xs.length (svs xs Af Cf xs.length) := h.row.below B3a
  have U4 : Upd (fun i => v.ownBlock = some i) (w3.alloc (.cells #[.slice xa x.length xc] 74)) w4 := (Upd.refl _ _).grown hg4 (fun k hk _ => hk)
  have carry : ∀ {vv : Value} {nn : Nat} {xx : List Value}, Own (w3.alloc (.cells #[.slice xa x.length xc] 74)) w.heap.size 5 1 vv nn xx → Own w4 w.heap.size 5 1 vv nn xx := by
    intro vv nn xx o
    exact o.upd U4 (fun j hj e => Own.ne_type o row3 (by decide) j hj e)
  refine ⟨⟨?_, ?_, ?_, ?_, ?_, ?_, ?_, ?_⟩, by omega, by omega⟩
  · rw [List.length_append, List.length_singleton, svs_next]
    exact ho4
  · intro i hi
    rw [List.length_append, List.length_singleton] at hi
    by_cases e : i = xs.length
    · subst e
      simp only [if_pos, getD_snoc_eq]
      exact carry ((ho3.mono hW).alloc _)
    · simp only [if_neg e, getD_snoc_lt (show i < xs.length by omega)]
      exact carry ((h.els i (by omega)).below B3a)
  · refine (h.bel.trans (B3a.mono hW)).trans (U4.below (fun i s _ => (h.row.lt i s).1) ?_)
    have := B3a.size; omega
  · rw [h.recs, hst]
    simp only [List.append_assoc, List.singleton_append, Prod.mk.injEq, true_and]
    exact ⟨by omega, trivial⟩
  · omega
  · rw [List.length_append, List.length_singleton]; have := h.cnt; omega
  · intro y hy
    rcases List.mem_append.1 hy with hy | hy
    · exact h.short y hy
    · rw [List.mem_singleton] at hy
      subst hy
      omega
  · intro i j hij hj q
    rw [List.length_append, List.length_singleton] at hj
    have hne : ¬ i = xs.length := by omega
    simp only [if_neg hne, getD_snoc_lt (show i < xs.length by omega)]
    intro hq
    by_cases e : j = xs.length
    · subst e
      simp only [if_pos, getD_snoc_eq]
      intro hq2
      have h1 := ((h.els i (by omega)).lt q hq).2
      have h2 := (ho3.lt q hq2).1
      omega
    · simp only [if_neg e, getD_snoc_lt (show j < xs.length by omega)]
      exact h.dis i j hij (by omega) q hq
def RecP (w w' : World) (b : List UInt8) (r : Ending) : Prop :=
  Below w.heap.size w w' ∧ ((recOf b).2.2 = 101 → r = .returned (.tuple #[.slice none 0 0, .int .i64 0, .int .i64 101])) ∧
    ((recOf b).2.2 ≠ 101 → ∃ a c Af Cf, r = .returned (.tuple #[.slice a (recOf b).1.length c, .int .i64 (recOf b).2.1, .int .i64 0]) ∧ Rd2 w' a (recOf b).1 Af Cf ∧ RdG (fun i => w.heap.size ≤ i ∧ i < w'.heap.size) a (recOf b).1 Af ∧ Els w' w.heap.size (fun i => i < w.heap.size ∨ w'.heap.size ≤ i) a c (recOf b).1 Af Cf)
set_option maxRecDepth 100000 in
set_option maxHeartbeats 2000000 in
theorem Records_calls (w : World) (b : List UInt8) (ba : Option Addr) (bc : Nat) (hy : Byt w ba b) (hc : b.length ≤ bc) (hb : b.length ≤ 268435456) :
    Calls Tryz.prog 57 #[.slice ba b.length bc] w fun r w' => RecP w w' b r := by
  have HY := Lib.hid hy
  clear hy
  go_enter Tryz.func57, Tryz.ntmps57
  go_wp2
  go_loopw [5, 6] (fun v5 v6 wr => ∃ (k : Nat) (xs : List (List UInt8)) (Af : Nat → Option Addr) (Cf : Nat → Nat), v6 = .int .i64 k ∧ RcS w wr b k xs v5 Af Cf) (fun _ v6 _ => b.length - (intOf v6).toNat)
  case atStart => exact ⟨0, [], fun _ => none, fun _ => 0, rfl, ⟨Own.nil _ _ _ _, (fun i hi => absurd hi (Nat.not_lt_zero _)), Below.refl _ _, by simp, Nat.zero_le _, Nat.le_refl _, (fun x hx => by cases hx), (fun i j _ hj => absurd hj (Nat.not_lt_zero _))⟩⟩
  case round =>
    obtain ⟨k, xs, Af, Cf, rfl, hs⟩ := hrel
    have OS := Lib.hid hs
    have hkl := hs.kle
    clear hs
    by_cases hlt : k < b.length
    · have t1 : decide ((k : Int) < (b.length : Int)) = true := decide_eq_true (by omega)
      have t1' : decide (k < b.length) = true := decide_eq_true hlt
      obtain ⟨bl, o, rfl, -⟩ := HY.out 0 (by omega)
      have hby := HY.out.below OS.out.bel
      have hck : ¬ bc = k := by omega
      have i1 : (k : Int) ≤ (b.length : Int) := by omega
      have i2 : (k : Int) ≤ (bc : Int) := by omega
      have i3 : (b.length : Int) ≤ (bc : Int) := by omega
      have UC := Unframe3_calls wr (b.drop k) (some ⟨bl, o + k, none⟩) (bc - k) (hby.drop k) (by rw [List.length_drop]; omega) (by rw [List.length_drop]; omega)
      rw [List.length_drop] at UC
      obtain ⟨⟨x, n, f⟩, hu⟩ : ∃ q, UnframeR (b.drop k) = q := ⟨_, rfl⟩
      rw [hu] at UC
      have UCH := Lib.hid UC
      have HU := Lib.hid hu
      have E0 : Hid ((b.drop k).length ≠ 0) := by show _ ≠ _; rw [List.length_drop]; omega
      have HLT := Lib.hid hlt
      clear UC hu hby
      go_wp2_with fail
      refine UCH.out.mono ?_
      rintro r w3 ⟨xv, rfl, ho3, hb3⟩
      obtain ⟨xa, xc, rfl, -, -, -, -, -⟩ := own_val ho3
      have B3 := Lib.hid hb3; have O3 := Lib.hid ho3
      clear ho3 hb3 UCH
      by_cases cf : f = 0
      · subst cf
        have hn := unframe_n (b := b.drop k) (by rw [HU.out])
        rw [HU.out, List.length_drop] at hn
        simp only at hn
        obtain ⟨hn1, hn2, hn3⟩ := hn
        have i6 : (n : Int) ≤ 268435456 := by omega
        have i7 : (k : Int) ≤ 268435456 := by omega
        have hcnt := OS.out.cnt
        have M4 : Hid (xs.length + 1 ≤ maxLen) := by show _ ≤ _; unfold maxLen; omega
        have M5 : Hid ((xs.length + 1) * 24 ≤ 140737488355328) := by show _ ≤ _; omega
        have B3a : Below wr.heap.size wr (w3.alloc (.cells #[.slice xa x.length xc] 74)) := B3.out.alloc B3.out.size _
        have S3 : Hid (w.heap.size ≤ (w3.alloc (.cells #[.slice xa x.length xc] 74)).heap.size) := by show _ ≤ _; have := OS.out.bel.size; have := B3a.size; omega
        have R3 := Lib.hid (OS.out.row.below B3a)
        have HN : Hid (k + n ≤ b.length) := by show _ ≤ _; omega
        clear hcnt B3a
        go_wp2_with (at_builtin; refine wpList_append rfl (.tmp 28) (.tmp 30) 37 37 rfl w.heap.size 74 (.slice none 0 0) 1 24 Tryz.underlying37 infoRow rfl (n := xs.length) (xs := svs xs Af Cf xs.length) R3.out rfl (xv := .slice (some ⟨w3.heap.size, 0, none⟩) 1 1) (m := 1) (news := [.slice xa x.length xc]) (Src_new Tryz.underlying37 (e := 74) (heap_alloc_new w3 _) rfl) rfl M4.out M5.out S3.out ?_)
        intro v4 w4 ho4 hg4 hn4 hv4
        have NX := Lib.hid (OS.out.next hb HU.out HLT.out B3.out O3.out ho4 hg4)
        clear ho4 hg4 hn4 hv4
        go_wp2
        go_roundw
        case rel => exact ⟨k + n, xs ++ [x], _, _, by go_num, NX.out.1⟩
        case measure => simp [intOf]; omega
      · have t2 : (f != 0) = true := by rw [bne_iff_ne]; exact cf
        by_cases cg : f = 30
        · subst cg
          have t3 : ((30 : Int) == 30) = true := rfl
          have TN : Hid (recOf b = (xs, k, 30)) := by
            show _ = _
            rw [OS.out.recs, recOf_short E0.out (by rw [HU.out])]
            simp
          obtain ⟨a, c, rfl, hrd, hrg, hel⟩ := OS.out.rd
          have FIN : Hid (RecP w w3 b (.returned (.tuple #[.slice a xs.length c, .int .i64 k, .int .i64 0]))) := by
            unfold Hid RecP
            rw [TN.out]
            refine ⟨OS.out.bel.trans (B3.out.mono OS.out.bel.size), fun h => absurd h (by simp), fun _ => ⟨a, c, Af, Cf, rfl, hrd.upd hrg (Upd.ofBelow B3.out) (fun _ s => s.elim), hrg.mono (fun i hi => ⟨hi.1, Nat.lt_of_lt_of_le hi.2 B3.out.size⟩), (hel.upd (Upd.ofBelow B3.out) (fun _ s => s.elim)).out2 (fun i hi h1 h2 => by omega)⟩⟩
          clear hrd hrg hel
          go_wp2
          go_ret3
          exact FIN.out
        · have t3 : (f == 30) = false := beq_eq_false_iff_ne.2 cg
          have FIN : Hid (RecP w w3 b (.returned (.tuple #[.slice none 0 0, .int .i64 0, .int .i64 101]))) := by
            have hr := OS.out.recs
            rw [recOf_hurt E0.out (by rw [HU.out]; exact cf) (by rw [HU.out]; exact cg)] at hr
            unfold Hid RecP
            rw [hr]
            exact ⟨OS.out.bel.trans (B3.out.mono OS.out.bel.size), fun _ => rfl, fun h => absurd rfl h⟩
          go_wp2
          go_ret3
          exact FIN.out
    · have t1 : decide ((k : Int) < (b.length : Int)) = false := decide_eq_false (by omega)
      have t1' : decide (k < b.length) = false := decide_eq_false hlt
      obtain ⟨a, c, rfl, hrd, hrg, hel⟩ := OS.out.rd
      have FIN : Hid (RecP w wr b (.returned (.tuple #[.slice a xs.length c, .int .i64 k, .int .i64 0]))) := by
        have hr := OS.out.recs
        have ek : k = b.length := by omega
        rw [ek, List.drop_length, recOf_nil] at hr
        have hr2 : recOf b = (xs, k, 0) := by rw [hr, ek]; simp
        unfold Hid RecP
        rw [hr2]
        exact ⟨OS.out.bel, fun h => absurd h (by simp), fun _ => ⟨a, c, Af, Cf, rfl, hrd, hrg, hel⟩⟩
      clear hrd hrg hel
      go_wp2
      go_ret3
      exact FIN.out
end Go.Proofs.YtnbpkignkfabkaaGreatDoor
namespace Go.Proofs.YtnbpkignkfabkaaGreatDoor
set_option linter.unusedVariables false
set_option linter.unusedSimpArgs false
open Go.RowKit Go.Maps
theorem recOf_part : ∀ (f : Nat) (b : List UInt8), b.length < f → (recR f b).2.2 = 30 → (recR f b).2.1 < b.length
  | 0, _, h, _ => absurd h (Nat.not_lt_zero _)
  | f + 1, b, h, hc => by
    unfold recR at hc ⊢
    by_cases h0 : b.length = 0
    · rw [if_pos h0] at hc; simp at hc
    · rw [if_neg h0] at hc ⊢
      by_cases h1 : (UnframeR b).2.2 = 0
      · rw [if_pos h1] at hc ⊢
        have hn := unframe_n h1
        have h9 := recOf_part f (b.drop (UnframeR b).2.1) (by rw [List.length_drop]; omega) hc
        rw [List.length_drop] at h9
        show (UnframeR b).2.1 + _ < _
        omega
      · rw [if_neg h1] at hc ⊢
        by_cases h2 : (UnframeR b).2.2 = 30
        · rw [if_pos h2]; show 0 < b.length; omega
        · rw [if_neg h2] at hc; simp at hc
/-- A log of the document's. -/
def Rg (w : World) (mb rb : Nat) (nm : List UInt8) (n : Nat) (off : Bool) : Prop := w.heap[mb]? = some (.cells #[.pointer (some ⟨rb, 0, none⟩), .string ⟨nm.toArray⟩, .int .i64 n, .bool off] 98 (0, 0))
section
variable {w w' : World} {mb rb : Nat} {nm : List UInt8} {n : Nat} {off : Bool}
theorem Rg.lt (h : Rg w mb rb nm n off) : mb < w.heap.size := lt_of_block h
theorem Rg.upd {S : Nat → Prop} (h : Rg w mb rb nm n off) (hu : Upd S w w') (hs : ¬ S mb) : Rg w' mb rb nm n off := (hu.block _ h.lt hs).trans h
theorem Rg.below (h : Rg w mb rb nm n off) (hb : Below w.heap.size w w') : Rg w' mb rb nm n off := (hb.block _ h.lt).trans h
theorem Rg.cells (h : Rg w mb rb nm n off) : w.cell? ⟨mb, 0, none⟩ = some (.pointer (some ⟨rb, 0, none⟩)) ∧ w.cell? ⟨mb, 1, none⟩ = some (.string ⟨nm.toArray⟩) ∧ w.cell? ⟨mb, 2, none⟩ = some (.int .i64 n) ∧ w.cell? ⟨mb, 3, none⟩ = some (.bool off) :=
  ⟨by rw [cell_of_row' h]; rfl, by rw [cell_of_row' h]; rfl, by rw [cell_of_row' h]; rfl, by rw [cell_of_row' h]; rfl⟩
theorem Rg.froz (h : Rg w mb rb nm n off) (j : Nat) : w.frozen? ⟨mb, j, none⟩ = false := frozen_of_row h j
theorem Rg.setN (h : Rg w mb rb nm n off) (m : Nat) : Rg (w.setCell ⟨mb, 2, none⟩ (.int .i64 m)) mb rb nm m off := setCell_row h 2 (.int .i64 m)
theorem Rg.setOff (h : Rg w mb rb nm n off) (o : Bool) : Rg (w.setCell ⟨mb, 3, none⟩ (.bool o)) mb rb nm n o := setCell_row h 3 (.bool o)
end
/-- What an Open of the document's leaves. -/
def RfOpenP (w w' : World) (B rb : Nat) (G : Nat → Prop) (nm : List UInt8) (q : Int × Option (List (List UInt8) × Nat) × DS) (r : Ending) : Prop :=
  ∃ G', RfS w' B rb G' q.2.2 ∧ Upd (fun i => i = rb) w w' ∧ Below B w w' ∧ (∀ i, G' i → G i ∨ w.heap.size ≤ i) ∧
    match q.2.1 with
    | none => r = .returned (.tuple #[.pointer none, .slice none 0 0, .int .i64 q.1])
    | some (xs, n) => ∃ mb a c Af Cf, r = .returned (.tuple #[.pointer (some ⟨mb, 0, none⟩), .slice a xs.length c, .int .i64 q.1]) ∧ Rg w' mb rb nm n false ∧ w.heap.size ≤ mb ∧ ¬ G' mb ∧ Rd2 w' a xs Af Cf ∧ RdG (fun i => w.heap.size ≤ i ∧ i < w'.heap.size ∧ i ≠ mb ∧ ¬ G' i) a xs Af ∧ Els w' w.heap.size (fun i => i = mb ∨ G' i) a c xs Af Cf
set_option maxRecDepth 100000 in
set_option maxHeartbeats 4000000 in
theorem RfOpen_calls {w : World} {B rb : Nat} {G : Nat → Prop} {s : DS} (h : RfS w B rb G s) (nm : List UInt8) (hnm : nm.length ≤ 140737488351232) (hw : s.writes ≤ 4611686018427387904) :
    Calls Tryz.prog 22 #[.pointer (some ⟨rb, 0, none⟩), .string ⟨nm.toArray⟩] w fun r w' => RfOpenP w w' B rb G nm (openR s nm) r := by
  have RC := Lib.hid (Read9_calls h nm (by omega))
  have DH := Lib.hid h; have HNM := Lib.hid hnm; have HW := Lib.hid hw
  obtain ⟨q, hq⟩ : ∃ q, openR s nm = q := ⟨_, rfl⟩
  rw [hq]
  have HQ := Lib.hid hq
  obtain ⟨e, he⟩ : ∃ e, s.may true [nm] = e := ⟨_, rfl⟩
  rw [he] at RC
  have HE := Lib.hid he
  obtain ⟨b, hb⟩ : ∃ b, readB s nm = b := ⟨_, rfl⟩
  rw [hb] at RC
  have HB := Lib.hid hb
  have BL : b.length ≤ 268435456 := by
    rw [← hb]; unfold readB
    split
    · exact h.ok.byt nm
    · exact Nat.zero_le _
  clear h hnm hw hq he hb
  go_enter Tryz.func22, Tryz.ntmps22
  go_wp2_with fail
  refine RC.out.mono ?_
  rintro r w1 ⟨v1, rfl, ho, hb1⟩
  obtain ⟨ba, bc, rfl, -, -, -, -, -⟩ := own_val ho
  have B1 := Lib.hid hb1; have O1 := Lib.hid ho
  have R1 := Lib.hid (DH.out.below hb1)
  have BW := Lib.hid (show B ≤ w.heap.size from DH.out.bw)
  clear ho hb1 RC
  by_cases c1 : e ≠ 0 ∧ e ≠ 92
  · have t1 : (e != 0) = true := by rw [bne_iff_ne]; exact c1.1
    have t2 : (e != 92) = true := by rw [bne_iff_ne]; exact c1.2
    have FIN : Hid (RfOpenP w w1 B rb G nm q (.returned (.tuple #[.pointer none, .slice none 0 0, .int .i64 e]))) := by
      have QE : q = (e, none, s) := by rw [← HQ.out]; unfold openR; rw [HE.out, if_pos c1]
      rw [QE]
      exact ⟨G, R1.out, (Upd.ofBelow B1.out).mono (fun _ s _ => s.elim), B1.out.mono BW.out, fun i k => .inl k, rfl⟩
    clear c1
    go_wp2
    go_ret3
    exact FIN.out
  · have EC : Hid (e = 0 ∨ e = 92) := by
      show _
      by_cases h0 : e = 0
      · exact .inl h0
      · by_cases h9 : e = 92
        · exact .inr h9
        · exact absurd ⟨h0, h9⟩ c1
    have QE : Hid (q = if (recOf b).2.2 = 101 then (101, none, s) else if (recOf b).2.2 = 0 then (0, some ((recOf b).1, (recOf b).2.1), s)
        else if (s.cut nm (recOf b).2.1).1 ≠ 0 then ((s.cut nm (recOf b).2.1).1, none, (s.cut nm (recOf b).2.1).2) else (0, some ((recOf b).1, (recOf b).2.1), (s.cut nm (recOf b).2.1).2)) := by
      show _ = _; rw [← HQ.out]; unfold openR; rw [HE.out, if_neg c1, HB.out]
    have RCC := Lib.hid (Records_calls w1 b ba bc (Own.byt O1.out).1 (own_le O1.out) BL)
    have ST := Lib.hid (recOf_status b)
    have PA := Lib.hid (recOf_part (b.length + 1) b (Nat.lt_succ_self _))
    have WH := Lib.hid (recOf_whole (b.length + 1) b (Nat.lt_succ_self _))
    clear c1 HQ HE HB
    rcases EC.out with he | he
    all_goals
      subst he
      clear EC
      go_wp2_with fail
      refine RCC.out.mono ?_
      rintro r w2 ⟨hb2, hr1, hr2⟩
      have B2 := Lib.hid (B1.out.trans (hb2.mono B1.out.size))
      have R2 := Lib.hid (R1.out.below hb2)
      clear RCC
      rcases ST.out with hs | hs | hs
      · obtain ⟨a, c, Af, Cf, rfl, hrd, hrg, hel⟩ := hr2 (by rw [hs]; decide)
        have ek : (recOf b).2.1 = b.length := WH.out hs
        have QQ : Hid (q = (0, some ((recOf b).1, (recOf b).2.1), s)) := by show _ = _; rw [QE.out, hs]; simp
        obtain ⟨⟨xs, k, f⟩, hx⟩ : ∃ z, recOf b = z := ⟨_, rfl⟩
        rw [hx] at QQ hrd hrg hel ek ⊢
        dsimp only at QQ hrd hrg hel ek ⊢
        subst ek
        have t1 : decide ((b.length : Int) < (b.length : Int)) = false := decide_eq_false (by omega)
        have FIN : Hid (∀ w3, w2.alloc (.cells #[.pointer (some ⟨rb, 0, none⟩), .string ⟨nm.toArray⟩, .int .i64 b.length, .bool false] 98) = w3 → RfOpenP w w3 B rb G nm q (.returned (.tuple #[.pointer (some ⟨w2.heap.size, 0, none⟩), .slice a xs.length c, .int .i64 0]))) := by
          rintro w3 rfl
          have b3 : Below w2.heap.size w2 (w2.alloc (.cells #[.pointer (some ⟨rb, 0, none⟩), .string ⟨nm.toArray⟩, .int .i64 b.length, .bool false] 98)) := (Below.refl _ _).alloc (Nat.le_refl _) _
          have bb := B2.out.trans (b3.mono B2.out.size)
          rw [QQ.out]
          refine ⟨G, R2.out.below b3, (Upd.ofBelow bb).mono (fun _ s _ => s.elim), bb.mono BW.out, fun i k => .inl k, w2.heap.size, a, c, Af, Cf, rfl, heap_alloc_new w2 _, B2.out.size, fun hg => ?_, hrd.upd hrg (Upd.ofBelow b3) (fun _ s => s.elim), hrg.mono (fun i hi => ⟨Nat.le_trans B1.out.size hi.1, by have := b3.size; omega, by omega, fun hg => ?_⟩), ?_⟩
          · have := (R2.out.fl _ hg).2; omega
          · have := (DH.out.fl _ hg).2; have := B1.out.size; omega
          · exact ((hel.upd (Upd.ofBelow b3) (fun _ s => s.elim)).mono B1.out.size (fun i hi h1 h2 => by
              rcases hi with h9 | h9
              · right; omega
              · have := (DH.out.fl _ h9).2; have := B1.out.size; left; omega))
        clear hrd hrg hel hr1 hr2 hx hs hb2
        go_wp2
        go_ret3
        exact FIN.out _ rfl
      · obtain ⟨a, c, Af, Cf, rfl, hrd, hrg, hel⟩ := hr2 (by rw [hs]; decide)
        have ek : (recOf b).2.1 < b.length := PA.out hs
        have QQ : Hid (q = if (s.cut nm (recOf b).2.1).1 ≠ 0 then ((s.cut nm (recOf b).2.1).1, none, (s.cut nm (recOf b).2.1).2) else (0, some ((recOf b).1, (recOf b).2.1), (s.cut nm (recOf b).2.1).2)) := by show _ = _; rw [QE.out, hs]; rw [if_neg (by decide), if_neg (by decide)]
        obtain ⟨⟨xs, k, f⟩, hx⟩ : ∃ z, recOf b = z := ⟨_, rfl⟩
        rw [hx] at QQ hrd hrg hel ek ⊢
        dsimp only at QQ hrd hrg hel ek ⊢
        have t1 : decide ((k : Int) < (b.length : Int)) = true := decide_eq_true (by omega)
        have t1' : decide (k < b.length) = true := decide_eq_true ek
        have CC := Lib.hid (Cut9_calls R2.out nm (k : Int) HNM.out HW.out)
        obtain ⟨⟨ec, sc⟩, hsc⟩ : ∃ z, s.cut nm (k : Int) = z := ⟨_, rfl⟩
        rw [hsc] at CC QQ
        have RD := Lib.hid hrd; have RG := Lib.hid hrg; have EL := Lib.hid hel
        clear hsc hrd hrg hel hr1 hr2 hx hs hb2
        go_wp2_with fail
        refine CC.out.mono ?_
        rintro r w3 ⟨rfl, G3, r3, u3, b3, g3⟩
        have UU := Lib.hid (((Upd.ofBelow B2.out).mono (fun _ s _ => s.elim)).same u3)
        have BBX := Lib.hid ((B2.out.mono BW.out).trans b3)
        have GG := Lib.hid (fun i (hi : G3 i) => (g3 i hi).imp_right (fun h9 => Nat.le_trans B2.out.size h9))
        have G3H := Lib.hid g3
        have U3 := Lib.hid u3; have R3 := Lib.hid r3
        clear r3 u3 b3 g3 CC
        by_cases ce : ec = 0
        · subst ce
          have t2 : ((0 : Int) != 0) = false := rfl
          have FIN : Hid (∀ w4, w3.alloc (.cells #[.pointer (some ⟨rb, 0, none⟩), .string ⟨nm.toArray⟩, .int .i64 k, .bool false] 98) = w4 → RfOpenP w w4 B rb G nm q (.returned (.tuple #[.pointer (some ⟨w3.heap.size, 0, none⟩), .slice a xs.length c, .int .i64 0]))) := by
            rintro w4 rfl
            have b4 : Below w3.heap.size w3 (w3.alloc (.cells #[.pointer (some ⟨rb, 0, none⟩), .string ⟨nm.toArray⟩, .int .i64 k, .bool false] 98)) := (Below.refl _ _).alloc (Nat.le_refl _) _
            have z3 := UU.out.size
            have rbl := (DH.out.fl _ DH.out.at_).2
            have rd3 := RD.out.upd RG.out U3.out (fun i hi hz => by have := hz.1; have := B1.out.size; omega)
            rw [QQ.out, if_neg (by simp)]
            refine ⟨G3, R3.out.below b4, UU.out.same ((Upd.ofBelow b4).mono (fun _ s _ => s.elim)), BBX.out.trans (b4.mono (Nat.le_trans BW.out z3)), GG.out, w3.heap.size, a, c, Af, Cf, rfl, heap_alloc_new w3 _, z3, fun hg => ?_, rd3.upd (RG.out.mono (fun i hi => hi)) (Upd.ofBelow b4) (fun _ s => s.elim), RG.out.mono (fun i hi => ⟨Nat.le_trans B1.out.size hi.1, ?_, ?_, fun hg => ?_⟩), ?_⟩
            · have := (R3.out.fl _ hg).2; omega
            · have := hi.2; have := U3.out.size; have := b4.size; omega
            · have := hi.2; have := U3.out.size; omega
            · rcases G3H.out i hg with h9 | h9
              · have := (DH.out.fl _ h9).2; have := B1.out.size; omega
              · omega
            · refine (((EL.out.upd U3.out (fun i hi => ?_)).upd (Upd.ofBelow b4) (fun _ s => s.elim)).mono B1.out.size (fun i hi h1 h2 => ?_))
              · have := B1.out.size; left; omega
              · rcases hi with h9 | h9
                · right; have := U3.out.size; omega
                · rcases G3H.out i h9 with h8 | h8
                  · have := (DH.out.fl _ h8).2; have := B1.out.size; left; omega
                  · right; omega
          go_wp2
          go_ret3
          exact FIN.out _ rfl
        · have t2 : (ec != 0) = true := by rw [bne_iff_ne]; exact ce
          have FIN : Hid (RfOpenP w w3 B rb G nm q (.returned (.tuple #[.pointer none, .slice none 0 0, .int .i64 ec]))) := by
            rw [QQ.out, if_pos ce]
            exact ⟨G3, R3.out, UU.out, BBX.out, GG.out, rfl⟩
          clear ce
          go_wp2
          go_ret3
          exact FIN.out
      · obtain rfl := hr1 hs
        have FIN : Hid (RfOpenP w w2 B rb G nm q (.returned (.tuple #[.pointer none, .slice none 0 0, .int .i64 101]))) := by
          have e1 : q = (101, none, s) := by rw [QE.out, if_pos hs]
          rw [e1]
          exact ⟨G, R2.out, (Upd.ofBelow B2.out).mono (fun _ s _ => s.elim), B2.out.mono BW.out, fun i k => .inl k, rfl⟩
        clear hr1 hr2 hs hb2
        go_wp2
        go_ret3
        exact FIN.out
/-- What an Append to a log of the document's leaves. -/
def RfWalP (w w' : World) (B mb rb : Nat) (G : Nat → Prop) (nm : List UInt8) (q : Int × Nat × Bool × DS) (r : Ending) : Prop :=
  r = .returned (.int .i64 q.1) ∧ ∃ G', RfS w' B rb G' q.2.2.2 ∧ Rg w' mb rb nm q.2.1 q.2.2.1 ∧ Upd (fun i => i = rb ∨ i = mb) w w' ∧ Below B w w' ∧ (∀ i, G' i → G i ∨ w.heap.size ≤ i) ∧ ¬ G' mb
set_option maxRecDepth 100000 in
set_option maxHeartbeats 4000000 in
theorem RfWal_calls {w : World} {B rb mb : Nat} {G : Nat → Prop} {s : DS} {nm : List UInt8} {n : Nat} {off : Bool} (h : RfS w B rb G s) (hl : Rg w mb rb nm n off) (hmb : B ≤ mb) (hg : ¬ G mb) (b : List UInt8) (ba : Option Addr) (bc : Nat) (hy : Byt w ba b) (hs : b.length ≤ 140737488351232) (hnm : nm.length ≤ 140737488351232) (hw : s.writes ≤ 4611686018427387904) (hn : n ≤ 4611686018427387904) :
    Calls Tryz.prog 28 #[.pointer (some ⟨mb, 0, none⟩), .slice ba b.length bc] w fun r w' => RfWalP w w' B mb rb G nm (walA s nm n off b) r := by
  obtain ⟨c0, c1, c2, c3⟩ := hl.cells
  have NE : mb ≠ rb := fun e => hg (by rw [e]; exact h.at_)
  have DH := Lib.hid h; have LH := Lib.hid hl; have HG := Lib.hid hg; have NEH := Lib.hid NE; have HMB := Lib.hid hmb
  have FC := Lib.hid (Frame3_calls w b ba bc hy hs)
  cases off with
  | true =>
    have FIN : Hid (RfWalP w w B mb rb G nm (walA s nm n true b) (.returned (.int .i64 102))) := by
      rw [show walA s nm n true b = (102, n, true, s) from if_pos rfl]
      exact ⟨rfl, G, h, hl, Upd.refl _ _, Below.refl _ _, fun i k => .inl k, hg⟩
    clear h hl hg hy NE hs hmb FC
    go_enter Tryz.func28, Tryz.ntmps28
    go_wp2
    go_ret
    exact FIN.out
  | false =>
    by_cases hx : 16777216 < b.length
    · have e : walA s nm n false b = (100, n, false, s) := by unfold walA; rw [if_neg (by decide), if_pos hx]
      rw [e]
      have FR : Hid (FrameR b = ([], 31)) := if_neg (by omega)
      rw [FR.out] at FC
      clear e h hl hg hy hx hs NE hmb
      go_enter Tryz.func28, Tryz.ntmps28
      go_wp2_with fail
      refine FC.out.mono ?_
      rintro r w1 ⟨v, rfl, -, hb⟩
      have FIN : Hid (RfWalP w w1 B mb rb G nm (100, n, false, s) (.returned (.int .i64 100))) :=
        ⟨rfl, G, DH.out.below hb, LH.out.below hb, (Upd.ofBelow hb).mono (fun _ s _ => s.elim), hb.mono DH.out.bw, fun i k => .inl k, HG.out⟩
      clear hb FC
      go_wp2
      go_ret
      exact FIN.out
    · have FR : Hid (FrameR b = (frm b, 0)) := if_pos (by omega)
      rw [FR.out] at FC
      have QE : Hid (walA s nm n false b = if (s.append nm (frm b)).1 ≠ 0 then ((s.append nm (frm b)).1, n, true, (s.append nm (frm b)).2) else (0, n + (b.length + 13), false, (s.append nm (frm b)).2)) := by
        show _ = _
        unfold walA
        rw [if_neg (by decide), if_neg hx]
      have FL : Hid ((frm b).length = b.length + 13) := frm_length b
      obtain ⟨q, hq⟩ : ∃ q, walA s nm n false b = q := ⟨_, rfl⟩
      rw [hq] at QE ⊢
      have HW := Lib.hid hw; have HNM := Lib.hid hnm
      have bl : b.length ≤ 16777216 := by omega
      clear hq h hl hg hy hx hs NE hw hnm hmb
      go_enter Tryz.func28, Tryz.ntmps28
      go_wp2_with fail
      refine FC.out.mono ?_
      rintro r w1 ⟨v, rfl, ho, hb⟩
      obtain ⟨fa, fc, rfl, -, -, -, -, -⟩ := own_val ho
      have R1 := Lib.hid (DH.out.below (hb.trans (bel_drew (Below.refl _ _))))
      have L1 := Lib.hid (LH.out.below (hb.trans (bel_drew (Below.refl _ _))))
      have B1 := Lib.hid (hb.trans (bel_drew (Below.refl _ _)))
      have AC := Lib.hid (Append9_calls R1.out nm (frm b) fa fc HNM.out (Own.byt (ho.below (bel_drew (Below.refl _ _)))).1 (own_le ho) (by rw [FL.out]; omega) HW.out)
      obtain ⟨⟨e, t⟩, hsc⟩ : ∃ z, s.append nm (frm b) = z := ⟨_, rfl⟩
      rw [hsc] at AC QE
      dsimp only at AC QE
      obtain ⟨d0, d1, d2, d3⟩ := L1.out.cells
      rw [FL.out] at AC
      simp only [FL.out]
      have i1 : ((b.length + 13 : Nat) : Int) = (b.length : Int) + 13 := by omega
      have I1 := Lib.hid i1
      clear ho hb hsc c0 c1 c2 c3 FC i1
      go_upto_region 6 with fail
      go_region_held3 (fun w' => w'.cell? ⟨mb, 0, none⟩ = some (.pointer (some ⟨rb, 0, none⟩)) ∧ w'.cell? ⟨mb, 1, none⟩ = some (.string ⟨nm.toArray⟩))
        (first
          | go_keep)
        (first
          | (go_at_call 61; (with_reducible refine AC.out.mono ?_); rintro r w3 ⟨rfl, G3, r3, u3, b3, g3⟩; have L3 := Lib.hid (L1.out.upd u3 NEH.out); have U3 := Lib.hid u3; have B3 := Lib.hid b3; have G3H := Lib.hid g3; have R3 := Lib.hid r3; obtain ⟨e0, e1, e2, e3⟩ := L3.out.cells; clear u3 b3 g3 r3))
      all_goals
        have f2 := L3.out.froz 2
        have f3 := L3.out.froz 3
        have NG : Hid (¬ G3 mb) := fun hh => by
          rcases G3H.out mb hh with h9 | h9
          · exact HG.out h9
          · have := L1.out.lt; omega
        have UU : Hid (Upd (fun i => i = rb ∨ i = mb) w w3) := ((Upd.ofBelow B1.out).mono (fun _ s _ => s.elim)).same (U3.out.mono (fun i hi _ => .inl hi))
        have BB : Hid (Below B w w3) := (B1.out.mono DH.out.bw).trans B3.out
        by_cases ce : e = 0
        · subst ce
          have t1 : ((0 : Int) != 0) = false := rfl
          have FIN : Hid (∀ w4, w3.setCell ⟨mb, 2, none⟩ (.int .i64 ((n : Int) + ((b.length : Int) + 13))) = w4 → RfWalP w w4 B mb rb G nm q (.returned (.int .i64 0))) := by
            rintro w4 rfl
            have ux : Upd (fun i => i = mb) w3 (w3.setCell ⟨mb, 2, none⟩ (.int .i64 ((n : Int) + ((b.length : Int) + 13)))) := (Upd.refl (fun i => i = mb) w3).setCell (fun _ => rfl) _
            rw [QE.out, if_neg (by simp)]
            refine ⟨rfl, G3, R3.out.upd ux (fun i hi hh => NG.out (by rw [← hi]; exact hh)), ?_, UU.out.same (ux.mono (fun i hi _ => .inr hi)), BB.out.trans (ux.below (fun i hi _ => by rw [hi]; exact HMB.out) (Nat.le_trans DH.out.bw UU.out.size)), fun i hi => (G3H.out i hi).imp_right (fun h9 => Nat.le_trans B1.out.size h9), NG.out⟩
            have h9 := L3.out.setN (n + (b.length + 13))
            rw [show ((n + (b.length + 13) : Nat) : Int) = (n : Int) + ((b.length : Int) + 13) by omega] at h9
            have h8 : Rg (w3.setCell ⟨mb, 2, none⟩ (.int .i64 ((n : Int) + ((b.length : Int) + 13)))) mb rb nm (n + (b.length + 13)) false := h9
            exact h8
          go_wp2
          go_ret
          exact FIN.out _ rfl
        · have t1 : (e != 0) = true := by rw [bne_iff_ne]; exact ce
          have FIN : Hid (∀ w4, w3.setCell ⟨mb, 3, none⟩ (.bool true) = w4 → RfWalP w w4 B mb rb G nm q (.returned (.int .i64 e))) := by
            rintro w4 rfl
            have ux : Upd (fun i => i = mb) w3 (w3.setCell ⟨mb, 3, none⟩ (.bool true)) := (Upd.refl (fun i => i = mb) w3).setCell (fun _ => rfl) _
            rw [QE.out, if_pos ce]
            exact ⟨rfl, G3, R3.out.upd ux (fun i hi hh => NG.out (by rw [← hi]; exact hh)), L3.out.setOff true, UU.out.same (ux.mono (fun i hi _ => .inr hi)), BB.out.trans (ux.below (fun i hi _ => by rw [hi]; exact HMB.out) (Nat.le_trans DH.out.bw UU.out.size)), fun i hi => (G3H.out i hi).imp_right (fun h9 => Nat.le_trans B1.out.size h9), NG.out⟩
          clear ce
          go_wp2
          go_ret
          exact FIN.out _ rfl
end Go.Proofs.YtnbpkignkfabkaaGreatDoor
