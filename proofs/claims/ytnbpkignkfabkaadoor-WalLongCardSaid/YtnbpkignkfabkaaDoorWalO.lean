/- wal.Open. -/
import Derived.Test.YtnbpkignkfabkaaDoorWalN
import Derived.Test.YtnbpkignkfabkaaDoorCutOn
namespace Go.Proofs.YtnbpkignkfabkaaDoor
set_option linter.unusedVariables false
set_option linter.unusedSimpArgs false
open Go.RowKit Go.Maps
/-- The frame at a label of Open's. -/
def OpF (db lb : Nat) (nm b : List UInt8) (ba : Option Addr) (bc : Nat) (v : Value) (a : Act) : Prop := a.defers = [] ∧ a.tmps.size = 81 ∧ a.tmps.getD 0 undef = .pointer (some ⟨db, 0, none⟩) ∧ a.tmps.getD 1 undef = .string ⟨nm.toArray⟩ ∧ a.tmps.getD 7 undef = .slice ba b.length bc ∧ a.tmps.getD 9 undef = .pointer (some ⟨lb, 0, none⟩) ∧ a.tmps.getD 10 undef = v
theorem tab_eq (l : List Value) : l = (List.range l.length).map (fun i => l.getD i undef) := by
  apply List.ext_getElem?
  intro i
  rw [List.getElem?_map]
  by_cases h : i < l.length
  · rw [List.getElem?_range h]
    simp [List.getD, h]
  · rw [List.getElem?_eq_none (by omega), List.getElem?_eq_none (by simp; omega)]
    rfl
theorem OpF.opened {db lb : Nat} {nm b : List UInt8} {ba : Option Addr} {bc : Nat} {v : Value} {a : Act} (h : OpF db lb nm b ba bc v a) : ∃ u : Nat → Value, a = { tmps := #[.pointer (some ⟨db, 0, none⟩), .string ⟨nm.toArray⟩, u 2, u 3, u 4, u 5, u 6, .slice ba b.length bc, u 8, .pointer (some ⟨lb, 0, none⟩), v, u 11, u 12, u 13, u 14, u 15, u 16, u 17, u 18, u 19, u 20, u 21, u 22, u 23, u 24, u 25, u 26, u 27, u 28, u 29, u 30, u 31, u 32, u 33, u 34, u 35, u 36, u 37, u 38, u 39, u 40, u 41, u 42, u 43, u 44, u 45, u 46, u 47, u 48, u 49, u 50, u 51, u 52, u 53, u 54, u 55, u 56, u 57, u 58, u 59, u 60, u 61, u 62, u 63, u 64, u 65, u 66, u 67, u 68, u 69, u 70, u 71, u 72, u 73, u 74, u 75, u 76, u 77, u 78, u 79, u 80], defers := [] } := by
  obtain ⟨h1, h2, k0, k1, k7, k9, k10⟩ := h
  obtain ⟨tmps, defers⟩ := a
  obtain ⟨l⟩ := tmps
  refine ⟨fun i => l.getD i undef, ?_⟩
  have e := tab_eq l
  have hl : l.length = 81 := h2
  rw [hl] at e
  have e2 : (List.range 81).map (fun i => l.getD i undef) = [l.getD 0 undef, l.getD 1 undef, l.getD 2 undef, l.getD 3 undef, l.getD 4 undef, l.getD 5 undef, l.getD 6 undef, l.getD 7 undef, l.getD 8 undef, l.getD 9 undef, l.getD 10 undef, l.getD 11 undef, l.getD 12 undef, l.getD 13 undef, l.getD 14 undef, l.getD 15 undef, l.getD 16 undef, l.getD 17 undef, l.getD 18 undef, l.getD 19 undef, l.getD 20 undef, l.getD 21 undef, l.getD 22 undef, l.getD 23 undef, l.getD 24 undef, l.getD 25 undef, l.getD 26 undef, l.getD 27 undef, l.getD 28 undef, l.getD 29 undef, l.getD 30 undef, l.getD 31 undef, l.getD 32 undef, l.getD 33 undef, l.getD 34 undef, l.getD 35 undef, l.getD 36 undef, l.getD 37 undef, l.getD 38 undef, l.getD 39 undef, l.getD 40 undef, l.getD 41 undef, l.getD 42 undef, l.getD 43 undef, l.getD 44 undef, l.getD 45 undef, l.getD 46 undef, l.getD 47 undef, l.getD 48 undef, l.getD 49 undef, l.getD 50 undef, l.getD 51 undef, l.getD 52 undef, l.getD 53 undef, l.getD 54 undef, l.getD 55 undef, l.getD 56 undef, l.getD 57 undef, l.getD 58 undef, l.getD 59 undef, l.getD 60 undef, l.getD 61 undef, l.getD 62 undef, l.getD 63 undef, l.getD 64 undef, l.getD 65 undef, l.getD 66 undef, l.getD 67 undef, l.getD 68 undef, l.getD 69 undef, l.getD 70 undef, l.getD 71 undef, l.getD 72 undef, l.getD 73 undef, l.getD 74 undef, l.getD 75 undef, l.getD 76 undef, l.getD 77 undef, l.getD 78 undef, l.getD 79 undef, l.getD 80 undef] := by rfl
  rw [e2] at e
  have j0 : l.getD 0 undef = .pointer (some ⟨db, 0, none⟩) := by have := k0; simpa [Array.getD, List.getD, hl] using this
  have j1 : l.getD 1 undef = .string ⟨nm.toArray⟩ := by have := k1; simpa [Array.getD, List.getD, hl] using this
  have j7 : l.getD 7 undef = .slice ba b.length bc := by have := k7; simpa [Array.getD, List.getD, hl] using this
  have j9 : l.getD 9 undef = .pointer (some ⟨lb, 0, none⟩) := by have := k9; simpa [Array.getD, List.getD, hl] using this
  have j10 : l.getD 10 undef = v := by have := k10; simpa [Array.getD, List.getD, hl] using this
  rw [j0, j1, j7, j9, j10] at e
  have h1' : defers = [] := h1
  subst h1'
  exact congrArg (fun t => ({ tmps := ⟨t⟩, defers := [] } : Act)) e
def OpJ (w : World) (base db : Nat) (F : Nat → Prop) (s : DS) (nm b : List UInt8) (a : Act) (wr : World) : Prop :=
  ∃ (lb : Nat) (ba : Option Addr) (bc k : Nat) (xs : List (List UInt8)) (v : Value) (Af : Nat → Option Addr) (Cf : Nat → Nat), OpF db lb nm b ba bc v a ∧ w.heap.size ≤ lb ∧ OpS w wr base db lb F s nm b ba bc k xs v Af Cf
/-- .. where a torn record stands. -/
def OpT (w : World) (base db : Nat) (F : Nat → Prop) (s : DS) (nm b : List UInt8) (a : Act) (wr : World) : Prop :=
  ∃ (lb : Nat) (ba : Option Addr) (bc k : Nat) (xs : List (List UInt8)) (v : Value) (Af : Nat → Option Addr) (Cf : Nat → Nat), OpF db lb nm b ba bc v a ∧ w.heap.size ≤ lb ∧ OpS w wr base db lb F s nm b ba bc k xs v Af Cf ∧ recOf b = (xs, k, 30)
def sizeAt (lb : Nat) (w : World) : Nat := match w.cell? ⟨lb, 2, none⟩ with | some (.int _ n) => n.toNat | _ => 0
theorem sizeAt_lg {w : World} {lb db : Nat} {nm : List UInt8} {n : Nat} {o : Bool} (h : Lg w lb db nm n o) : sizeAt lb w = n := by unfold sizeAt; rw [h.cells.2.2.1]; simp
def opM (b : List UInt8) (a : Act) (w : World) : Nat := match a.tmps.getD 9 undef with | .pointer (some ad) => b.length - sizeAt ad.block w | _ => 0
set_option maxRecDepth 100000 in
set_option maxHeartbeats 8000000 in
theorem Open_calls (base db : Nat) (F : Nat → Prop) (s : DS) (nm : List UInt8) (w : World) (h : Dk w base F db s) (hF : ∀ i, F i → i < w.heap.size) (ht : Tab w) (hg : 0 < w.heap.size) (hnt : ¬ F 0) (hnm : nm.length ≤ 140737488351232) (hw : s.writes ≤ 4611686018427387904) :
    Calls Tryd.prog 11 #[.pointer (some ⟨db, 0, none⟩), .string ⟨nm.toArray⟩] w fun r w' => OpenP w w' base db F nm (openR s nm) r := by
  have RC := Lib.hid (Read_dk nm h hnm)
  have DH := Lib.hid h; have HF := Lib.hid hF; have TB := Lib.hid ht; have HG := Lib.hid hg; have HNM := Lib.hid hnm; have HW := Lib.hid hw; have NT := Lib.hid hnt
  obtain ⟨q, hq⟩ : ∃ q, openR s nm = q := ⟨_, rfl⟩
  rw [hq]
  have HQ := Lib.hid hq
  obtain ⟨e, he⟩ : ∃ e, s.may true [nm] = e := ⟨_, rfl⟩
  rw [he] at RC
  have HE := Lib.hid he
  obtain ⟨b, hb⟩ : ∃ b, readB s nm = b := ⟨_, rfl⟩
  rw [hb] at RC
  have HB := Lib.hid hb
  have BL : b.length ≤ 268435456 := by
    rw [← hb]; unfold readB
    split
    · exact h.ok.byt nm
    · exact Nat.zero_le _
  have BLH := Lib.hid BL
  clear h hF ht hg hnm hw hnt hq he hb BL
  go_enter Tryd.func11, Tryd.ntmps11
  by_cases c1 : e ≠ 0 ∧ e ≠ 92
  · have t1 : (e != 0) = true := by rw [bne_iff_ne]; exact c1.1
    have t2 : (e != 92) = true := by rw [bne_iff_ne]; exact c1.2
    have QE : Hid (q = (e, none, s)) := by
      show _ = _; rw [← HQ.out]; unfold openR; rw [HE.out, if_pos c1]
    clear c1
    go_wp2_with fail
    refine wp_scope_straight ?_
    go_wp2_with fail
    refine RC.out.mono ?_
    rintro r w1 ⟨v1, rfl, ho, hd, hu⟩
    have FIN : Hid (OpenP w w1 base db F nm q (.returned (.tuple #[.pointer none, .slice none 0 0, .int .i64 e]))) := by
      rw [QE.out]
      exact ⟨F, hd, hu.mono (fun i hi _ => by rw [hi]; exact DH.out.at_), fun i k => .inl k, rfl⟩
    clear ho hd hu
    go_wp2
    try rw [Exit.noGoto_ret]
    go_ret3
    exact FIN.out
  · have EC : Hid (e = 0 ∨ e = 92) := by
      show _
      by_cases h0 : e = 0
      · exact .inl h0
      · by_cases h9 : e = 92
        · exact .inr h9
        · exact absurd ⟨h0, h9⟩ c1
    have QE : Hid (q = if (recOf b).2.2 = 101 then (101, none, s) else if (recOf b).2.2 = 0 then (0, some ((recOf b).1, (recOf b).2.1), s)
        else if (s.cut nm (recOf b).2.1).1 ≠ 0 then ((s.cut nm (recOf b).2.1).1, none, (s.cut nm (recOf b).2.1).2) else (0, some ((recOf b).1, (recOf b).2.1), (s.cut nm (recOf b).2.1).2)) := by
      show _ = _; rw [← HQ.out]; unfold openR; rw [HE.out, if_neg c1, HB.out]
    clear c1 HQ
    go_wp2_with fail
    refine wp_scope_jumps2 0 1 (OpJ w base db F s nm b) (OpT w base db F s nm b) (opM b) rfl rfl ?_ ?_ ?_
    · -- a pass from the label
      rintro a wr ⟨lb, ba, bc, k, xs, v, Af, Cf, hfr, hlb, hs⟩
      obtain ⟨u, rfl⟩ := hfr.opened
      clear hfr
      have OS := Lib.hid hs; have HLB := Lib.hid hlb
      clear hs hlb
      obtain ⟨c0, c1, c2, c3⟩ := OS.out.lg.cells
      have NF : ¬ F lb := fun hf => by have := HF.out lb hf; have := HLB.out; omega
      have NFH := Lib.hid NF
      clear NF
      by_cases hk : k = b.length
      · have t1 : ((k : Int) == (b.length : Int)) = true := by rw [hk]; exact beq_iff_eq.2 rfl
        obtain ⟨a, c, rfl, hrd, hrg⟩ := OS.out.rd
        have FIN : Hid (OpenP w wr base db F nm q (.returned (.tuple #[.pointer (some ⟨lb, 0, none⟩), .slice a xs.length c, .int .i64 0]))) := by
          have hr := OS.out.recs
          rw [hk, List.drop_length, recOf_nil] at hr
          have e1 : q = (0, some (xs, k), s) := by
            rw [QE.out, hr, hk]
            simp
          rw [e1]
          exact ⟨F, OS.out.dk, OS.out.up, fun i hi => .inl hi, lb, a, c, Af, Cf, rfl, OS.out.lg, HLB.out, NFH.out, hrd, hrg.mono (fun i hi => ⟨hi.1, (fun hf => by have := HF.out i hf; omega), hi.2⟩)⟩
        clear hrd hrg hk
        go_wp2
        simp only [jump2]
        go_ret3
        exact FIN.out
      · have t1 : ((k : Int) == (b.length : Int)) = false := beq_eq_false_iff_ne.2 (by omega)
        have hkl := OS.out.kle
        have hlt : k < b.length := by omega
        obtain ⟨g, cap, hbv⟩ := OS.out.bo.shape (by omega)
        obtain ⟨rfl, rfl⟩ : ba = some ⟨g, 0, none⟩ ∧ bc = cap := by injection hbv with e1 e2 e3; exact ⟨e1, e3⟩
        clear hbv
        have hcap := own_le OS.out.bo
        have hby := (Own.byt OS.out.bo).1
        have hck : ¬ bc = k := by omega
        have i1 : (k : Int) ≤ (b.length : Int) := by omega
        have i2 : (k : Int) ≤ (bc : Int) := by omega
        have i3 : (b.length : Int) ≤ (bc : Int) := by omega
        have UC := Unframe_calls wr (b.drop k) (some ⟨g, 0 + k, none⟩) (bc - k) (hby.drop k) (by rw [List.length_drop]; omega) (by rw [List.length_drop]; have := BLH.out; omega) OS.out.tab
        rw [List.length_drop, Nat.zero_add] at UC
        obtain ⟨⟨x, n, f⟩, hu⟩ : ∃ q, UnframeR (b.drop k) = q := ⟨_, rfl⟩
        rw [hu] at UC
        have UCH := Lib.hid UC
        have HU := Lib.hid hu
        have E0 : Hid ((b.drop k).length ≠ 0) := by show _ ≠ _; rw [List.length_drop]; omega
        have HLT := Lib.hid hlt
        clear UC hu hby hk hkl
        go_wp2_with fail
        refine UCH.out.mono ?_
        rintro r w3 ⟨xv, rfl, ho3, hb3⟩
        obtain ⟨xa, xc, rfl, -, -, -, -, -⟩ := own_val ho3
        have B3 := Lib.hid hb3; have O3 := Lib.hid ho3
        clear ho3 hb3 UCH
        by_cases cf : f = 0
        · subst cf
          have hn := unframe_n (b := b.drop k) (by rw [HU.out])
          rw [HU.out, List.length_drop] at hn
          simp only at hn
          obtain ⟨hn1, hn2, hn3⟩ := hn
          have i6 : (n : Int) ≤ 268435456 := by have := BLH.out; omega
          have i7 : (k : Int) ≤ 268435456 := by have := BLH.out; omega
          have hcnt := OS.out.cnt
          have M4 : Hid (xs.length + 1 ≤ maxLen) := by show _ ≤ _; have := BLH.out; unfold maxLen; omega
          have M5 : Hid ((xs.length + 1) * 24 ≤ 140737488355328) := by show _ ≤ _; have := BLH.out; omega
          have B3a : Below wr.heap.size wr (w3.alloc (.cells #[.slice xa x.length xc] 35)) := B3.out.alloc B3.out.size _
          have S3 : Hid (w.heap.size ≤ (w3.alloc (.cells #[.slice xa x.length xc] 35)).heap.size) := by show _ ≤ _; have := OS.out.up.size; have := B3a.size; omega
          have R3 := Lib.hid (OS.out.row.below B3a)
          have L3 := Lib.hid (OS.out.lg.below B3a)
          clear hn1 hn2 hn3 hcnt hlt B3a
          go_wp2_with (at_builtin; refine wpList_append rfl (.tmp 55) (.tmp 57) 22 22 rfl w.heap.size 35 (.slice none 0 0) 1 24 Tryd.underlying22 infoRow rfl (n := xs.length) (xs := svs xs Af Cf xs.length) R3.out rfl (xv := .slice (some ⟨w3.heap.size, 0, none⟩) 1 1) (m := 1) (news := [.slice xa x.length xc]) (Src_new Tryd.underlying22 (e := 35) (heap_alloc_new w3 _) rfl) rfl M4.out M5.out S3.out ?_)
          intro v4 w4 ho4 hg4 hn4 hv4
          have NX := OS.out.next (fun i hi => HF.out i hi) HLB.out HG.out BLH.out HU.out HLT.out B3.out O3.out ho4 hg4
          have L4 : Lg w4 lb db nm k false := L3.out.upd (S := fun i => v.ownBlock = some i) ((Upd.refl _ _).grown hg4 (fun k hk _ => hk)) (fun e => (R3.out.not_ty L3.out (by decide)) e)
          obtain ⟨d0, d1, d2, d3⟩ := L4.cells
          have f2 := L4.froz 2
          have en : ((k + n : Nat) : Int) = (k : Int) + (n : Int) := by omega
          rw [en] at NX
          have NXH := Lib.hid NX
          clear ho4 hg4 hn4 hv4 NX L4 en c0 c1 c2 c3
          go_wp2
          go_step3
          refine .inl ⟨rfl, ⟨lb, some ⟨g, 0, none⟩, bc, k + n, xs ++ [x], v4, _, _, ⟨rfl, rfl, rfl, rfl, rfl, rfl, rfl⟩, HLB.out, NXH.out.1⟩, ?_⟩
          show b.length - sizeAt lb _ < b.length - sizeAt lb _
          rw [sizeAt_lg NXH.out.1.lg, sizeAt_lg OS.out.lg]
          have := NXH.out.2
          omega
        · have t2 : (f == 0) = false := beq_eq_false_iff_ne.2 cf
          by_cases cg : f = 30
          · subst cg
            have t3 : ((30 : Int) == 30) = true := rfl
            have TN : Hid (recOf b = (xs, k, 30)) := by
              show _ = _
              rw [OS.out.recs, recOf_short E0.out (by rw [HU.out])]
              simp
            have OS3 : Hid (OpS w w3 base db lb F s nm b (some ⟨g, 0, none⟩) bc k xs v Af Cf) := by
              have hW := OS.out.up.size
              exact ⟨OS.out.lg.below B3.out, OS.out.row.below B3.out, fun i hi => (OS.out.els i hi).below B3.out, OS.out.bo.below B3.out, OS.out.up.same ((Upd.ofBelow B3.out).mono (fun _ s _ => s.elim)), OS.out.dk.below B3.out, OS.out.tab.below B3.out, OS.out.recs, OS.out.kle, OS.out.cnt, OS.out.short⟩
            go_wp2
            go_step3
            exact .inr ⟨rfl, lb, some ⟨g, 0, none⟩, bc, k, xs, v, Af, Cf, ⟨rfl, rfl, rfl, rfl, rfl, rfl, rfl⟩, HLB.out, OS3.out, TN.out⟩
          · have t3 : (f == 30) = false := beq_eq_false_iff_ne.2 cg
            have FIN : Hid (OpenP w w3 base db F nm q (.returned (.tuple #[.pointer none, .slice none 0 0, .int .i64 101]))) := by
              have hr := OS.out.recs
              rw [recOf_hurt E0.out (by rw [HU.out]; exact cf) (by rw [HU.out]; exact cg)] at hr
              have e1 : q = (101, none, s) := by
                rw [QE.out, hr]
                simp
              rw [e1]
              exact ⟨F, OS.out.dk.below B3.out, OS.out.up.same ((Upd.ofBelow B3.out).mono (fun _ s _ => s.elim)), fun i hi => .inl hi, rfl⟩
            go_wp2
            simp only [jump2]
            go_ret3
            exact FIN.out
    · -- the torn one
      rintro a wr ⟨lb, ba, bc, k, xs, v, Af, Cf, hfr, hlb, hs, hrec⟩
      obtain ⟨u, rfl⟩ := hfr.opened
      clear hfr
      have OS := Lib.hid hs; have HLB := Lib.hid hlb; have HR := Lib.hid hrec
      clear hs hlb hrec
      obtain ⟨c0, c1, c2, c3⟩ := OS.out.lg.cells
      have NFH : Hid (¬ F lb) := fun hf => by have := HF.out lb hf; have := HLB.out; omega
      have CC := Lib.hid (Cut_dk base db F s nm (k : Int) wr OS.out.dk HNM.out HW.out)
      obtain ⟨⟨ec, sc⟩, hsc⟩ : ∃ q, s.cut nm (k : Int) = q := ⟨_, rfl⟩
      rw [hsc] at CC
      have QC : Hid (q = if ec ≠ 0 then (ec, none, sc) else (0, some (xs, k), sc)) := by
        show _ = _
        rw [QE.out, HR.out]
        simp [hsc]
      clear hsc
      go_wp2_with fail
      refine CC.out.mono ?_
      rintro r w5 ⟨rfl, F', hd5, hu5, hf5⟩
      have NF5 : ¬ F' lb := fun hf => by
        rcases hf5 lb hf with h9 | h9
        · exact NFH.out h9
        · have := OS.out.lg.lt; omega
      have hW := OS.out.up.size
      have UU : Hid (Upd F w w5) := OS.out.up.same hu5
      have FF : Hid (∀ i, F' i → F i ∨ w.heap.size ≤ i) := fun i hi => (hf5 i hi).elim .inl (fun h9 => .inr (Nat.le_trans hW h9))
      have LL : Hid (Lg w5 lb db nm k false) := OS.out.lg.upd hu5 NFH.out
      have D5 := Lib.hid hd5; have NF5H := Lib.hid NF5; have U5 := Lib.hid hu5; have F5 := Lib.hid hf5
      clear CC hd5 hu5 hf5 NF5 hW
      by_cases ce : ec = 0
      · subst ce
        have t1 : ((0 : Int) != 0) = false := rfl
        obtain ⟨a, c, rfl, hrd, hrg⟩ := OS.out.rd
        have FIN : Hid (OpenP w w5 base db F nm q (.returned (.tuple #[.pointer (some ⟨lb, 0, none⟩), .slice a xs.length c, .int .i64 0]))) := by
          have e1 : q = (0, some (xs, k), sc) := by rw [QC.out]; simp
          rw [e1]
          have hrd5 := hrd.upd hrg U5.out (fun i hf hz => by have := HF.out i hf; omega)
          refine ⟨F', D5.out, UU.out, FF.out, lb, a, c, Af, Cf, rfl, LL.out, HLB.out, NF5H.out, hrd5, hrg.mono (fun i hi => ⟨hi.1, (fun hf => ?_), Nat.lt_of_lt_of_le hi.2 U5.out.size⟩)⟩
          rcases F5.out i hf with h9 | h9
          · have := HF.out i h9; omega
          · omega
        clear hrd hrg
        go_wp2
        simp only [jump2]
        go_ret3
        exact FIN.out
      · have t1 : (ec != 0) = true := by rw [bne_iff_ne]; exact ce
        have FIN : Hid (OpenP w w5 base db F nm q (.returned (.tuple #[.pointer none, .slice none 0 0, .int .i64 ec]))) := by
          have e1 : q = (ec, none, sc) := by rw [QC.out, if_pos ce]
          rw [e1]
          exact ⟨F', D5.out, UU.out, FF.out, rfl⟩
        clear ce
        go_wp2
        simp only [jump2]
        go_ret3
        exact FIN.out
    · -- ahead of the label
      intro HP
      have HPH := Lib.hid HP
      clear HP
      rcases EC.out with he | he
      all_goals
        subst he
        go_wp2_with fail
        refine RC.out.mono ?_
        rintro r w1 ⟨v1, rfl, ho, hd, hu⟩
        obtain ⟨ba, bc, rfl, -, -, -, -, -⟩ := own_val ho
        have O1 := Lib.hid ho; have D1 := Lib.hid hd; have U1 := Lib.hid hu
        clear ho hd hu
        go_wp2
        go_step3
        rename_i hK
        refine hK _ _ (HPH.out _ _ ?_)
        refine ⟨w1.heap.size, ba, bc, 0, [], .slice none 0 0, (fun _ => none), (fun _ => 0), ⟨rfl, rfl, rfl, rfl, rfl, rfl, rfl⟩, U1.out.size, ?_⟩
        have BA : Below w1.heap.size w1 (w1.alloc (.cells #[.pointer (some ⟨db, 0, none⟩), .string ⟨nm.toArray⟩, .int .i64 0, .bool false] 62)) := (Below.refl _ _).alloc (Nat.le_refl _) _
        refine ⟨heap_alloc_new w1 _, Own.nil _ _ _ _, (fun i hi => absurd hi (Nat.not_lt_zero _)), O1.out.below BA, (U1.out.mono (fun i hi _ => by rw [hi]; exact DH.out.at_)).alloc _, D1.out.below BA, (TB.out.upd U1.out (fun s => NT.out (by rw [s]; exact DH.out.at_))).below BA, by simp, Nat.zero_le _, Nat.le_refl _, (fun x hx => by cases hx)⟩

end Go.Proofs.YtnbpkignkfabkaaDoor
