/- RecordBack's walk. -/
import Derived.Test.YtjiciklnhcmfaaaDoorBackLaw
import Derived.Test.YtjiciklnhcmfaaaDoorOps2
import Derived.Test.YtjiciklnhcmfaaaDoorWorks
namespace Go.Proofs.YtjiciklnhcmfaaaDoor
set_option linter.unusedVariables false
set_option linter.unusedSimpArgs false
open Go.RowKit
def ibd (o : OpD) : Prop := -9223372036854775808 ≤ o.i ∧ o.i ≤ 9223372036854775807
/-- Where the writer and the row of kept fields stand. -/
structure Bkp (w wr : World) (vw v : Value) (Bd : List OpD) (al i : Nat) : Prop where
  len : (lay Bd).length ≤ al + 16 * i
  num : Bd.length ≤ i
  wri : Wri wr w.heap.size 0 w.heap.size (lay Bd) 0 vw
  row : OpRow wr w.heap.size v Bd
  ne : v.ownBlock ≠ some w.heap.size
  ok : ∀ o ∈ Bd, pOk o = true ∧ ibd o
  apart : ∀ o ∈ Bd, ∀ k, (Value.slice o.ba o.b.length o.bc).ownBlock = some k → k ≠ w.heap.size ∧ vw.ownBlock ≠ some k
  bel : Below w.heap.size w wr
/-- Behind the first loop. -/
def St2 (w wr : World) (vb : Value) : Prop := ∃ (vw v : Value) (Bd : List OpD), vb = v ∧ Bkp w wr vw v Bd 4194304 300
theorem Bkp.weak {w wr : World} {vw v : Value} {Bd : List OpD} {al i : Nat} (h : Bkp w wr vw v Bd al i) (ha : al ≤ 4194304) (hi : i ≤ 300) : Bkp w wr vw v Bd 4194304 300 :=
  ⟨by have := h.len; omega, by have := h.num; omega, h.wri, h.row, h.ne, h.ok, h.apart, h.bel⟩
theorem own_map (a : Option Addr) (n c : Nat) : (Value.slice a n c).ownBlock = a.map (·.block) := by cases a <;> rfl
theorem rdr_in {w w' : World} {rb ro B : Nat} {l : List UInt8} {e : Int} {a : Option Addr} {cap : Nat} (h : Rdr w' rb ro B l e a cap) (hn : ∀ ad, a = some ad → w.heap.size ≤ B ∧ B < w'.heap.size) (hl : l ≠ []) : w.heap.size ≤ B ∧ B < w'.heap.size := by
  cases a with
  | none => exact absurd h.byt.none_nil hl
  | some ad => exact hn ad rfl
theorem Rdr.blt {w : World} {rb ro B : Nat} {l : List UInt8} {e : Int} {a : Option Addr} {cap : Nat} (h : Rdr w rb ro B l e a cap) (hl : l ≠ []) : B < w.heap.size := by
  cases a with
  | none => exact absurd h.byt.none_nil hl
  | some ad =>
    have h1 := h.byt.lt hl
    rw [h.blk ad rfl] at h1
    exact h1
theorem enc_ne {o : OpD} (hk : OpOk o) (hp : pOk o = true) : enc o ≠ [] := fun e => by have := (enc_len hk hp).1; rw [e] at this; simp at this
theorem gets_on (rb ro B : Nat) (o : OpD) (w : World) (t : List UInt8) (a : Option Addr) (cap : Nat) (h : Rdr w rb ro B (enc o ++ t) 0 a cap) (hl : (enc o ++ t).length ≤ 140737488355328) (hk : OpOk o) (hp : pOk o = true ∧ ibd o) (hy : Byt w o.ba o.b) (hyb : o.ba.map (·.block) ≠ some rb) :
    Calls Tryd.prog 35 #[.pointer (some ⟨rb, ro, none⟩), .agg (opv o)] w fun r w' => RPost w w' rb ro B r (.bool true) t 0 := by
  have h2 := gets_calls rb ro B o w (enc o ++ t) 0 a cap h (h.blt (by simp [enc_ne hk hp.1])) hl hk hy hyb
  rw [enc_g t o hk hp.2 hp.1] at h2
  exact h2
theorem gets_cut (rb ro B : Nat) (o : OpD) (w : World) (p q : List UInt8) (a : Option Addr) (cap : Nat) (h : Rdr w rb ro B p 0 a cap) (hB : a = none ∨ B < w.heap.size) (hrb : rb ≠ 0) (hl : p.length ≤ 140737488355328) (hk : OpOk o) (hp : pOk o = true ∧ ibd o) (hy : Byt w o.ba o.b) (hyb : o.ba.map (·.block) ≠ some rb) (he : enc o = p ++ q) (hq : q ≠ []) :
    Calls Tryd.prog 35 #[.pointer (some ⟨rb, ro, none⟩), .agg (opv o)] w fun r w' => ∃ (v : Value) (B' : Nat), RPost w w' rb ro B' r v p 30 := by
  have e2 := enc_short p q o hk hp.1 he hq
  have h3 : ∀ B', Rdr w rb ro B' p 0 a cap → B' < w.heap.size → Calls Tryd.prog 35 #[.pointer (some ⟨rb, ro, none⟩), .agg (opv o)] w fun r w' => ∃ (v : Value) (B' : Nat), RPost w w' rb ro B' r v p 30 := by
    intro B' h' hB'
    have h2 := gets_calls rb ro B' o w p 0 a cap h' hB' hl hk hy hyb
    rw [e2] at h2
    exact h2.mono fun r w' hh => ⟨_, B', hh⟩
  rcases hB with rfl | hB
  · exact h3 0 ⟨h.c0, h.c1, h.f0, h.f1, h.byt, h.cap, (fun _ e => by cases e), fun e => hrb e.symm⟩ (by have := h.lt; omega)
  · exact h3 B h hB
theorem lay_ne {L : List OpD} (h : ∀ o ∈ L, OpOk o ∧ pOk o = true) (hn : L ≠ []) : lay L ≠ [] := by
  cases L with
  | nil => exact absurd rfl hn
  | cons o L =>
    rw [lay_cons]
    have := enc_ne (h o (by simp)).1 (h o (by simp)).2
    simp [this]
theorem rFlag_off (l : List UInt8) : rFlag l 30 = (false, l, 30) := by unfold rFlag rNum; simp
set_option maxRecDepth 100000 in
set_option maxHeartbeats 8000000 in
theorem RecordBack_calls (w : World) (a : Option Addr) (cap : Nat) (L : List OpD) (h : RdO w a L) (hib : ∀ o ∈ L, ibd o) (hn : L.length ≤ 140737488351232) (ht : Tab w) (hg : 0 < w.heap.size) :
    Calls Tryd.prog 8 #[.slice a L.length cap] w fun r w' => r = .returned (.bool true) ∧ Below w.heap.size w w' := by
  have H := Lib.hid h; have HT := Lib.hid ht; have HG := Lib.hid hg; have IB := Lib.hid hib
  clear h ht hg hib
  have W0 := Lib.hid (Wri.new (w := w) (Nat.le_refl _))
  have B0 : Hid (Below w.heap.size w (w.alloc (.cells #[.slice none 0 0, .int .i64 0] 85))) := (Below.refl _ w).alloc (Nat.le_refl _) _
  go_enter Tryd.func8, Tryd.ntmps8
  go_upto_block 0 with (fail)
  go_cut [4] (fun vb wr => St2 w wr vb)
  case rest =>
    obtain ⟨vw, v, Bd, rfl, hbk⟩ := hcut
    obtain ⟨wA, rfl⟩ : ∃ q, q = wc := ⟨_, rfl⟩
    have BK := Lib.hid hbk
    have hll := hbk.len
    have hbl := hbk.num
    obtain ⟨aB, cB, hvv, -, -, -⟩ := hbk.row.row.shape'
    subst hvv
    have HW := Lib.hid hbk.wri; have HR := Lib.hid hbk.row; have BW := Lib.hid hbk.bel
    clear hbk
    have LB : Hid ((lay Bd).length ≤ 5000000) := by show _ ≤ _; omega
    obtain ⟨l, hl⟩ : ∃ q, lay Bd = q := ⟨_, rfl⟩
    have HL := Lib.hid hl
    rw [hl] at HW LB hll
    clear hl
    have DC := Lib.hid (Done_calls w.heap.size 0 w.heap.size wA vw l 0 HW.out (by omega))
    rw [show wDone l 0 = (l, 0) from if_pos rfl] at DC
    go_wp2_with fail
    refine DC.out.mono ?_
    rintro r wB ⟨vb', rfl, hob, hbb⟩
    obtain ⟨ab, cb, rfl, -, hcb, -, -⟩ := own_vn hob
    have OB := Lib.hid hob
    have BB := Lib.hid (BW.out.trans (hbb.mono BW.out.size))
    have RB := Lib.hid (HR.out.below hbb)
    clear hob hbb DC
    go_wp2_with (go_at_call 21; refine (num_calls _ _).mono ?_; rintro r wx ⟨rfl, rfl⟩)
    refine (works_calls wB (HT.out.below BB.out) (Nat.lt_of_lt_of_le HG.out BB.out.size)).mono ?_
    rintro r wC ⟨rfl, hbc⟩
    have BC := Lib.hid (BB.out.trans (hbc.mono BB.out.size))
    have RC := Lib.hid (RB.out.below hbc)
    have YC := Lib.hid ((Own.byt OB.out).1.below hbc)
    clear hbc
    go_wp2_with fail
    refine (From_calls wC l ab cb YC.out (by omega)).mono ?_
    rintro r wD ⟨rb, RBk, aD, cD, rfl, hr, hrb, hrk, hb⟩
    have RD := Lib.hid hr
    have HRC := Lib.hid hrb
    have HRK := Lib.hid (rdr_in hr hrk)
    clear hrk
    have HRB := Lib.hid (Nat.le_trans BC.out.size hrb)
    have BD := Lib.hid (BC.out.trans (hb.mono BC.out.size))
    have RoD := Lib.hid (RC.out.below hb)
    have YD := Lib.hid (YC.out.below hb)
    clear hr hrb hb
    go_wp2_with fail
    refine (Copy_calls ab cb l wD YD.out (by omega)).mono ?_
    rintro r wE ⟨vE, rfl, hoE, hbE⟩
    obtain ⟨aE, cE, rfl, -, -, -, -⟩ := own_vn hoE
    have OE := Lib.hid hoE; have BE := Lib.hid hbE
    clear hoE hbE
    have N1 : Hid (l.length + 1 ≤ maxLen) := by show _ ≤ _; unfold maxLen; have := LB.out; omega
    have N2 : Hid ((l.length + 1) * 1 ≤ 140737488355328) := by show _ ≤ _; have := LB.out; omega
    have BA : Hid (wD.heap.size ≤ (wE.alloc (.cells #[.int .u8 0] 5)).heap.size) := by show _ ≤ _; have := BE.out.size; rw [World.size_alloc]; omega
    go_wp2_with (at_builtin; refine wpList_append rfl (.tmp 71) (.tmp 72) 55 55 rfl wD.heap.size 5 (.int .u8 0) 1 1 Tryd.underlying55 infoByte rfl (n := l.length) (xs := bys l) (OE.out.alloc _) rfl (xv := .slice (some ⟨wE.heap.size, 0, none⟩) 1 1) (m := 1) (news := [.int .u8 0]) (Src_new Tryd.underlying55 (e := 5) (heap_alloc_new wE _) rfl) rfl N1.out N2.out BA.out ?_)
    intro v8 wG ho8 hg8 hn8 hv8
    rw [show bys l ++ [.int .u8 0] = bys (l ++ [0]) from bys_one_snoc l 0] at ho8
    obtain ⟨a8, c8, rfl, -, -, -, -⟩ := own_vn ho8
    have YG := Lib.hid (Own.byt ho8).1
    have BG := Lib.hid ((BE.out.alloc BE.out.size (.cells #[.int .u8 0] 5)).grown hg8 BA.out (fun k hk => (OE.out.lt k hk).1))
    clear ho8 hg8 hn8 hv8
    have FC := From_calls wG (l ++ [0]) a8 c8 YG.out (by rw [List.length_append]; have := LB.out; simp; omega)
    have e8 : (l ++ [(0 : UInt8)]).length = l.length + 1 := by simp
    rw [e8] at FC
    clear e8
    have FCH := Lib.hid FC; clear FC
    go_wp2_with fail
    refine FCH.out.mono ?_
    rintro r wH ⟨sb, SBk, aH, cH, rfl, hs, hsb, hsk, hbH⟩
    have SH := Lib.hid hs
    have HSK := Lib.hid (rdr_in hs hsk (by simp)).1
    have HSG := Lib.hid hsb
    clear hsk
    have HSB := Lib.hid (Nat.le_trans (Nat.le_trans BD.out.size BG.out.size) hsb)
    have HRS : Hid (rb < sb) := by show _ < _; have := RD.out.lt; have := BG.out.size; omega
    have BH := Lib.hid (BG.out.trans (hbH.mono BG.out.size))
    have RH := Lib.hid (RD.out.upd (Upd.ofBelow BH.out) (fun s => s) (fun s => s))
    have RoH := Lib.hid (RoD.out.below BH.out)
    have YH := Lib.hid (YD.out.below BH.out)
    have BW8 := Lib.hid (BD.out.trans (BH.out.mono BD.out.size))
    clear hs hsb hbH FCH
    have LC := Lib.hid (RLeft_calls rb 0 RBk wH l 0 aD cD RH.out)
    go_wp2_with fail
    refine LC.out.mono ?_
    rintro r wx ⟨rfl, rfl⟩
    go_wp2
    go_loopw [12] (fun vk wr => ∃ (k : Nat) (a1 a2 : Option Addr) (c1 c2 : Nat), vk = .int .i64 k ∧ k ≤ Bd.length ∧ Rdr wr rb 0 RBk (lay (Bd.drop k)) 0 a1 c1 ∧ Rdr wr sb 0 SBk (lay (Bd.drop k) ++ [0]) 0 a2 c2 ∧ Upd (fun q => q = rb ∨ q = sb) wH wr) (fun vk _ => Bd.length - (intOf vk).toNat)
    case atStart => exact ⟨0, aD, aH, cD, cH, rfl, Nat.zero_le _, by rw [List.drop_zero, HL.out]; exact RH.out, by rw [List.drop_zero, HL.out]; exact SH.out, Upd.refl _ _⟩
    case round =>
      obtain ⟨k, a1, a2, c1, c2, rfl, hk, h1, h2, hu⟩ := hrel
      have R1 := Lib.hid h1; have S1 := Lib.hid h2; have U := Lib.hid hu
      clear h1 h2 hu
      have hrlt : ∀ q, (Value.slice aB Bd.length cB).ownBlock = some q → ¬ (q = rb ∨ q = sb) := by
        intro q hq s
        have := (RC.out.row.lt q hq).2
        have := HRC.out; have := HRS.out
        omega
      have holt : ∀ o ∈ Bd, ∀ q, (Value.slice o.ba o.b.length o.bc).ownBlock = some q → q < wC.heap.size := fun o ho q hq => ((RC.out.own o ho).lt q hq).2
      have RX := Lib.hid (RoH.out.upd U.out hrlt (fun o ho q hq s => by have := holt o ho q hq; have := HRC.out; have := HRS.out; omega))
      have OLT := Lib.hid holt
      have LLK : Hid ((lay (Bd.drop k)).length ≤ l.length) := by
        show _ ≤ _
        rw [← HL.out]
        have e := congrArg List.length (lay_app (Bd.take k) (Bd.drop k))
        rw [List.take_append_drop, List.length_append] at e
        omega
      clear hrlt holt
      by_cases c4 : k < Bd.length
      · have t4 : decide ((k : Int) < (Bd.length : Int)) = true := decide_eq_true (by omega)
        have t4' : decide (k < Bd.length) = true := decide_eq_true c4
        obtain ⟨qo, hqo⟩ : ∃ q, Bd[k]? = some q := ⟨_, List.getElem?_eq_getElem c4⟩
        have hqm := List.mem_of_getElem? hqo
        obtain ⟨gB, dB, hvB⟩ := RoH.out.row.shape (by omega)
        cases hvB
        have RG := Lib.hid (RX.out.range k qo hqo)
        have QK := Lib.hid (RX.out.ok qo hqm)
        have QP := Lib.hid (BK.out.ok qo hqm)
        have QO := Lib.hid (RX.out.own qo hqm)
        have QL := Lib.hid (OLT.out qo hqm)
        have LD := lay_drop hqo
        have hll1 : (enc qo ++ lay (Bd.drop (k + 1))).length ≤ l.length := by rw [← LD]; exact LLK.out
        have HLL1 : Hid ((enc qo ++ lay (Bd.drop (k + 1))).length ≤ 5000000) := by show _ ≤ _; have := LB.out; omega
        have HLL2 : Hid ((enc qo ++ (lay (Bd.drop (k + 1)) ++ [0])).length ≤ 5000001) := by show _ ≤ _; have := LB.out; rw [← List.append_assoc, List.length_append]; simp only [List.length_singleton]; omega
        have R1' : Hid (Rdr wr rb 0 RBk (enc qo ++ lay (Bd.drop (k + 1))) 0 a1 c1) := by show Rdr _ _ _ _ _ _ _ _; rw [← LD]; exact R1.out
        have S1' : Hid (Rdr wr sb 0 SBk (enc qo ++ (lay (Bd.drop (k + 1)) ++ [0])) 0 a2 c2) := by show Rdr _ _ _ _ _ _ _ _; rw [← List.append_assoc, ← LD]; exact S1.out
        have NL : Hid (l ≠ []) := by
          show l ≠ []
          intro e
          rw [e] at hll1
          have := (enc_len QK.out QP.out.1).1
          rw [List.length_append] at hll1
          simp only [List.length_nil] at hll1
          omega
        have SZq : Hid ((Tryd.prog.info? 99).map (·.size) = some (opv qo).size) := by show _ = _; rw [opv_len QK.out.dn]; exact opSize
        clear hqo hqm LD hll1
        go_wp2_with (first | (with_reducible refine wpList_load_arr (op := ⟨some 98, _, _, _, _, _⟩) rfl 99 (.tmp 97) rfl gB (k * 23) rfl (opv qo) _ RG.out Tryd.underlying99 rfl SZq.out ?_))
        refine (gets_on rb 0 RBk qo wr (lay (Bd.drop (k + 1))) a1 c1 R1'.out (by have := HLL1.out; omega) QK.out QP.out (Own.byt QO.out).1 (fun e => by have := QL.out rb ((own_map _ _ _).trans e); have := HRC.out; omega)).mono ?_
        rintro r w1 ⟨rfl, a5, c5, hr1, hu1⟩
        have R5 := Lib.hid hr1
        have RG1 := Lib.hid (rangeAt_upd RG.out hu1.upd (fun e => by have := (RC.out.row.lt gB rfl).2; have := HRC.out; have e' : gB = rb := e; omega))
        have QO1 := Lib.hid (QO.out.upd hu1.upd (fun q hq e => by have := QL.out q hq; have := HRC.out; have e' : q = rb := e; omega))
        have S5 := Lib.hid (S1'.out.upd hu1.upd (fun e => by have := HRS.out; have e' : sb = rb := e; omega) (fun e => by have := HSK.out; have := RD.out.lt; have := BG.out.size; have e' : SBk = rb := e; omega))
        have U5 := Lib.hid (U.out.same (hu1.upd.mono (fun q s _ => .inl s)))
        clear hr1 hu1
        go_wp2_with (first | (with_reducible refine wpList_load_arr_g (op := ⟨some 106, _, _, _, _, _⟩) rfl 99 (.tmp 105) rfl gB (k * 23) rfl (opv qo) _ RG1.out Tryd.underlying99 rfl SZq.out ?_))
        refine (gets_on sb 0 SBk qo w1 (lay (Bd.drop (k + 1)) ++ [0]) a2 c2 S5.out (by have := HLL2.out; omega) QK.out QP.out (Own.byt QO1.out).1 (fun e => by have := QL.out sb ((own_map _ _ _).trans e); have := HRC.out; have := HRS.out; omega)).mono ?_
        rintro r w2 ⟨rfl, a6, c6, hr2, hu2⟩
        have S6 := Lib.hid hr2
        have R6 := Lib.hid (R5.out.upd hu2.upd (fun e => by have := HRS.out; have e' : rb = sb := e; omega) (fun e => by have := (HRK.out NL.out).2; have := BG.out.size; have := HSG.out; have e' : RBk = sb := e; omega))
        have U6 := Lib.hid (U5.out.same (hu2.upd.mono (fun q s _ => .inr s)))
        clear hr2 hu2
        go_wp2
        go_roundw
        case rel => exact ⟨k + 1, a5, a6, c5, c6, by go_num, by omega, R6.out, S6.out, U6.out⟩
        case measure => simp [intOf]; omega
      · have t4 : decide ((k : Int) < (Bd.length : Int)) = false := decide_eq_false (by omega)
        have t4' : decide (k < Bd.length) = false := decide_eq_false c4
        have hdr : Bd.drop k = [] := List.drop_of_length_le (by omega)
        have R9 : Hid (Rdr wr rb 0 RBk [] 0 a1 c1) := by show Rdr _ _ _ _ _ _ _ _; have h := R1.out; rw [hdr] at h; exact h
        have S9 : Hid (Rdr wr sb 0 SBk [0] 0 a2 c2) := by show Rdr _ _ _ _ _ _ _ _; have h := S1.out; rw [hdr] at h; exact h
        clear hdr
        have EC1 := Lib.hid (show Calls Tryd.prog 32 #[.pointer (some ⟨rb, 0, none⟩)] wr (fun r w' => r = .returned (.int .i64 0) ∧ wr = w') from REnd_calls rb 0 RBk wr [] 0 a1 c1 R9.out)
        have LC1 := Lib.hid (show Calls Tryd.prog 34 #[.pointer (some ⟨rb, 0, none⟩)] wr (fun r w' => r = .returned (.int .i64 0) ∧ wr = w') from RLeft_calls rb 0 RBk wr [] 0 a1 c1 R9.out)
        have EC2 := Lib.hid (show Calls Tryd.prog 32 #[.pointer (some ⟨sb, 0, none⟩)] wr (fun r w' => r = .returned (.int .i64 33) ∧ wr = w') from REnd_calls sb 0 SBk wr [0] 0 a2 c2 S9.out)
        have LC2 := Lib.hid (show Calls Tryd.prog 34 #[.pointer (some ⟨sb, 0, none⟩)] wr (fun r w' => r = .returned (.int .i64 1) ∧ wr = w') from RLeft_calls sb 0 SBk wr [0] 0 a2 c2 S9.out)
        have YR := Lib.hid (YH.out.upd U.out (fun ad ha hx s => by have := (show ad.block < wC.heap.size from (by have h := YC.out; rw [ha] at h; exact h.lt hx)); have := HRC.out; have := HRS.out; omega))
        have BR := Lib.hid (BW8.out.trans (U.out.below (fun q s _ => by have := HRB.out; have := HRS.out; omega) BW8.out.size))
        go_wp2_with fail
        refine EC1.out.mono ?_
        rintro r wx ⟨rfl, rfl⟩
        go_wp2_with (go_at_call 21; refine (num_calls _ _).mono ?_; rintro r wx ⟨rfl, rfl⟩)
        refine LC1.out.mono ?_
        rintro r wx ⟨rfl, rfl⟩
        go_wp2_with fail
        refine LC2.out.mono ?_
        rintro r wx ⟨rfl, rfl⟩
        go_wp2_with fail
        refine EC2.out.mono ?_
        rintro r wx ⟨rfl, rfl⟩
        clear EC1 LC1 EC2 LC2
        by_cases hbd0 : Bd = []
        · have hl0 : l = [] := by rw [← HL.out, hbd0]; rfl
          have HL0 := Lib.hid hl0
          have tb : ((Bd.length : Int) == 0) = true := by rw [hbd0]; rfl
          have tb0 : Bd.length = 0 := by rw [hbd0]; rfl
          have tl : ((l.length : Int) == 0) = true := by rw [hl0]; rfl
          have tl0 : l.length = 0 := by rw [hl0]; rfl
          clear hbd0 hl0
          go_wp2_with (go_at_call 21; refine (num_calls _ _).mono ?_; rintro r wx ⟨rfl, rfl⟩)
          go_ret
          exact ⟨rfl, BR.out⟩
        · have tb : ((Bd.length : Int) == 0) = false := by rw [beq_eq_false_iff_ne]; intro h; exact hbd0 (List.eq_nil_of_length_eq_zero (by omega))
          have tb0 : ¬ Bd.length = 0 := fun h => hbd0 (List.eq_nil_of_length_eq_zero h)
          have hne : l ≠ [] := by rw [← HL.out]; exact lay_ne (fun o ho => ⟨RX.out.ok o ho, (BK.out.ok o ho).1⟩) hbd0
          have hl1 : 1 ≤ l.length := by cases l with | nil => exact absurd rfl hne | cons _ _ => simp
          have NL := Lib.hid hne
          clear hbd0 hne
          go_wp2_with (go_at_call 21; refine (num_calls _ _).mono ?_; rintro r wx ⟨rfl, rfl⟩)
          have YT := Lib.hid (YR.out.take (l.length - 1))
          have FC := Lib.hid (show Calls Tryd.prog 30 #[.slice ab (l.length - 1) cb] wr (fun r w' => NewRdr wr w' r (l.take (l.length - 1))) from by
            have h := From_calls wr (l.take (l.length - 1)) ab cb YT.out (by rw [List.length_take]; have := LB.out; omega)
            rw [List.length_take, Nat.min_eq_left (by omega)] at h
            exact h)
          refine FC.out.mono ?_
          rintro r wT ⟨tb, TBk, aT, cT, rfl, ht', htb, htk, hbT⟩
          have RT := Lib.hid ht'
          have HTB := Lib.hid htb
          have HTK : Hid (aT = none ∨ TBk < wT.heap.size) := by
            show _ ∨ _
            cases aT with
            | none => exact .inl rfl
            | some ad => exact .inr (htk ad rfl).2
          have RoT := Lib.hid (RX.out.below hbT)
          have HWT := Lib.hid hbT.size
          have BT := Lib.hid (BR.out.trans (hbT.mono BR.out.size))
          have HBM : Hid (wC.heap.size ≤ wr.heap.size) := by show _ ≤ _; have h1 := RD.out.lt; have h2 := HRC.out; have h3 := U.out.size; have h4 := BG.out.size; have h5 := BH.out.size; omega
          clear ht' htb htk hbT FC YT
          obtain ⟨wM, rfl⟩ : ∃ q, q = wr := ⟨_, rfl⟩
          go_wp2
          go_loopw [14] (fun vk wr => ∃ (j : Nat) (a3 : Option Addr) (c3 : Nat), vk = .int .i64 j ∧ j + 1 ≤ Bd.length ∧ Rdr wr tb 0 TBk (lay (Bd.drop j)).dropLast 0 a3 c3 ∧ (a3 = none ∨ TBk < wr.heap.size) ∧ Upd (fun q => q = tb) wT wr) (fun vk _ => Bd.length - (intOf vk).toNat)
          case atStart => exact ⟨0, aT, cT, rfl, by omega, by rw [List.drop_zero, HL.out, List.dropLast_eq_take]; exact RT.out, HTK.out, Upd.refl _ _⟩
          case round =>
            obtain ⟨j, a3, c3, rfl, hj, h1, h2, hu⟩ := hrel
            have T1 := Lib.hid h1; have TK := Lib.hid h2; have UT := Lib.hid hu
            clear h1 h2 hu
            have c6 : j < Bd.length := by omega
            obtain ⟨qo, hqo⟩ : ∃ q, Bd[j]? = some q := ⟨_, List.getElem?_eq_getElem c6⟩
            have hqm := List.mem_of_getElem? hqo
            obtain ⟨gB, dB, hvB⟩ := RoT.out.row.shape (by omega)
            cases hvB
            have RZ := RoT.out.upd UT.out (fun q hq e => by have := (RC.out.row.lt q hq).2; have := HBM.out; have := HTB.out; have e' : q = tb := e; omega) (fun o ho q hq e => by have := OLT.out o ho q hq; have := HBM.out; have := HTB.out; have e' : q = tb := e; omega)
            have RG := Lib.hid (RZ.range j qo hqo)
            have QK := Lib.hid (RZ.ok qo hqm)
            have QP := Lib.hid (BK.out.ok qo hqm)
            have QO := Lib.hid (RZ.own qo hqm)
            have QNE : Hid (qo.ba.map (·.block) ≠ some tb) := fun e => by have := OLT.out qo hqm tb ((own_map _ _ _).trans e); have := HBM.out; have := HTB.out; omega
            have LD := lay_drop hqo
            have LLJ : Hid ((lay (Bd.drop j)).length ≤ 5000000) := by
              show _ ≤ _
              have e := congrArg List.length (lay_app (Bd.take j) (Bd.drop j))
              rw [List.take_append_drop, List.length_append, HL.out] at e
              have := LB.out
              omega
            have SZq : Hid ((Tryd.prog.info? 99).map (·.size) = some (opv qo).size) := by show _ = _; rw [opv_len QK.out.dn]; exact opSize
            by_cases c7 : j + 1 < Bd.length
            · have t7 : decide ((j : Int) < (Bd.length : Int) - 1) = true := decide_eq_true (by omega)
              have t7' : decide (j < Bd.length - 1) = true := decide_eq_true (by omega)
              have t8' : decide (j < Bd.length) = true := decide_eq_true c6
              have NE2 : lay (Bd.drop (j + 1)) ≠ [] := lay_ne (fun o ho => ⟨RoT.out.ok o (List.mem_of_mem_drop ho), (BK.out.ok o (List.mem_of_mem_drop ho)).1⟩) (by intro e; have := congrArg List.length e; rw [List.length_drop] at this; simp only [List.length_nil] at this; omega)
              have LD2 : (lay (Bd.drop j)).dropLast = enc qo ++ (lay (Bd.drop (j + 1))).dropLast := by rw [LD, List.dropLast_append_of_ne_nil NE2]
              have T1' : Hid (Rdr wr tb 0 TBk (enc qo ++ (lay (Bd.drop (j + 1))).dropLast) 0 a3 c3) := by show Rdr _ _ _ _ _ _ _ _; rw [← LD2]; exact T1.out
              have LLE : Hid ((enc qo ++ (lay (Bd.drop (j + 1))).dropLast).length ≤ 5000000) := by show _ ≤ _; rw [← LD2, List.length_dropLast]; have := LLJ.out; omega
              have BLT := Lib.hid (T1'.out.blt (by simp [enc_ne QK.out QP.out.1]))
              clear hqo hqm LD RZ NE2 LD2
              go_wp2_with (first | (with_reducible refine wpList_load_arr (op := ⟨some 155, _, _, _, _, _⟩) rfl 99 (.tmp 154) rfl gB (j * 23) rfl (opv qo) _ RG.out Tryd.underlying99 rfl SZq.out ?_))
              refine (gets_on tb 0 TBk qo wr (lay (Bd.drop (j + 1))).dropLast a3 c3 T1'.out (by have := LLE.out; omega) QK.out QP.out (Own.byt QO.out).1 QNE.out).mono ?_
              rintro r w1 ⟨rfl, a5, c5, hr1, hu1⟩
              have R5 := Lib.hid hr1
              have U5 := Lib.hid (UT.out.same hu1.upd)
              have S5 := Lib.hid hu1.upd.size
              clear hr1 hu1
              go_wp2
              go_roundw
              case rel => exact ⟨j + 1, a5, c5, by go_num, by omega, R5.out, .inr (Nat.lt_of_lt_of_le BLT.out S5.out), U5.out⟩
              case measure => simp [intOf]; omega
            · have t7 : decide ((j : Int) < (Bd.length : Int) - 1) = false := decide_eq_false (by omega)
              have t7' : decide (j < Bd.length - 1) = false := decide_eq_false (by omega)
              have hdn : Bd.drop (j + 1) = [] := List.drop_of_length_le (by omega)
              have LD2 : lay (Bd.drop j) = enc qo := by rw [LD, hdn]; simp [lay]
              have hne := enc_ne QK.out QP.out.1
              have EQ : Hid (enc qo = (enc qo).dropLast ++ [(enc qo).getLast hne]) := (List.dropLast_concat_getLast hne).symm
              have NQ : Hid ([(enc qo).getLast hne] ≠ []) := by show _ ≠ _; simp
              have hjj : j = Bd.length - 1 := by omega
              obtain ⟨p, hp⟩ : ∃ p, (enc qo).dropLast = p := ⟨_, rfl⟩
              have T1' : Hid (Rdr wr tb 0 TBk p 0 a3 c3) := by show Rdr _ _ _ _ _ _ _ _; rw [← hp, ← LD2]; exact T1.out
              rw [hp] at EQ
              have LLE : Hid (p.length ≤ 5000000) := by show _ ≤ _; rw [← hp, List.length_dropLast, ← LD2]; have := LLJ.out; omega
              have RG' : Hid (wr.rangeAt gB ((Bd.length - 1) * 23) (opv qo).toList) := by have h := RG.out; rw [hjj] at h; exact h
              obtain ⟨q, hq⟩ : ∃ q, [(enc qo).getLast hne] = q := ⟨_, rfl⟩
              rw [hq] at EQ NQ
              clear hqo hqm LD RZ hdn LD2 hjj hp hq hne
              have LC1 := Lib.hid (RLeft_calls tb 0 TBk wr p 0 a3 c3 T1'.out)
              go_wp2_with fail
              refine LC1.out.mono ?_
              rintro r wx ⟨rfl, rfl⟩
              go_wp2_with (first | (with_reducible refine wpList_load_arr (op := ⟨some 166, _, _, _, _, _⟩) rfl 99 (.tmp 165) rfl gB ((Bd.length - 1) * 23) rfl (opv qo) _ RG'.out Tryd.underlying99 rfl SZq.out ?_))
              refine (gets_cut tb 0 TBk qo wr p q a3 c3 T1'.out TK.out (by have := HTB.out; have := HG.out; have := BR.out.size; omega) (by have := LLE.out; omega) QK.out QP.out (Own.byt QO.out).1 QNE.out EQ.out NQ.out).mono ?_
              rintro r w1 ⟨v1, B1, rfl, a5, c5, hr1, hu1⟩
              have R5 := Lib.hid hr1
              have U5 := Lib.hid (UT.out.same hu1.upd)
              clear hr1 hu1 LC1
              have EC := Lib.hid (show Calls Tryd.prog 32 #[.pointer (some ⟨tb, 0, none⟩)] w1 (fun r w' => r = .returned (.int .i64 30) ∧ w1 = w') from REnd_calls tb 0 B1 w1 p 30 a5 c5 R5.out)
              have LC := Lib.hid (RLeft_calls tb 0 B1 w1 p 30 a5 c5 R5.out)
              have FC := RFlag_calls tb 0 B1 w1 p 30 a5 c5 R5.out (by have := LLE.out; omega)
              rw [rFlag_off] at FC
              have FCH := Lib.hid FC; clear FC
              go_wp2_with fail
              refine EC.out.mono ?_
              rintro r wx ⟨rfl, rfl⟩
              go_wp2_with (go_at_call 21; refine (num_calls _ _).mono ?_; rintro r wx ⟨rfl, rfl⟩)
              refine LC.out.mono ?_
              rintro r wx ⟨rfl, rfl⟩
              go_wp2_with fail
              refine FCH.out.mono ?_
              rintro r w2 ⟨rfl, a6, c6, hr2, hu2⟩
              have R6 := Lib.hid hr2
              have U6 := Lib.hid (U5.out.same hu2.upd)
              clear hr2 hu2
              have LC2 := Lib.hid (RLeft_calls tb 0 B1 w2 p 30 a6 c6 R6.out)
              go_wp2_with fail
              refine LC2.out.mono ?_
              rintro r wx ⟨rfl, rfl⟩
              go_wp2
              go_ret
              exact ⟨by simp, BT.out.trans (U6.out.below (fun q s _ => by have s' : q = tb := s; have := HTB.out; have := BR.out.size; omega) BT.out.size)⟩
  case first =>
    go_wp2
    go_loopw [4, 5, 6] (fun vb va vi wr => ∃ (i al : Nat) (vw v : Value) (Bd : List OpD), vb = v ∧ va = .int .i64 al ∧ vi = .int .i64 i ∧ i ≤ L.length ∧ i ≤ 300 ∧ al ≤ 4194304 ∧ Bkp w wr vw v Bd al i) (fun _ _ vi _ => L.length - (intOf vi).toNat)
    case atStart => exact ⟨0, 0, .slice none 0 0, _, [], rfl, rfl, rfl, Nat.zero_le _, Nat.zero_le _, Nat.zero_le _, ⟨Nat.zero_le _, Nat.zero_le _, W0.out, OpRow.nil _ _, (fun h => by cases h), (fun _ h => by cases h), (fun _ h => by cases h), B0.out⟩⟩
    case round =>
      obtain ⟨i, al, vw, v, Bd, rfl, rfl, rfl, hi, hi3, hal, hbk⟩ := hrel
      have BK := Lib.hid hbk
      have hll := hbk.len
      have hbd := hbk.num
      have HW := Lib.hid hbk.wri; have HR := Lib.hid hbk.row; have NPR := Lib.hid hbk.ne; have BW := Lib.hid hbk.bel
      have ST := Lib.hid (hbk.weak hal hi3)
      clear hbk
      by_cases c1 : i < L.length
      · have t1 : decide ((i : Int) < (L.length : Int)) = true := decide_eq_true (by omega)
        have t1' : decide (i < L.length) = true := decide_eq_true c1
        by_cases c3 : i < 300
        · have t3 : decide ((i : Int) < 300) = true := decide_eq_true (by omega)
          have t3' : decide (i < 300) = true := decide_eq_true c3
          obtain ⟨o, ho⟩ : ∃ o, L[i]? = some o := ⟨_, List.getElem?_eq_getElem c1⟩
          have IBI := Lib.hid (IB.out o (List.mem_of_getElem? ho))
          have hmem := List.mem_of_getElem? ho
          obtain ⟨b, off, rfl, hrg⟩ := H.out.rng i o ho
          have hok := H.out.ok o hmem
          have hby := H.out.byt o hmem
          have hcl : 0 < (opv o).toList.length := by rw [Array.length_toList, opv_len hok.dn]; decide
          have hbl : b < w.heap.size := rangeAt_lt hrg hcl
          have RW : Hid (wr.rangeAt b (off + i * 23) (opv o).toList) := fun j u hj => (BW.out.cell (p := ⟨b, off + i * 23 + j, none⟩) hbl).trans (hrg j u hj)
          have q6 : wr.cell? ⟨b, off + i * 23 + 6, none⟩ = some (.slice o.ba o.b.length o.bc) := (BW.out.cell (p := ⟨b, off + i * 23 + 6, none⟩) hbl).trans (range6 hrg)
          have hbn := hok.bn
          have OK := Lib.hid hok; have HBY := Lib.hid hby
          clear ho hmem hrg hok hby hcl
          by_cases c2 : 4194304 < al + o.b.length
          · have t2 : decide ((4194304 : Int) < (al : Int) + (o.b.length : Int)) = true := decide_eq_true (by omega)
            have t2' : decide (4194304 < al + o.b.length) = true := decide_eq_true c2
            go_wp2
            go_meet
            case rel => exact ⟨vw, _, Bd, rfl, ST.out⟩
          · have t2 : decide ((4194304 : Int) < (al : Int) + (o.b.length : Int)) = false := decide_eq_false (by omega)
            have t2' : decide (4194304 < al + o.b.length) = false := decide_eq_false c2
            have SZ1 : Hid ((Tryd.prog.info? 99).map (·.size) = some (opv o).size) := by show _ = _; rw [opv_len OK.out.dn]; exact opSize
            have SZ2 : Hid ((#[.int .i64 0, .int .i64 0, .int .u64 0, .int .i64 0, .int .i64 0, .bool false, .slice none 0 0, .int .u8 0, .int .u8 0, .int .u8 0, .int .u8 0, .int .u8 0, .int .u8 0, .int .u8 0, .int .u8 0, .int .u8 0, .int .u8 0, .int .u8 0, .int .u8 0, .int .u8 0, .int .u8 0, .int .u8 0, .int .u8 0] : Array Value).size = (opv o).size) := by show _ = _; rw [opv_len OK.out.dn]; rfl
            have HA := Lib.hid (heap_alloc_new wr (.cells (#[.int .i64 0, .int .i64 0, .int .u64 0, .int .i64 0, .int .i64 0, .bool false, .slice none 0 0, .int .u8 0, .int .u8 0, .int .u8 0, .int .u8 0, .int .u8 0, .int .u8 0, .int .u8 0, .int .u8 0, .int .u8 0, .int .u8 0, .int .u8 0, .int .u8 0, .int .u8 0, .int .u8 0, .int .u8 0, .int .u8 0] : Array Value) 99))
            have SW := Lib.hid BW.out.size
            have q6n := Lib.hid (fun (w2 : World) (hu : Upd (fun k => k = wr.heap.size) (wr.alloc (.cells (#[.int .i64 0, .int .i64 0, .int .u64 0, .int .i64 0, .int .i64 0, .bool false, .slice none 0 0, .int .u8 0, .int .u8 0, .int .u8 0, .int .u8 0, .int .u8 0, .int .u8 0, .int .u8 0, .int .u8 0, .int .u8 0, .int .u8 0, .int .u8 0, .int .u8 0, .int .u8 0, .int .u8 0, .int .u8 0, .int .u8 0] : Array Value) 99)) w2) => show w2.cell? ⟨b, off + i * 23 + 6, none⟩ = some (.slice o.ba o.b.length o.bc) from by
              have hs := SW.out
              have hU : Upd (fun k => k = wr.heap.size) wr w2 := ((Upd.refl (fun k => k = wr.heap.size) wr).alloc _).same hu
              exact hU.cell' q6 (fun e => by have e' : b = wr.heap.size := e; omega))
            go_wp2_with (first | (with_reducible refine wpList_load_arr (op := ⟨some 41, _, _, _, _, _⟩) rfl 99 (.tmp 40) rfl b (off + i * 23) rfl (opv o) _ RW.out Tryd.underlying99 rfl SZ1.out ?_) | (with_reducible refine wpList_store_arr (op := ⟨none, .store 99 (.tmp 7) (.tmp 41), _, _, _, _⟩) rfl 99 (.tmp 7) (.tmp 41) rfl wr.heap.size (opv o) (#[.int .i64 0, .int .i64 0, .int .u64 0, .int .i64 0, .int .i64 0, .bool false, .slice none 0 0, .int .u8 0, .int .u8 0, .int .u8 0, .int .u8 0, .int .u8 0, .int .u8 0, .int .u8 0, .int .u8 0, .int .u8 0, .int .u8 0, .int .u8 0, .int .u8 0, .int .u8 0, .int .u8 0, .int .u8 0, .int .u8 0] : Array Value) 99 rfl rfl HA.out SZ2.out SZ1.out (opv_one o) ?_; intro w2 hk2 hu2; have q6b := q6n.out w2 hu2))
            have bel2 : Below wr.heap.size wr w2 := (((Upd.refl (fun k => k = wr.heap.size) wr).alloc _).same hu2).below (fun k s _ => Nat.le_of_eq s.symm) (Nat.le_refl _)
            have HK2 := Lib.hid hk2; have BL2 := Lib.hid bel2
            clear q6 q6b hu2 hk2 bel2 t1 t1' t2 t2' t3 t3'
            refine (Copy_calls o.ba o.bc o.b w2 (HBY.out.below (BW.out.trans (BL2.out.mono BW.out.size))) (by omega)).mono ?_
            rintro r w3 ⟨v3, rfl, ho3, hb3⟩
            obtain ⟨a3, c3, rfl, -, hc3, -, ha3⟩ := own_vn ho3
            have q2 : wr.heap.size < w2.heap.size := lt_of_block HK2.out
            have hk3 := (hb3.block wr.heap.size q2).trans HK2.out
            have HK3 := Lib.hid hk3
            have c6 : w3.cell? ⟨wr.heap.size, 6, none⟩ = some (.slice o.ba o.b.length o.bc) := by rw [cell_of_row' hk3, opv_lo o 6 (by decide)]; rfl
            have f6 : w3.frozen? ⟨wr.heap.size, 6, none⟩ = false := frozen_of_row hk3 6
            have hk4 := set_blk (j := 6) (.slice a3 o.b.length c3) hk3
            rw [opv_set6] at hk4
            have n3 : (Value.slice a3 o.b.length c3).ownBlock ≠ some wr.heap.size := fun e => by have := (ho3.lt _ e).1; omega
            have sw := BW.out.size
            have OE4 : Hid (Own (w3.setCell ⟨wr.heap.size, 6, none⟩ (.slice a3 o.b.length c3)) w.heap.size 5 1 (.slice a3 o.b.length c3) o.b.length (bys o.b)) := (ho3.mono (by omega)).setCell_other n3 _
            have B4 : Hid (Below wr.heap.size wr (w3.setCell ⟨wr.heap.size, 6, none⟩ (.slice a3 o.b.length c3))) := (BL2.out.trans (hb3.mono (by omega))).setCell (p := ⟨wr.heap.size, 6, none⟩) (Nat.le_refl _) _
            have OG := Lib.hid (show ∀ k, (Value.slice a3 o.b.length c3).ownBlock = some k → wr.heap.size ≤ k from fun k hk => by have := (ho3.lt _ hk).1; omega)
            have HK4 := Lib.hid hk4
            have OK' : Hid (OpOk { o with ba := a3, bc := c3 }) := ⟨OK.out.dn, OK.out.nn, OK.out.wn, OK.out.bn, hc3⟩
            have pk : Hid (∀ q : OpD, q = { o with ba := a3, bc := c3 } → q.ba = a3 ∧ q.bc = c3 ∧ q.b = o.b ∧ q.i = o.i) := fun q e => by subst e; exact ⟨rfl, rfl, rfl, rfl⟩
            clear ho3 hb3 ha3 hk3 hk4 n3 hc3
            obtain ⟨o', ho'⟩ : ∃ q, ({ o with ba := a3, bc := c3 } : OpD) = q := ⟨_, rfl⟩
            rw [ho'] at HK4 OK'
            have HO' := Lib.hid ho'
            obtain ⟨pa, pc, pb, pi⟩ := pk.out o' ho'.symm
            have PA := Lib.hid pa; have PCC := Lib.hid pc; have PBB := Lib.hid pb; have PII := Lib.hid pi
            clear ho' pa pc pb pi pk
            have SZ : Hid ((Tryd.prog.info? 99).map (·.size) = some (opv o').size) := by show _ = _; rw [opv_len OK'.out.dn]; exact opSize
            have SB : Hid (((Tryd.prog.info? 99).bind fun i => i.zero.map fun z => (i.size, z.cells.size)) = some ((opv o').size, (opv o').size)) := by show _ = _; rw [opv_len OK'.out.dn]; exact opBind
            have S0 : Hid (0 < (opv o').size) := by show _ < _; rw [opv_len OK'.out.dn]; decide
            have S9 : Hid ((opv o').size ≤ 1000) := by show _ ≤ _; rw [opv_len OK'.out.dn]; decide
            obtain ⟨w4, hw4⟩ : ∃ q, w3.setCell ⟨wr.heap.size, 6, none⟩ (.slice a3 o.b.length c3) = q := ⟨_, rfl⟩
            rw [hw4] at HK4 OE4 B4
            have OE4' : Hid (Own w4 w.heap.size 5 1 (.slice o'.ba o'.b.length o'.bc) o'.b.length (bys o'.b)) := by show Own _ _ _ _ _ _ _; rw [PA.out, PCC.out, PBB.out]; exact OE4.out
            have RQ4 := Lib.hid (range_block HK4.out)
            have WE4 := Lib.hid (HW.out.upd (Upd.ofBelow B4.out) (fun s => s) (fun _ _ s => s))
            have R4 := Lib.hid (HR.out.below B4.out)
            have BE4 := Lib.hid (BW.out.trans (B4.out.mono BW.out.size))
            have NP4 := Lib.hid NPR.out
            have VL := Lib.hid (show ∀ k, vw.ownBlock = some k → k < wr.heap.size from fun k hk => (HW.out.own.lt k hk).2)
            have PL := Lib.hid HW.out.lt
            clear OE4
            have OE4 := OE4'; clear OE4'
            go_wp2_with (first | (with_reducible refine wpList_load_arr (op := ⟨some 50, _, _, _, _, _⟩) rfl 99 (.tmp 7) rfl wr.heap.size 0 rfl (opv o') _ RQ4.out Tryd.underlying99 rfl SZ.out ?_))
            refine (puts_calls w.heap.size 0 w.heap.size o' w4 vw (lay Bd) 0 WE4.out (Nat.le_refl _) (by omega) OK'.out (Own.byt OE4.out).1).mono ?_
            clear hw4
            rintro r w5 ⟨rfl, v5, hw5, hu5⟩
            have hs4 := B4.out.size
            have SU : ∀ k, (k = w.heap.size ∨ vw.ownBlock = some k) → k < wr.heap.size := by
              rintro k (e | e)
              · rw [e]; exact PL.out
              · exact VL.out k e
            have SL : ∀ k, (k = w.heap.size ∨ vw.ownBlock = some k) → w.heap.size ≤ k := by
              rintro k (e | e)
              · exact Nat.le_of_eq e.symm
              · exact (HW.out.own.lt k e).1
            have BE5 := Lib.hid (BE4.out.trans (hu5.upd.below (fun k s _ => SL k s) BE4.out.size))
            have RQ5 := Lib.hid (rangeAt_upd RQ4.out hu5.upd (fun s => by have := SU _ s; omega))
            have OE5 := Lib.hid (OE4.out.upd hu5.upd (fun k hk s => by have := SU _ s; rw [PA.out, PCC.out, PBB.out] at hk; have := OG.out k hk; omega))
            have R5 := Lib.hid (R4.out.upd hu5.upd (fun k hk s => by
              rcases s with s | s
              · rw [s] at hk; exact NPR.out hk
              · exact Own.ne_type HR.out.row HW.out.own (by decide) k hk s) (fun q hq k hk s => by
              rcases s with s | s
              · exact (BK.out.apart q hq k hk).1 s
              · exact (BK.out.apart q hq k hk).2 s))
            have NP5 := Lib.hid NPR.out
            have AP0 : ∀ q ∈ Bd, ∀ k, (Value.slice q.ba q.b.length q.bc).ownBlock = some k → k ≠ w.heap.size ∧ v5.ownBlock ≠ some k := by
              intro q hq k hk
              refine ⟨(BK.out.apart q hq k hk).1, fun e => ?_⟩
              rcases hu5.own with e2 | e2
              · rw [e2] at e; exact (BK.out.apart q hq k hk).2 e
              · have h1 := e2 k e
                have h2 := ((R4.out.own q hq).lt k hk).2
                omega
            have AP1 : ∀ k, (Value.slice o'.ba o'.b.length o'.bc).ownBlock = some k → k ≠ w.heap.size ∧ v5.ownBlock ≠ some k := by
              intro k hk
              have h2 := (OE4.out.lt k hk).2
              have hk' := hk
              rw [PA.out, PCC.out, PBB.out] at hk'
              have h3 := OG.out k hk'
              have h4 := PL.out
              refine ⟨by omega, fun e => ?_⟩
              rcases hu5.own with e2 | e2
              · rw [e2] at e
                have := VL.out k e
                omega
              · have := e2 k e
                omega
            have AP := Lib.hid AP0
            have APN := Lib.hid (show ∀ q ∈ Bd ++ [o'], ∀ k, (Value.slice q.ba q.b.length q.bc).ownBlock = some k → k ≠ w.heap.size ∧ v5.ownBlock ≠ some k from fun q hq k hk => by
              rcases List.mem_append.1 hq with hq | hq
              · exact AP0 q hq k hk
              · rw [List.mem_singleton] at hq; subst hq; exact AP1 k hk)
            have LB : Hid (o'.b.length = o.b.length) := by show _ = _; rw [PBB.out]
            have IBO : Hid (ibd o') := by show _ ∧ _; rw [PII.out]; exact IBI.out
            clear AP0 AP1
            cases hp : pOk o' with
            | true =>
              rw [enc_w _ _ hp, ← lay_snoc] at hw5
              have WE5 := Lib.hid hw5
              have hl3 : (lay (Bd ++ [o'])).length ≤ (lay Bd).length + o.b.length + 16 := by rw [lay_snoc, List.length_append]; have h1 := (enc_len OK'.out hp).2; have h2 := LB.out; omega
              have OKB := Lib.hid (show ∀ q ∈ Bd ++ [o'], pOk q = true ∧ ibd q from fun q hq => by
                rcases List.mem_append.1 hq with hq | hq
                · exact BK.out.ok q hq
                · rw [List.mem_singleton] at hq; subst hq; exact ⟨hp, IBO.out⟩)
              clear hw5 hu5 SU SL hp hs4
              obtain ⟨ab, cb, hvv, -, -, -⟩ := R5.out.row.shape'
              subst hvv
              have M1 : Hid (Bd.length + 1 ≤ maxLen) := by show _ ≤ _; unfold maxLen; omega
              have M2 : Hid ((Bd.length + 1) * 88 ≤ 140737488355328) := by show _ ≤ _; omega
              have BA : Hid (w.heap.size ≤ (w5.alloc (.cells (opv o') 99)).heap.size) := by show _ ≤ _; have := BE5.out.size; rw [World.size_alloc]; omega
              have SR := Lib.hid (Src_op OK'.out.dn (heap_alloc_new w5 (.cells (opv o') 99)))
              go_wp2_with (first | (with_reducible refine wpList_load_arr (op := ⟨some 53, _, _, _, _, _⟩) rfl 99 (.tmp 7) rfl wr.heap.size 0 rfl (opv o') _ RQ5.out Tryd.underlying99 rfl SZ.out ?_) | (with_reducible refine wpList_buildOne (o := ⟨some 54, _, _, _, _, _⟩) rfl 94 99 (.tmp 53) rfl (opv o') rfl Tryd.underlying94 SB.out S0.out S9.out ?_) | (at_builtin; refine wpList_append rfl (.tmp 52) (.tmp 54) 94 94 rfl w.heap.size 99 zop 23 88 Tryd.underlying94 infoOpZ rfl (n := Bd.length) (xs := flat Bd) (R5.out.row.alloc _) rfl (xv := .slice (some ⟨w5.heap.size, 0, none⟩) 1 1) (m := 1) (news := (opv o').toList) SR.out rfl M1.out M2.out BA.out ?_))
              intro v8 w8 ho8 hg8 hn8 hv8
              try clear hw4
              have R8 := Lib.hid (R5.out.push o' OK'.out OE5.out ho8 hg8)
              have W8 := Lib.hid (WE5.out.upd (((Upd.refl (fun k => (.slice ab Bd.length cb : Value).ownBlock = some k) w5).alloc _).grown hg8 (fun _ h _ => h)) (fun s => NP5.out s) (fun k hk s => Own.ne_type R5.out.row WE5.out.own (by decide) k s hk))
              have Bx8 := Lib.hid ((BE5.out.alloc BE5.out.size _).grown hg8 BA.out (fun k hk => (R5.out.row.lt k hk).1))
              have NP8 : Hid (v8.ownBlock ≠ some w.heap.size) := by
                show _ ≠ _
                have hs := BE5.out.size
                have hlt := WE5.out.lt
                rcases hv8 with e | e
                · rw [e]; exact NP5.out
                · rw [e]; intro h; injection h with h; first | omega | (simp at h; omega)
              clear ho8 hg8 hn8 hv8
              go_wp2
              go_roundw
              case rel => exact ⟨i + 1, al + o.b.length, v5, v8, Bd ++ [o'], rfl, by go_num, by go_num, by omega, by omega, by omega, ⟨by omega, by rw [List.length_append, List.length_singleton]; omega, W8.out, R8.out, NP8.out, OKB.out, APN.out, Bx8.out⟩⟩
              case measure => simp [intOf]; omega
            | false =>
              have hq : wOp (lay Bd) 0 o' = (lay Bd, 0) := if_pos hp
              rw [hq] at hw5
              have WE5 := Lib.hid hw5
              clear hq hw5 hu5 SU SL hp hs4
              go_wp2
              go_roundw
              case rel => exact ⟨i + 1, al + o.b.length, v5, _, Bd, rfl, by go_num, by go_num, by omega, by omega, by omega, ⟨by omega, by omega, WE5.out, R5.out, NP5.out, BK.out.ok, AP.out, BE5.out⟩⟩
              case measure => simp [intOf]; omega
        · have t3 : decide ((i : Int) < 300) = false := decide_eq_false (by omega)
          have t3' : decide (i < 300) = false := decide_eq_false c3
          go_wp2
          go_meet
          case rel => exact ⟨vw, _, Bd, rfl, ST.out⟩
      · have t1 : decide ((i : Int) < (L.length : Int)) = false := decide_eq_false (by omega)
        have t1' : decide (i < L.length) = false := decide_eq_false c1
        go_wp2
        go_meet
        case rel => exact ⟨vw, _, Bd, rfl, ST.out⟩
end Go.Proofs.YtjiciklnhcmfaaaDoor
