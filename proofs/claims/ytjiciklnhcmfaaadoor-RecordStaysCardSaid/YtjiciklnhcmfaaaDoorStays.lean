/- RecordStays's walk. -/
import Derived.Test.YtjiciklnhcmfaaaDoorOps2
import Derived.Test.YtjiciklnhcmfaaaDoorWorks
namespace Go.Proofs.YtjiciklnhcmfaaaDoor
set_option linter.unusedVariables false
set_option linter.unusedSimpArgs false
open Go.RowKit
/-- Where the writer and the row of refused fields stand behind the first loop. -/
def St1 (w wr : World) (vb : Value) : Prop := ∃ (l : List UInt8) (vw : Value) (Bd : List OpD), l.length ≤ 5000000 ∧ Bd.length ≤ 300 ∧ Wri wr w.heap.size 0 w.heap.size l 0 vw ∧ OpRow wr w.heap.size vb Bd ∧ Below w.heap.size w wr
theorem Wri.blk_of {w : World} {pb : Nat} {v : Value} (h : w.cell? ⟨pb, 0, none⟩ = some v) : True := trivial
theorem wText_new (l : List UInt8) : ∃ l2 e2, wText [] 0 l = (l2, e2) ∧ l2.length ≤ l.length + 4 ∧ ((l.length ≤ 1048576 ∧ e2 = 0) ∨ (1048576 < l.length ∧ e2 = 31)) := by
  by_cases h : l.length ≤ 1048576
  · exact ⟨_, _, by unfold wText; rw [if_pos rfl, if_pos h], by simp [be_length]; omega, .inl ⟨h, rfl⟩⟩
  · exact ⟨_, _, by unfold wText; rw [if_pos rfl, if_neg h], by simp, .inr ⟨by omega, rfl⟩⟩
theorem wNum_256 (l : List UInt8) (e : Int) : wNum l e 256 1 = (l, if e = 0 then 34 else e) := by
  unfold wNum
  by_cases h : e = 0
  · rw [if_pos h, if_pos h, if_neg]
    rintro ⟨_, _, h | h⟩
    · exact absurd h (by decide)
    · exact absurd h (by decide)
  · rw [if_neg h, if_neg h]
theorem wText_31 (l : List UInt8) (e : Int) (z : List UInt8) (h : 1048576 < z.length) : wText l e z = (l, if e = 0 then 31 else e) := by
  unfold wText
  by_cases he : e = 0
  · rw [if_pos he, if_pos he, if_neg (by omega)]
  · rw [if_neg he, if_neg he]
theorem wu_below {w0 a b : World} {B V base : Nat} {l : List UInt8} {e : Int} {v v' : Value} (h : WUpd a b V 0 v v') (hw : Wri a V 0 base l e v) (hb : Below B w0 a) (hB : B ≤ base) (hV : B ≤ V) : Below B w0 b :=
  hb.trans (h.upd.below (fun k s _ => by
    rcases s with s | s
    · rw [s]; exact hV
    · exact Nat.le_trans hB (hw.own.lt k s).1) (Nat.le_trans hV (Nat.le_of_lt hw.lt)))
theorem stays_below {w wr w3 : World} {v3 : Value} {o : Obj} (h : WUpd (wr.alloc o) w3 wr.heap.size 0 (.slice none 0 0) v3) (hb : Below w.heap.size w wr) : Below w.heap.size w w3 :=
  (hb.alloc hb.size o).trans (h.upd.below (fun k s _ => by
    rcases s with s | s
    · rw [s]; exact hb.size
    · cases s) (Nat.le_trans hb.size (by rw [World.size_alloc]; omega)))
theorem eqZid (w : World) : (Op.equalIn 10000 97 (.agg #[.int .u8 0, .int .u8 0, .int .u8 0, .int .u8 0, .int .u8 0, .int .u8 0, .int .u8 0, .int .u8 0, .int .u8 0, .int .u8 0, .int .u8 0, .int .u8 0, .int .u8 0, .int .u8 0, .int .u8 0, .int .u8 0]) (.agg #[.int .u8 0, .int .u8 0, .int .u8 0, .int .u8 0, .int .u8 0, .int .u8 0, .int .u8 0, .int .u8 0, .int .u8 0, .int .u8 0, .int .u8 0, .int .u8 0, .int .u8 0, .int .u8 0, .int .u8 0, .int .u8 0])).run Tryd.prog w = .ok true w := by
  have u3 := Tryd.underlying5
  have a3 : ∀ w, (isAgg 5).run Tryd.prog w = .ok false w := fun w => by simp [isAgg, run_underlying Tryd.underlying5]
  have z3 : ∀ w, (sizeOf 5).run Tryd.prog w = .ok 1 w := fun w => by kernel_rfl
  rw [show (10000 : Nat) = 9999 + 1 from rfl, Op.equalIn]
  simp only [Sem.run_bind, run_underlying Tryd.underlying97, Result.andThen_ok]
  simp only [Std.Legacy.Range.forIn_eq_forIn_range', Std.Legacy.Range.size, Nat.sub_zero, Nat.add_sub_cancel, Nat.div_one, List.range'_succ, List.range'_zero, List.forIn_cons, List.forIn_nil]
  go_simp
/-- A reader that refused: it stands on its own block, nothing of what was has changed. -/
def Rf (w0 w : World) (rb B : Nat) (l : List UInt8) : Prop := (∃ a cap, Rdr w rb 0 B l 34 a cap) ∧ w0.heap.size ≤ rb ∧ l.length ≤ 5000000 ∧ Below w0.heap.size w0 w
theorem Rf.upd {w0 w w' : World} {rb B : Nat} {l : List UInt8} (h : Rf w0 w rb B l) {a : Option Addr} {cap : Nat} (hr : Rdr w' rb 0 B l 34 a cap) (hu : RUpd w w' rb 0) : Rf w0 w' rb B l :=
  ⟨⟨a, cap, hr⟩, h.2.1, h.2.2.1, h.2.2.2.trans (hu.upd.below (fun k s _ => by rw [show k = rb from s]; exact h.2.1) h.2.2.2.size)⟩
theorem Rf.below {w0 w w' : World} {rb B : Nat} {l : List UInt8} (h : Rf w0 w rb B l) (hb : Below w.heap.size w w') : Rf w0 w' rb B l := by
  obtain ⟨⟨a, cap, hr⟩, h1, h3, h2⟩ := h
  exact ⟨⟨a, cap, hr.upd (Upd.ofBelow hb) (fun s => s) (fun s => s)⟩, h1, h3, h2.trans (hb.mono h2.size)⟩
theorem RNum34 {w0 w : World} {rb B : Nat} {l : List UInt8} (k : Int) (h : Rf w0 w rb B l) :
    Calls Tryd.prog 38 #[.pointer (some ⟨rb, 0, none⟩), .int .i64 k] w fun r w' => r = .returned (.int .u64 0) ∧ Rf w0 w' rb B l := by
  obtain ⟨a, cap, hr⟩ := h.1
  have hl := h.2.2.1
  have c := RNum_calls rb 0 B k w l 34 a cap hr (by omega)
  rw [show rNum l 34 k = (0, l, 34) from if_neg (by decide)] at c
  refine c.mono ?_
  rintro r w' ⟨rfl, a', c', h1, h2⟩
  exact ⟨rfl, h.upd h1 h2⟩
theorem RInt34 {w0 w : World} {rb B : Nat} {l : List UInt8} (h : Rf w0 w rb B l) :
    Calls Tryd.prog 39 #[.pointer (some ⟨rb, 0, none⟩)] w fun r w' => r = .returned (.int .i64 0) ∧ Rf w0 w' rb B l := by
  obtain ⟨a, cap, hr⟩ := h.1
  have hl := h.2.2.1
  have c := RInt_calls rb 0 B w l 34 a cap hr (by omega)
  rw [show rNum l 34 8 = (0, l, 34) from if_neg (by decide)] at c
  refine c.mono ?_
  rintro r w' ⟨rfl, a', c', h1, h2⟩
  exact ⟨by rw [show sgn (0, l, (34 : Int)).1 = 0 from by simp [sgn, wrap64]], h.upd h1 h2⟩
theorem RFlag34 {w0 w : World} {rb B : Nat} {l : List UInt8} (h : Rf w0 w rb B l) :
    Calls Tryd.prog 36 #[.pointer (some ⟨rb, 0, none⟩)] w fun r w' => r = .returned (.bool false) ∧ Rf w0 w' rb B l := by
  obtain ⟨a, cap, hr⟩ := h.1
  have hl := h.2.2.1
  have c := RFlag_calls rb 0 B w l 34 a cap hr (by omega)
  rw [show rFlag l 34 = (false, l, 34) from by unfold rFlag; rw [if_neg (by rintro ⟨h, _⟩; exact absurd h (by decide)), show rNum l 34 1 = (0, l, 34) from if_neg (by decide)]; rfl] at c
  refine c.mono ?_
  rintro r w' ⟨rfl, a', c', h1, h2⟩
  exact ⟨rfl, h.upd h1 h2⟩
theorem RBytes34 {w0 w : World} {rb B : Nat} {l : List UInt8} (h : Rf w0 w rb B l) :
    Calls Tryd.prog 31 #[.pointer (some ⟨rb, 0, none⟩)] w fun r w' => (∃ a c, r = .returned (.slice a 0 c)) ∧ RUpd w w' rb 0 ∧ Rf w0 w' rb B l := by
  obtain ⟨a, cap, hr⟩ := h.1
  have hl := h.2.2.1
  have c := RBytes_calls rb 0 B w l 34 a cap hr (by omega)
  rw [show rBytes l 34 = ([], l, 34) from if_neg (by decide)] at c
  refine c.mono ?_
  rintro r w' ⟨v, rfl, ho, a', c', h1, h2⟩
  obtain ⟨a2, c2, rfl, -, -, -, -⟩ := own_vn ho
  exact ⟨⟨a2, c2, rfl⟩, h2, h.upd h1 h2⟩
theorem RText34 {w0 w : World} {rb B : Nat} {l : List UInt8} (h : Rf w0 w rb B l) :
    Calls Tryd.prog 41 #[.pointer (some ⟨rb, 0, none⟩)] w fun r w' => r = .returned (.string ⟨#[]⟩) ∧ RUpd w w' rb 0 ∧ Rf w0 w' rb B l := by
  obtain ⟨a, cap, hr⟩ := h.1
  have hl := h.2.2.1
  have c := RText_calls rb 0 B w l 34 a cap hr (by omega)
  rw [show rBytes l 34 = ([], l, 34) from if_neg (by decide)] at c
  refine c.mono ?_
  rintro r w' ⟨rfl, a', c', h1, h2⟩
  exact ⟨rfl, h2, h.upd h1 h2⟩
theorem RID34 {w0 w : World} {rb B : Nat} {l : List UInt8} (h : Rf w0 w rb B l) :
    Calls Tryd.prog 40 #[.pointer (some ⟨rb, 0, none⟩)] w fun r w' => r = .returned (.agg #[.int .u8 0, .int .u8 0, .int .u8 0, .int .u8 0, .int .u8 0, .int .u8 0, .int .u8 0, .int .u8 0, .int .u8 0, .int .u8 0, .int .u8 0, .int .u8 0, .int .u8 0, .int .u8 0, .int .u8 0, .int .u8 0]) ∧ Rf w0 w' rb B l := by
  obtain ⟨a, cap, hr⟩ := h.1
  refine (RID_off rb 0 B w l 34 a cap hr (by decide)).mono ?_
  rintro r w' ⟨rfl, h1⟩
  exact ⟨rfl, h.below h1⟩
theorem RLeft34 {w0 w : World} {rb B : Nat} {l : List UInt8} (h : Rf w0 w rb B l) :
    Calls Tryd.prog 34 #[.pointer (some ⟨rb, 0, none⟩)] w fun r w' => r = .returned (.int .i64 l.length) ∧ w = w' := by
  obtain ⟨a, cap, hr⟩ := h.1
  exact RLeft_calls rb 0 B w l 34 a cap hr
theorem REnd34 {w0 w : World} {rb B : Nat} {l : List UInt8} (h : Rf w0 w rb B l) :
    Calls Tryd.prog 32 #[.pointer (some ⟨rb, 0, none⟩)] w fun r w' => r = .returned (.int .i64 34) ∧ w = w' := by
  obtain ⟨a, cap, hr⟩ := h.1
  have c := REnd_calls rb 0 B w l 34 a cap hr
  rw [show rEnd l 34 = 34 from if_neg (by rintro ⟨h, _⟩; exact absurd h (by decide))] at c
  exact c
set_option maxRecDepth 100000 in
set_option maxHeartbeats 8000000 in
theorem RecordStays_calls (w : World) (a : Option Addr) (cap : Nat) (L : List OpD) (h : RdO w a L) (hn : L.length ≤ 140737488351232) (ht : Tab w) (hg : 0 < w.heap.size) :
    Calls Tryd.prog 9 #[.slice a L.length cap] w fun r w' => r = .returned (.bool true) ∧ Below w.heap.size w w' := by
  have H := Lib.hid h; have HT := Lib.hid ht; have HG := Lib.hid hg
  clear h ht hg
  have W0 := Lib.hid (Wri.new (w := w) (Nat.le_refl _))
  have B0 : Hid (Below w.heap.size w (w.alloc (.cells #[.slice none 0 0, .int .i64 0] 85))) := (Below.refl _ w).alloc (Nat.le_refl _) _
  go_enter Tryd.func9, Tryd.ntmps9
  go_upto_block 0 with (fail)
  go_cut [4] (fun vb wr => St1 w wr vb)
  case rest =>
    obtain ⟨l, vw, Bd, hll, hbl, hw, hr, hbw⟩ := hcut
    obtain ⟨wA, rfl⟩ : ∃ q, q = wc := ⟨_, rfl⟩
    have HW := Lib.hid hw; have HR := Lib.hid hr; have BW := Lib.hid hbw
    clear hw hr hbw
    have DC := Lib.hid (Done_calls w.heap.size 0 w.heap.size wA vw l 0 HW.out (by omega))
    rw [show wDone l 0 = (l, 0) from if_pos rfl] at DC
    go_wp2_with fail
    refine DC.out.mono ?_
    rintro r wB ⟨vb', rfl, hob, hbb⟩
    obtain ⟨ab, cb, rfl, -, hcb, -, -⟩ := own_vn hob
    have OB := Lib.hid hob
    have BB := Lib.hid (BW.out.trans (hbb.mono BW.out.size))
    have RB := Lib.hid (HR.out.below hbb)
    clear hob hbb DC
    go_wp2_with (go_at_call 21; refine (num_calls _ _).mono ?_; rintro r wx ⟨rfl, rfl⟩)
    refine (works_calls wB (HT.out.below BB.out) (Nat.lt_of_lt_of_le HG.out BB.out.size)).mono ?_
    rintro r wC ⟨rfl, hbc⟩
    have BC := Lib.hid (BB.out.trans (hbc.mono BB.out.size))
    have RC := Lib.hid (RB.out.below hbc)
    have sB := BB.out.size
    have OC := Lib.hid ((OB.out.mono (show w.heap.size ≤ wA.heap.size from BW.out.size)).below hbc)
    clear hbc sB
    go_upto_block 2 with (fail)
    obtain ⟨aB, cB, hvv, -, -, -⟩ := RC.out.row.shape'
    subst hvv
    have YC := Lib.hid (Own.byt OC.out).1
    have LL := Lib.hid hll
    go_cut [] (fun wr => Below wC.heap.size wC wr)
    case first =>
      go_wp2
      go_loopw [10] (fun vi wr => ∃ i : Nat, vi = .int .i64 i ∧ i ≤ 2 ∧ Below wC.heap.size wC wr) (fun vi _ => 2 - (intOf vi).toNat)
      case atStart => exact ⟨0, rfl, by decide, Below.refl _ _⟩
      case round =>
        obtain ⟨i, rfl, hi, hbr⟩ := hrel
        have BR := Lib.hid hbr; clear hbr
        by_cases c1 : i < 2
        · have t1 : decide ((i : Int) < 2) = true := decide_eq_true (by omega)
          have t1' : decide (i < 2) = true := decide_eq_true c1
          have WN := Lib.hid (Wri.new (w := wr) (Nat.le_refl _))
          have YR := Lib.hid (YC.out.below BR.out)
          have YR1 := Lib.hid (YR.out.upd ((Upd.refl (fun _ => False) wr).alloc (.cells #[.slice none 0 0, .int .i64 0] 85)) (fun _ _ _ s => s))
          obtain ⟨l2, e2, hq, hl2, he2⟩ := wText_new l
          have BYC := Bytes_calls wr.heap.size 0 wr.heap.size ab cb l _ (.slice none 0 0) [] 0 WN.out (Nat.le_refl _) (by decide) (by omega) YR1.out
          rw [hq] at BYC
          have BY := Lib.hid BYC
          have HE2 := Lib.hid he2; have HL2 := Lib.hid hl2
          clear BYC hq he2 hl2
          obtain ⟨M, hM⟩ : ∃ M : Nat, 1048577 = M := ⟨_, rfl⟩
          have EM : Hid (Value.int .i64 1048577 = .int .i64 (M : Int)) := by show _ = _; rw [← hM]; rfl
          have BM : Hid (M ≤ 140737488355328) := by show _ ≤ _; omega
          have MG : Hid (1048576 < M ∧ M ≤ 140737488355328) := by show _ ∧ _; omega
          clear hM
          by_cases c2 : i = 0
          · have t2 : ((i : Int) == 0) = true := by rw [beq_iff_eq]; omega
            have C2 := Lib.hid c2; clear c2
            go_wp2_with fail
            refine BY.out.mono ?_
            rintro r w2 ⟨rfl, v2, hw2, hu2⟩
            have W2 := Lib.hid hw2
            have U2 := Lib.hid hu2
            have NC := Lib.hid (Num_calls wr.heap.size 0 wr.heap.size 256 1 w2 v2 l2 e2 hw2 (Nat.le_refl _) (by have := HL2.out; have := LL.out; omega))
            rw [wNum_256 l2 e2] at NC
            clear hw2 hu2
            go_wp2_with fail
            refine NC.out.mono ?_
            rintro r w3 ⟨rfl, v3, hw3, hu3⟩
            have W3 := Lib.hid hw3
            have U3 := Lib.hid (U2.out.trans hu3)
            clear hw3 hu3 NC
            go_wp2_with (at_make; refine wpList_makeBytes rfl (.const (.int .i64 1048577)) (.const (.int .i64 1048577)) 55 rfl 5 Tryd.underlying55 infoByte .i64 .i64 M EM.out EM.out BM.out ?_)
            intro w4 ho4 hb4 hlt4
            have W4 := Lib.hid (W3.out.upd (Upd.ofBelow hb4) (fun s => s) (fun _ _ s => s))
            have Y4 := Lib.hid (Own.byt ho4).1
            have BX4 := Lib.hid (Below.trans (stays_below U3.out BR.out) (hb4.mono (by exact (stays_below U3.out BR.out).size)))
            have e3 : Hid ((if e2 = 0 then (34 : Int) else e2) ≠ 0) := by show _ ≠ _; split; decide; assumption
            obtain ⟨e4, he4⟩ : ∃ q, (if e2 = 0 then (34 : Int) else e2) = q := ⟨_, rfl⟩
            rw [he4] at W4 e3
            have HE4 := Lib.hid he4; clear he4
            obtain ⟨z, hz⟩ : ∃ z, List.replicate M (0 : UInt8) = z := ⟨_, rfl⟩
            have hzl : z.length = M := by rw [← hz, List.length_replicate]
            rw [hz] at Y4
            have B4C := Bytes_calls wr.heap.size 0 wr.heap.size (some ⟨w3.heap.size, 0, none⟩) M z w4 v3 l2 e4 W4.out (Nat.le_refl _) (by have := HL2.out; have := LL.out; omega) (by rw [hzl]; exact MG.out.2) Y4.out
            rw [hzl, show wText l2 e4 z = (l2, e4) from if_neg e3.out] at B4C
            have B4 := Lib.hid B4C; clear B4C hz hzl ho4 hb4 hlt4
            go_wp2_with fail
            refine B4.out.mono ?_
            rintro r w5 ⟨rfl, v5, hw5, hu5⟩
            have W5 := Lib.hid hw5
            have BX5 := Lib.hid (wu_below hu5 W4.out BX4.out BR.out.size BR.out.size)
            have HWT : Hid (l.length ≤ 1048576 → e4 = 34) := by
              intro h
              rcases HE2.out with ⟨_, e⟩ | ⟨h', _⟩
              · rw [← HE4.out, if_pos e]
              · omega
            clear hw5 hu5
            obtain ⟨V, hV⟩ : ∃ q, wr.heap.size = q := ⟨_, rfl⟩
            have HVB : Hid (wC.heap.size ≤ V) := by show _ ≤ _; rw [← hV]; exact BR.out.size
            rw [hV] at W5 ⊢
            clear hV
            have LE := Lib.hid (show l2.length ≤ 6000000 by have := HL2.out; have := LL.out; omega)
            go_wp2
            go_loopw [13] (fun vk wx => ∃ (k : Nat) (vv : Value), vk = .int .i64 k ∧ k ≤ Bd.length ∧ Wri wx V 0 V l2 e4 vv ∧ Below wC.heap.size wC wx) (fun vk _ => Bd.length - (intOf vk).toNat)
            case atStart => exact ⟨0, v5, rfl, Nat.zero_le _, W5.out, BX5.out⟩
            case round =>
              obtain ⟨k, vv, rfl, hk, hwx, hbx⟩ := hrel
              have WX := Lib.hid hwx; have BX := Lib.hid hbx
              clear hwx hbx
              by_cases c4 : k < Bd.length
              · have t4 : decide ((k : Int) < (Bd.length : Int)) = true := decide_eq_true (by omega)
                have t4' : decide (k < Bd.length) = true := decide_eq_true c4
                obtain ⟨qo, hqo⟩ : ∃ q, Bd[k]? = some q := ⟨_, List.getElem?_eq_getElem c4⟩
                have hqm := List.mem_of_getElem? hqo
                obtain ⟨gB, dB, hvB⟩ := RC.out.row.shape (by omega)
                cases hvB
                have RX := RC.out.below BX.out
                have RG := Lib.hid (RX.range k qo hqo)
                have QK := Lib.hid (RC.out.ok qo hqm)
                have QY := Lib.hid (Own.byt (RX.own qo hqm)).1
                have SZq : Hid ((Tryd.prog.info? 99).map (·.size) = some (opv qo).size) := by show _ = _; rw [opv_len QK.out.dn]; exact opSize
                clear RX hqo hqm
                go_wp2_with (first | (with_reducible refine wpList_load_arr (op := ⟨some 108, _, _, _, _, _⟩) rfl 99 (.tmp 107) rfl gB (k * 23) rfl (opv qo) _ RG.out Tryd.underlying99 rfl SZq.out ?_))
                refine (puts_calls V 0 V qo wr vv l2 e4 WX.out (Nat.le_refl _) (by have := LE.out; omega) QK.out QY.out).mono ?_
                rintro r w6 ⟨rfl, v6, hw6, hu6⟩
                rw [wOp_off l2 e4 qo e3.out] at hw6
                have W6 := Lib.hid hw6
                have BX6 := Lib.hid (wu_below hu6 WX.out BX.out HVB.out HVB.out)
                clear hw6 hu6
                go_wp2
                go_roundw
                case rel => exact ⟨k + 1, v6, by go_num, by omega, W6.out, BX6.out⟩
                case measure => simp [intOf]; omega
              · have t4 : decide ((k : Int) < (Bd.length : Int)) = false := decide_eq_false (by omega)
                have t4' : decide (k < Bd.length) = false := decide_eq_false c4
                have DC := Lib.hid (Done_calls V 0 V wr vv l2 e4 WX.out (by have := LE.out; omega))
                rw [show wDone l2 e4 = ([], e4) from if_neg e3.out] at DC
                go_wp2_with fail
                refine DC.out.mono ?_
                rintro r w6 ⟨v6, rfl, ho6, hb6⟩
                obtain ⟨a6, c6, rfl, -, -, -, -⟩ := own_vn ho6
                have BX6 := Lib.hid (BX.out.trans (hb6.mono BX.out.size))
                clear ho6 hb6 DC
                by_cases c5 : l.length ≤ 1048576
                · have t5 : decide ((l.length : Int) ≤ 1048576) = true := decide_eq_true (by omega)
                  have t5' : decide (l.length ≤ 1048576) = true := decide_eq_true c5
                  have ew : e4 = 34 := HWT.out c5
                  have tw : (e4 != 34) = false := by rw [ew]; rfl
                  clear ew
                  go_wp2_with (go_at_call 21; refine (num_calls _ _).mono ?_; rintro r wx ⟨rfl, rfl⟩)
                  go_roundw
                  case rel => exact ⟨i + 1, by go_num, by omega, BX6.out⟩
                  case measure => simp [intOf]; omega
                · have t5 : decide ((l.length : Int) ≤ 1048576) = false := decide_eq_false (by omega)
                  have t5' : decide (l.length ≤ 1048576) = false := decide_eq_false c5
                  go_wp2
                  go_roundw
                  case rel => exact ⟨i + 1, by go_num, by omega, BX6.out⟩
                  case measure => simp [intOf]; omega
          · have t2 : ((i : Int) == 0) = false := by rw [beq_eq_false_iff_ne]; omega
            have C2 := Lib.hid c2; clear c2
            go_wp2_with fail
            refine BY.out.mono ?_
            rintro r w2 ⟨rfl, v2, hw2, hu2⟩
            have W2 := Lib.hid hw2
            have U2 := Lib.hid hu2
            clear hw2 hu2
            go_wp2_with (at_make; refine wpList_makeBytes rfl (.const (.int .i64 1048577)) (.const (.int .i64 1048577)) 55 rfl 5 Tryd.underlying55 infoByte .i64 .i64 M EM.out EM.out BM.out ?_)
            intro w4 ho4 hb4 hlt4
            have W4 := Lib.hid (W2.out.upd (Upd.ofBelow hb4) (fun s => s) (fun _ _ s => s))
            have y4 := (Own.byt ho4).1
            have BX4 := Lib.hid (Below.trans (stays_below U2.out BR.out) (hb4.mono (stays_below U2.out BR.out).size))
            obtain ⟨z, hz⟩ : ∃ z, List.replicate M (0 : UInt8) = z := ⟨_, rfl⟩
            have hzl : z.length = M := by rw [← hz, List.length_replicate]
            rw [hz] at y4
            have x1 : (convert 55 9 (.slice (some ⟨w2.heap.size, 0, none⟩) z.length M)).run Tryd.prog w4 = .ok (.string ⟨z.toArray⟩) w4 := conv_bytes Tryd.underlying55 Tryd.underlying5 Tryd.underlying9 y4
            rw [hzl] at x1
            have e3 : Hid ((if e2 = 0 then (31 : Int) else e2) ≠ 0) := by show _ ≠ _; split; decide; assumption
            have hsz : (⟨z.toArray⟩ : ByteArray).size ≤ 140737488355328 := by have h : (⟨z.toArray⟩ : ByteArray).size = z.length := by { simp [ByteArray.size] }; rw [h, hzl]; exact MG.out.2
            have TC := Text_calls wr.heap.size 0 wr.heap.size ⟨z.toArray⟩ w4 v2 l2 e2 W4.out (Nat.le_refl _) (by have := HL2.out; have := LL.out; omega) hsz
            rw [show (⟨z.toArray⟩ : ByteArray).data.toList = z from rfl, wText_31 l2 e2 z (by rw [hzl]; exact MG.out.1)] at TC
            obtain ⟨e4, he4⟩ : ∃ q, (if e2 = 0 then (31 : Int) else e2) = q := ⟨_, rfl⟩
            rw [he4] at TC e3
            have HE4 := Lib.hid he4; clear he4
            have B4 := Lib.hid TC; clear TC hz hzl ho4 hb4 hlt4 y4
            go_wp2_with fail
            refine B4.out.mono ?_
            clear x1
            rintro r w9 ⟨rfl, v9, hw9, hu9⟩
            have BX9 := Lib.hid (wu_below hu9 W4.out BX4.out BR.out.size BR.out.size)
            have W9 := Lib.hid hw9
            have NC := Lib.hid (Num_calls wr.heap.size 0 wr.heap.size 0 9 w9 v9 l2 e4 hw9 (Nat.le_refl _) (by have := HL2.out; have := LL.out; omega))
            rw [wNum_off e3.out] at NC
            clear hw9 hu9
            go_wp2_with fail
            refine NC.out.mono ?_
            rintro r w5 ⟨rfl, v5, hw5, hu5⟩
            have W5 := Lib.hid hw5
            have BX5 := Lib.hid (wu_below hu5 W9.out BX9.out BR.out.size BR.out.size)
            have HWT : Hid (l.length ≤ 1048576 → e4 = 31) := by
              intro h
              rcases HE2.out with ⟨_, e⟩ | ⟨h', _⟩
              · rw [← HE4.out, if_pos e]
              · omega
            clear hw5 hu5 NC
            obtain ⟨V, hV⟩ : ∃ q, wr.heap.size = q := ⟨_, rfl⟩
            have HVB : Hid (wC.heap.size ≤ V) := by show _ ≤ _; rw [← hV]; exact BR.out.size
            rw [hV] at W5 ⊢
            clear hV
            have LE := Lib.hid (show l2.length ≤ 6000000 by have := HL2.out; have := LL.out; omega)
            go_wp2
            go_loopw [13] (fun vk wx => ∃ (k : Nat) (vv : Value), vk = .int .i64 k ∧ k ≤ Bd.length ∧ Wri wx V 0 V l2 e4 vv ∧ Below wC.heap.size wC wx) (fun vk _ => Bd.length - (intOf vk).toNat)
            case atStart => exact ⟨0, v5, rfl, Nat.zero_le _, W5.out, BX5.out⟩
            case round =>
              obtain ⟨k, vv, rfl, hk, hwx, hbx⟩ := hrel
              have WX := Lib.hid hwx; have BX := Lib.hid hbx
              clear hwx hbx
              by_cases c4 : k < Bd.length
              · have t4 : decide ((k : Int) < (Bd.length : Int)) = true := decide_eq_true (by omega)
                have t4' : decide (k < Bd.length) = true := decide_eq_true c4
                obtain ⟨qo, hqo⟩ : ∃ q, Bd[k]? = some q := ⟨_, List.getElem?_eq_getElem c4⟩
                have hqm := List.mem_of_getElem? hqo
                obtain ⟨gB, dB, hvB⟩ := RC.out.row.shape (by omega)
                cases hvB
                have RX := RC.out.below BX.out
                have RG := Lib.hid (RX.range k qo hqo)
                have QK := Lib.hid (RC.out.ok qo hqm)
                have QY := Lib.hid (Own.byt (RX.own qo hqm)).1
                have SZq : Hid ((Tryd.prog.info? 99).map (·.size) = some (opv qo).size) := by show _ = _; rw [opv_len QK.out.dn]; exact opSize
                clear RX hqo hqm
                go_wp2_with (first | (with_reducible refine wpList_load_arr (op := ⟨some 108, _, _, _, _, _⟩) rfl 99 (.tmp 107) rfl gB (k * 23) rfl (opv qo) _ RG.out Tryd.underlying99 rfl SZq.out ?_))
                refine (puts_calls V 0 V qo wr vv l2 e4 WX.out (Nat.le_refl _) (by have := LE.out; omega) QK.out QY.out).mono ?_
                rintro r w6 ⟨rfl, v6, hw6, hu6⟩
                rw [wOp_off l2 e4 qo e3.out] at hw6
                have W6 := Lib.hid hw6
                have BX6 := Lib.hid (wu_below hu6 WX.out BX.out HVB.out HVB.out)
                clear hw6 hu6
                go_wp2
                go_roundw
                case rel => exact ⟨k + 1, v6, by go_num, by omega, W6.out, BX6.out⟩
                case measure => simp [intOf]; omega
              · have t4 : decide ((k : Int) < (Bd.length : Int)) = false := decide_eq_false (by omega)
                have t4' : decide (k < Bd.length) = false := decide_eq_false c4
                have DC := Lib.hid (Done_calls V 0 V wr vv l2 e4 WX.out (by have := LE.out; omega))
                rw [show wDone l2 e4 = ([], e4) from if_neg e3.out] at DC
                go_wp2_with fail
                refine DC.out.mono ?_
                rintro r w6 ⟨v6, rfl, ho6, hb6⟩
                obtain ⟨a6, c6, rfl, -, -, -, -⟩ := own_vn ho6
                have BX6 := Lib.hid (BX.out.trans (hb6.mono BX.out.size))
                clear ho6 hb6 DC
                by_cases c5 : l.length ≤ 1048576
                · have t5 : decide ((l.length : Int) ≤ 1048576) = true := decide_eq_true (by omega)
                  have t5' : decide (l.length ≤ 1048576) = true := decide_eq_true c5
                  have ew : e4 = 31 := HWT.out c5
                  have tw : (e4 != 31) = false := by rw [ew]; rfl
                  clear ew
                  go_wp2_with (go_at_call 21; refine (num_calls _ _).mono ?_; rintro r wx ⟨rfl, rfl⟩)
                  go_roundw
                  case rel => exact ⟨i + 1, by go_num, by omega, BX6.out⟩
                  case measure => simp [intOf]; omega
                · have t5 : decide ((l.length : Int) ≤ 1048576) = false := decide_eq_false (by omega)
                  have t5' : decide (l.length ≤ 1048576) = false := decide_eq_false c5
                  go_wp2
                  go_roundw
                  case rel => exact ⟨i + 1, by go_num, by omega, BX6.out⟩
                  case measure => simp [intOf]; omega
        · have t1 : decide ((i : Int) < 2) = false := decide_eq_false (by omega)
          have t1' : decide (i < 2) = false := decide_eq_false c1
          go_wp2
          go_meet
          case rel => exact BR.out
    case rest =>
      have BD := Lib.hid (BC.out.trans (hcut.mono BC.out.size))
      have YD := Lib.hid (YC.out.below hcut)
      clear hcut
      obtain ⟨wD, rfl⟩ : ∃ q, q = wc := ⟨_, rfl⟩
      go_wp2_with fail
      refine (From_calls wD l ab cb YD.out (by omega)).mono ?_
      rintro r wE ⟨rb, RB, aE, cE, rfl, hr, hrb, -, hb⟩
      have NC := RNum_calls rb 0 RB 9 wE l 0 aE cE hr (by omega)
      rw [show rNum l 0 9 = (0, l, 34) from by unfold rNum; rw [if_pos rfl, if_neg (by decide)]] at NC
      have BE := Lib.hid (BD.out.trans (hb.mono BD.out.size))
      have HRB := Lib.hid (Nat.le_trans BD.out.size hrb)
      have NCH := Lib.hid NC
      clear NC hr hb hrb
      go_wp2_with fail
      refine NCH.out.mono ?_
      rintro r wF ⟨rfl, aF, cF, hr, hu⟩
      have RF : Hid (Rf w wF rb RB l) := ⟨⟨aF, cF, hr⟩, HRB.out, hll, BE.out.trans (hu.upd.below (fun k s _ => by rw [show k = rb from s]; exact HRB.out) BE.out.size)⟩
      clear hr hu NCH
      go_wp2_with fail
      refine (REnd34 RF.out).mono ?_
      rintro r wx ⟨rfl, rfl⟩
      go_wp2_with (go_at_call 21; refine (num_calls _ _).mono ?_; rintro r wx ⟨rfl, rfl⟩)
      go_loopw [17] (fun vk wr => ∃ k : Nat, vk = .int .i64 k ∧ k ≤ Bd.length ∧ Rf w wr rb RB l) (fun vk _ => Bd.length - (intOf vk).toNat)
      case atStart => exact ⟨0, rfl, Nat.zero_le _, RF.out⟩
      case round =>
        obtain ⟨k, rfl, hk, hf⟩ := hrel
        have RK := Lib.hid hf; clear hf
        by_cases c4 : k < Bd.length
        · have t4 : decide ((k : Int) < (Bd.length : Int)) = true := decide_eq_true (by omega)
          have t4' : decide (k < Bd.length) = true := decide_eq_true c4
          go_wp2_with fail
          refine (RNum34 1 RK.out).mono ?_
          rintro r w1 ⟨rfl, h1⟩
          have R1 := Lib.hid h1; clear h1
          go_wp2_with fail
          refine (RFlag34 R1.out).mono ?_
          rintro r w2 ⟨rfl, h2⟩
          have R2 := Lib.hid h2; clear h2
          go_wp2_with fail
          refine (RInt34 R2.out).mono ?_
          rintro r w3 ⟨rfl, h3⟩
          have R3 := Lib.hid h3; clear h3
          go_wp2_with fail
          refine (RID34 R3.out).mono ?_
          rintro r w4 ⟨rfl, h4⟩
          have R4 := Lib.hid h4; clear h4
          go_wp2_with fail
          have R5 := Lib.hid (R4.out.below ((Below.refl _ w4).alloc (Nat.le_refl _) (.cells #[.int .u8 0, .int .u8 0, .int .u8 0, .int .u8 0, .int .u8 0, .int .u8 0, .int .u8 0, .int .u8 0, .int .u8 0, .int .u8 0, .int .u8 0, .int .u8 0, .int .u8 0, .int .u8 0, .int .u8 0, .int .u8 0] 97)))
          have Z5 := Lib.hid (heap_alloc_new w4 (.cells #[.int .u8 0, .int .u8 0, .int .u8 0, .int .u8 0, .int .u8 0, .int .u8 0, .int .u8 0, .int .u8 0, .int .u8 0, .int .u8 0, .int .u8 0, .int .u8 0, .int .u8 0, .int .u8 0, .int .u8 0, .int .u8 0] 97))
          have L4 : Hid (rb < w4.heap.size) := by obtain ⟨⟨_, _, hr⟩, -⟩ := R4.out; exact hr.lt
          refine (RBytes34 R5.out).mono ?_
          rintro r w6 ⟨⟨a6, c6, rfl⟩, hu6, h6⟩
          have R6 := Lib.hid h6
          have Z6 := Lib.hid ((hu6.upd.block w4.heap.size (lt_of_block Z5.out) (fun s => by have := L4.out; have s' : w4.heap.size = rb := s; omega)).trans Z5.out)
          clear h6 hu6
          go_wp2_with fail
          refine (RText34 R6.out).mono ?_
          rintro r w7 ⟨rfl, hu7, h7⟩
          have R7 := Lib.hid h7
          have Z7 := Lib.hid ((hu7.upd.block w4.heap.size (lt_of_block Z6.out) (fun s => by have := L4.out; have s' : w4.heap.size = rb := s; omega)).trans Z6.out)
          clear h7 hu7
          have z0 : w7.cell? ⟨w4.heap.size, 0, none⟩ = some (.int .u8 0) := (cell_of_row' Z7.out).trans rfl
          have z1 : w7.cell? ⟨w4.heap.size, 1, none⟩ = some (.int .u8 0) := (cell_of_row' Z7.out).trans rfl
          have z2 : w7.cell? ⟨w4.heap.size, 2, none⟩ = some (.int .u8 0) := (cell_of_row' Z7.out).trans rfl
          have z3 : w7.cell? ⟨w4.heap.size, 3, none⟩ = some (.int .u8 0) := (cell_of_row' Z7.out).trans rfl
          have z4 : w7.cell? ⟨w4.heap.size, 4, none⟩ = some (.int .u8 0) := (cell_of_row' Z7.out).trans rfl
          have z5 : w7.cell? ⟨w4.heap.size, 5, none⟩ = some (.int .u8 0) := (cell_of_row' Z7.out).trans rfl
          have z6 : w7.cell? ⟨w4.heap.size, 6, none⟩ = some (.int .u8 0) := (cell_of_row' Z7.out).trans rfl
          have z7 : w7.cell? ⟨w4.heap.size, 7, none⟩ = some (.int .u8 0) := (cell_of_row' Z7.out).trans rfl
          have z8 : w7.cell? ⟨w4.heap.size, 8, none⟩ = some (.int .u8 0) := (cell_of_row' Z7.out).trans rfl
          have z9 : w7.cell? ⟨w4.heap.size, 9, none⟩ = some (.int .u8 0) := (cell_of_row' Z7.out).trans rfl
          have z10 : w7.cell? ⟨w4.heap.size, 10, none⟩ = some (.int .u8 0) := (cell_of_row' Z7.out).trans rfl
          have z11 : w7.cell? ⟨w4.heap.size, 11, none⟩ = some (.int .u8 0) := (cell_of_row' Z7.out).trans rfl
          have z12 : w7.cell? ⟨w4.heap.size, 12, none⟩ = some (.int .u8 0) := (cell_of_row' Z7.out).trans rfl
          have z13 : w7.cell? ⟨w4.heap.size, 13, none⟩ = some (.int .u8 0) := (cell_of_row' Z7.out).trans rfl
          have z14 : w7.cell? ⟨w4.heap.size, 14, none⟩ = some (.int .u8 0) := (cell_of_row' Z7.out).trans rfl
          have z15 : w7.cell? ⟨w4.heap.size, 15, none⟩ = some (.int .u8 0) := (cell_of_row' Z7.out).trans rfl
          have eqz := eqZid
          go_wp2_with fail
          clear eqz
          refine (RNum34 1 R7.out).mono ?_
          rintro r w8 ⟨rfl, h8⟩
          have R8 := Lib.hid h8; clear h8
          go_wp2_with fail
          refine (RLeft34 R8.out).mono ?_
          rintro r wx ⟨rfl, rfl⟩
          go_wp2_with fail
          refine (REnd34 R8.out).mono ?_
          rintro r wx ⟨rfl, rfl⟩
          go_wp2_with (go_at_call 21; refine (num_calls _ _).mono ?_; rintro r wx ⟨rfl, rfl⟩)
          go_roundw
          case rel => exact ⟨k + 1, by go_num, by omega, R8.out⟩
          case measure => simp [intOf]; omega
        · have t4 : decide ((k : Int) < (Bd.length : Int)) = false := decide_eq_false (by omega)
          have t4' : decide (k < Bd.length) = false := decide_eq_false c4
          go_wp2
          go_ret
          exact ⟨rfl, RK.out.2.2.2⟩
  case first =>
    go_wp2
    go_loopw [4, 5, 6] (fun vb va vi wr => ∃ (i al : Nat) (l : List UInt8) (vw v : Value) (Bd : List OpD), vb = v ∧ va = .int .i64 al ∧ vi = .int .i64 i ∧ i ≤ L.length ∧ i ≤ 300 ∧ al ≤ 4194304 ∧ l.length ≤ al + 16 * i ∧ Bd.length ≤ i ∧ Wri wr w.heap.size 0 w.heap.size l 0 vw ∧ OpRow wr w.heap.size v Bd ∧ v.ownBlock ≠ some w.heap.size ∧ (Bd = [] → v = .slice none 0 0) ∧ Below w.heap.size w wr) (fun _ _ vi _ => L.length - (intOf vi).toNat)
    case atStart => exact ⟨0, 0, [], .slice none 0 0, _, [], rfl, rfl, rfl, Nat.zero_le _, Nat.zero_le _, Nat.zero_le _, Nat.zero_le _, Nat.zero_le _, W0.out, OpRow.nil _ _, (fun h => by cases h), (fun _ => rfl), B0.out⟩
    case round =>
      obtain ⟨i, al, l, vw, v, Bd, rfl, rfl, rfl, hi, hi3, hal, hll, hbd, hw, hr, hnp, hnil, hbw⟩ := hrel
      have NPR := Lib.hid hnp; clear hnp
      have HW := Lib.hid hw; have HR := Lib.hid hr; have NIL := Lib.hid hnil; have BW := Lib.hid hbw
      clear hw hr hnil hbw
      have ST : Hid (l.length ≤ 5000000 ∧ Bd.length ≤ 300) := by show _ ∧ _; omega
      by_cases c1 : i < L.length
      · have t1 : decide ((i : Int) < (L.length : Int)) = true := decide_eq_true (by omega)
        have t1' : decide (i < L.length) = true := decide_eq_true c1
        by_cases c3 : i < 300
        · have t3 : decide ((i : Int) < 300) = true := decide_eq_true (by omega)
          have t3' : decide (i < 300) = true := decide_eq_true c3
          obtain ⟨o, ho⟩ : ∃ o, L[i]? = some o := ⟨_, List.getElem?_eq_getElem c1⟩
          have hmem := List.mem_of_getElem? ho
          obtain ⟨b, off, rfl, hrg⟩ := H.out.rng i o ho
          have hok := H.out.ok o hmem
          have hby := H.out.byt o hmem
          have hcl : 0 < (opv o).toList.length := by rw [Array.length_toList, opv_len hok.dn]; decide
          have hbl : b < w.heap.size := rangeAt_lt hrg hcl
          have RW : Hid (wr.rangeAt b (off + i * 23) (opv o).toList) := fun j u hj => (BW.out.cell (p := ⟨b, off + i * 23 + j, none⟩) hbl).trans (hrg j u hj)
          have q6 : wr.cell? ⟨b, off + i * 23 + 6, none⟩ = some (.slice o.ba o.b.length o.bc) := (BW.out.cell (p := ⟨b, off + i * 23 + 6, none⟩) hbl).trans (range6 hrg)
          have hbn := hok.bn
          have OK := Lib.hid hok; have HBY := Lib.hid hby
          clear ho hmem hrg hok hby hcl
          by_cases c2 : 4194304 < al + o.b.length
          · have t2 : decide ((4194304 : Int) < (al : Int) + (o.b.length : Int)) = true := decide_eq_true (by omega)
            have t2' : decide (4194304 < al + o.b.length) = true := decide_eq_true c2
            go_wp2
            go_meet
            case rel => exact ⟨l, vw, Bd, ST.out.1, ST.out.2, HW.out, HR.out, BW.out⟩
          · have t2 : decide ((4194304 : Int) < (al : Int) + (o.b.length : Int)) = false := decide_eq_false (by omega)
            have t2' : decide (4194304 < al + o.b.length) = false := decide_eq_false c2
            have SZ1 : Hid ((Tryd.prog.info? 99).map (·.size) = some (opv o).size) := by show _ = _; rw [opv_len OK.out.dn]; exact opSize
            have SZ2 : Hid ((#[.int .i64 0, .int .i64 0, .int .u64 0, .int .i64 0, .int .i64 0, .bool false, .slice none 0 0, .int .u8 0, .int .u8 0, .int .u8 0, .int .u8 0, .int .u8 0, .int .u8 0, .int .u8 0, .int .u8 0, .int .u8 0, .int .u8 0, .int .u8 0, .int .u8 0, .int .u8 0, .int .u8 0, .int .u8 0, .int .u8 0] : Array Value).size = (opv o).size) := by show _ = _; rw [opv_len OK.out.dn]; rfl
            have HA := Lib.hid (heap_alloc_new wr (.cells (#[.int .i64 0, .int .i64 0, .int .u64 0, .int .i64 0, .int .i64 0, .bool false, .slice none 0 0, .int .u8 0, .int .u8 0, .int .u8 0, .int .u8 0, .int .u8 0, .int .u8 0, .int .u8 0, .int .u8 0, .int .u8 0, .int .u8 0, .int .u8 0, .int .u8 0, .int .u8 0, .int .u8 0, .int .u8 0, .int .u8 0] : Array Value) 99))
            have SW := Lib.hid BW.out.size
            have q6n := Lib.hid (fun (w2 : World) (hu : Upd (fun k => k = wr.heap.size) (wr.alloc (.cells (#[.int .i64 0, .int .i64 0, .int .u64 0, .int .i64 0, .int .i64 0, .bool false, .slice none 0 0, .int .u8 0, .int .u8 0, .int .u8 0, .int .u8 0, .int .u8 0, .int .u8 0, .int .u8 0, .int .u8 0, .int .u8 0, .int .u8 0, .int .u8 0, .int .u8 0, .int .u8 0, .int .u8 0, .int .u8 0, .int .u8 0] : Array Value) 99)) w2) => show w2.cell? ⟨b, off + i * 23 + 6, none⟩ = some (.slice o.ba o.b.length o.bc) from by
              have hs := SW.out
              have hU : Upd (fun k => k = wr.heap.size) wr w2 := ((Upd.refl (fun k => k = wr.heap.size) wr).alloc _).same hu
              exact hU.cell' q6 (fun e => by have e' : b = wr.heap.size := e; omega))
            go_wp2_with (first | (with_reducible refine wpList_load_arr (op := ⟨some 44, _, _, _, _, _⟩) rfl 99 (.tmp 43) rfl b (off + i * 23) rfl (opv o) _ RW.out Tryd.underlying99 rfl SZ1.out ?_) | (with_reducible refine wpList_store_arr (op := ⟨none, .store 99 (.tmp 7) (.tmp 44), _, _, _, _⟩) rfl 99 (.tmp 7) (.tmp 44) rfl wr.heap.size (opv o) (#[.int .i64 0, .int .i64 0, .int .u64 0, .int .i64 0, .int .i64 0, .bool false, .slice none 0 0, .int .u8 0, .int .u8 0, .int .u8 0, .int .u8 0, .int .u8 0, .int .u8 0, .int .u8 0, .int .u8 0, .int .u8 0, .int .u8 0, .int .u8 0, .int .u8 0, .int .u8 0, .int .u8 0, .int .u8 0, .int .u8 0] : Array Value) 99 rfl rfl HA.out SZ2.out SZ1.out (opv_one o) ?_; intro w2 hk2 hu2; have q6b := q6n.out w2 hu2))
            have bel2 : Below wr.heap.size wr w2 := (((Upd.refl (fun k => k = wr.heap.size) wr).alloc _).same hu2).below (fun k s _ => Nat.le_of_eq s.symm) (Nat.le_refl _)
            have HK2 := Lib.hid hk2; have BL2 := Lib.hid bel2
            clear q6 q6b hu2 hk2 bel2 t1 t1' t2 t2' t3 t3'
            refine (Copy_calls o.ba o.bc o.b w2 (HBY.out.below (BW.out.trans (BL2.out.mono BW.out.size))) (by omega)).mono ?_
            rintro r w3 ⟨v3, rfl, ho3, hb3⟩
            obtain ⟨a3, c3, rfl, -, hc3, -, ha3⟩ := own_vn ho3
            have q2 : wr.heap.size < w2.heap.size := lt_of_block HK2.out
            have hk3 := (hb3.block wr.heap.size q2).trans HK2.out
            have HK3 := Lib.hid hk3
            have c6 : w3.cell? ⟨wr.heap.size, 6, none⟩ = some (.slice o.ba o.b.length o.bc) := by rw [cell_of_row' hk3, opv_lo o 6 (by decide)]; rfl
            have f6 : w3.frozen? ⟨wr.heap.size, 6, none⟩ = false := frozen_of_row hk3 6
            have hk4 := set_blk (j := 6) (.slice a3 o.b.length c3) hk3
            rw [opv_set6] at hk4
            have n3 : (Value.slice a3 o.b.length c3).ownBlock ≠ some wr.heap.size := fun e => by have := (ho3.lt _ e).1; omega
            have sw := BW.out.size
            have OE4 : Hid (Own (w3.setCell ⟨wr.heap.size, 6, none⟩ (.slice a3 o.b.length c3)) w.heap.size 5 1 (.slice a3 o.b.length c3) o.b.length (bys o.b)) := (ho3.mono (by omega)).setCell_other n3 _
            have B4 : Hid (Below wr.heap.size wr (w3.setCell ⟨wr.heap.size, 6, none⟩ (.slice a3 o.b.length c3))) := (BL2.out.trans (hb3.mono (by omega))).setCell (p := ⟨wr.heap.size, 6, none⟩) (Nat.le_refl _) _
            have OG := Lib.hid (show ∀ k, (Value.slice a3 o.b.length c3).ownBlock = some k → wr.heap.size ≤ k from fun k hk => by have := (ho3.lt _ hk).1; omega)
            have HK4 := Lib.hid hk4
            have OK' : Hid (OpOk { o with ba := a3, bc := c3 }) := ⟨OK.out.dn, OK.out.nn, OK.out.wn, OK.out.bn, hc3⟩
            have pk : Hid (∀ q : OpD, q = { o with ba := a3, bc := c3 } → q.ba = a3 ∧ q.bc = c3 ∧ q.b = o.b) := fun q e => by subst e; exact ⟨rfl, rfl, rfl⟩
            clear ho3 hb3 ha3 hk3 hk4 n3 hc3
            obtain ⟨o', ho'⟩ : ∃ q, ({ o with ba := a3, bc := c3 } : OpD) = q := ⟨_, rfl⟩
            rw [ho'] at HK4 OK'
            have HO' := Lib.hid ho'
            obtain ⟨pa, pc, pb⟩ := pk.out o' ho'.symm
            have PA := Lib.hid pa; have PCC := Lib.hid pc; have PBB := Lib.hid pb
            clear ho' pa pc pb pk
            have SZ : Hid ((Tryd.prog.info? 99).map (·.size) = some (opv o').size) := by show _ = _; rw [opv_len OK'.out.dn]; exact opSize
            have SB : Hid (((Tryd.prog.info? 99).bind fun i => i.zero.map fun z => (i.size, z.cells.size)) = some ((opv o').size, (opv o').size)) := by show _ = _; rw [opv_len OK'.out.dn]; exact opBind
            have S0 : Hid (0 < (opv o').size) := by show _ < _; rw [opv_len OK'.out.dn]; decide
            have S9 : Hid ((opv o').size ≤ 1000) := by show _ ≤ _; rw [opv_len OK'.out.dn]; decide
            obtain ⟨w4, hw4⟩ : ∃ q, w3.setCell ⟨wr.heap.size, 6, none⟩ (.slice a3 o.b.length c3) = q := ⟨_, rfl⟩
            rw [hw4] at HK4 OE4 B4
            have OE4' : Hid (Own w4 w.heap.size 5 1 (.slice o'.ba o'.b.length o'.bc) o'.b.length (bys o'.b)) := by show Own _ _ _ _ _ _ _; rw [PA.out, PCC.out, PBB.out]; exact OE4.out
            have RQ4 := Lib.hid (range_block HK4.out)
            have WE4 := Lib.hid (HW.out.upd (Upd.ofBelow B4.out) (fun s => s) (fun _ _ s => s))
            have R4 := Lib.hid (HR.out.below B4.out)
            have BE4 := Lib.hid (BW.out.trans (B4.out.mono BW.out.size))
            have NP4 := Lib.hid NPR.out
            have VL := Lib.hid (show ∀ k, vw.ownBlock = some k → k < wr.heap.size from fun k hk => (HW.out.own.lt k hk).2)
            have PL := Lib.hid HW.out.lt
            clear OE4
            have OE4 := OE4'; clear OE4'
            by_cases hbd0 : Bd = []
            · have hv := NIL.out hbd0
              subst hbd0
              subst hv
              go_wp2_with (first | (with_reducible refine wpList_load_arr_g (op := ⟨some 57, _, _, _, _, _⟩) rfl 99 (.tmp 7) rfl wr.heap.size 0 rfl (opv o') _ RQ4.out Tryd.underlying99 rfl SZ.out ?_))
              refine (puts_calls w.heap.size 0 w.heap.size o' w4 vw l 0 WE4.out (Nat.le_refl _) (by omega) OK'.out (Own.byt OE4.out).1).mono ?_
              clear hw4
              rintro r w5 ⟨rfl, v5, hw5, hu5⟩
              have hs4 := B4.out.size
              have SU : ∀ k, (k = w.heap.size ∨ vw.ownBlock = some k) → k < wr.heap.size := by
                rintro k (e | e)
                · rw [e]; exact PL.out
                · exact VL.out k e
              have SL : ∀ k, (k = w.heap.size ∨ vw.ownBlock = some k) → w.heap.size ≤ k := by
                rintro k (e | e)
                · exact Nat.le_of_eq e.symm
                · exact (HW.out.own.lt k e).1
              have BE5 := Lib.hid (BE4.out.trans (hu5.upd.below (fun k s _ => SL k s) BE4.out.size))
              have RQ5 := Lib.hid (rangeAt_upd RQ4.out hu5.upd (fun s => by have := SU _ s; omega))
              have OE5 := Lib.hid (OE4.out.upd hu5.upd (fun k hk s => by have := SU _ s; rw [PA.out, PCC.out, PBB.out] at hk; have := OG.out k hk; omega))
              cases hp : pOk o' with
              | true =>
                obtain ⟨l', hl1, hl2⟩ := wOp_on l o' OK'.out.dn
                rw [hl1] at hw5
                have WE5 := Lib.hid hw5
                have hl3 : l'.length ≤ l.length + o.b.length + 16 := by rw [PBB.out] at hl2; exact hl2
                clear hl1 hl2 hw5 hu5 SU SL hp hs4
                go_wp2
                go_roundw
                case rel => exact ⟨i + 1, al + o.b.length, l', v5, .slice none 0 0, [], rfl, by go_num, by go_num, by omega, by omega, by omega, by omega, Nat.zero_le _, WE5.out, OpRow.nil _ _, (fun h => by cases h), (fun _ => rfl), BE5.out⟩
                case measure => simp [intOf]; omega
              | false =>
                have hq : wOp l 0 o' = (l, 0) := if_pos hp
                rw [hq] at hw5
                have WE5 := Lib.hid hw5
                have R5 := Lib.hid (OpRow.nil w5 w.heap.size)
                have NP5 : Hid ((Value.slice none 0 0).ownBlock ≠ some w.heap.size) := fun h => by cases h
                clear hq hw5 hu5 SU SL hp hs4
                have M1 : Hid (0 + 1 ≤ maxLen) := by show _ ≤ _; unfold maxLen; omega
                have M2 : Hid ((0 + 1) * 88 ≤ 140737488355328) := by show _ ≤ _; omega
                have BA : Hid (w.heap.size ≤ (w5.alloc (.cells (opv o') 99)).heap.size) := by show _ ≤ _; have := BE5.out.size; rw [World.size_alloc]; omega
                have SR := Lib.hid (Src_op OK'.out.dn (heap_alloc_new w5 (.cells (opv o') 99)))
                go_wp2_with (first | (with_reducible refine wpList_load_arr (op := ⟨some 61, _, _, _, _, _⟩) rfl 99 (.tmp 7) rfl wr.heap.size 0 rfl (opv o') _ RQ5.out Tryd.underlying99 rfl SZ.out ?_) | (with_reducible refine wpList_buildOne (o := ⟨some 62, _, _, _, _, _⟩) rfl 94 99 (.tmp 61) rfl (opv o') rfl Tryd.underlying94 SB.out S0.out S9.out ?_) | (at_builtin; refine wpList_append rfl (.tmp 60) (.tmp 62) 94 94 rfl w.heap.size 99 zop 23 88 Tryd.underlying94 infoOpZ rfl (n := 0) (xs := flat ([] : List OpD)) (R5.out.row.alloc _) rfl (xv := .slice (some ⟨w5.heap.size, 0, none⟩) 1 1) (m := 1) (news := (opv o').toList) SR.out rfl M1.out M2.out BA.out ?_))
                intro v8 w8 ho8 hg8 hn8 hv8
                try clear hw4
                have R8 := Lib.hid (R5.out.push o' OK'.out OE5.out ho8 hg8)
                have W8 := Lib.hid (WE5.out.upd (((Upd.refl (fun k => (.slice none 0 0 : Value).ownBlock = some k) w5).alloc _).grown hg8 (fun _ h _ => h)) (fun s => NP5.out s) (fun k hk s => Own.ne_type R5.out.row WE5.out.own (by decide) k s hk))
                have Bx8 := Lib.hid ((BE5.out.alloc BE5.out.size _).grown hg8 BA.out (fun k hk => (R5.out.row.lt k hk).1))
                have NP8 : Hid (v8.ownBlock ≠ some w.heap.size) := by
                  show _ ≠ _
                  have hs := BE5.out.size
                  have hlt := WE5.out.lt
                  rcases hv8 with e | e
                  · rw [e]; exact NP5.out
                  · rw [e]; intro h; injection h with h; first | omega | (simp at h; omega)
                clear ho8 hg8 hn8 hv8
                go_wp2
                go_roundw
                case rel => exact ⟨i + 1, al + o.b.length, l, v5, v8, ([] : List OpD) ++ [o'], rfl, by go_num, by go_num, by omega, by omega, by omega, by omega, by rw [List.length_append, List.length_singleton]; first | omega | (simp; omega), W8.out, R8.out, NP8.out, (fun h => by simp at h), Bx8.out⟩
                case measure => simp [intOf]; omega
            · have tb : ((Bd.length : Int) == 0) = false := by rw [beq_eq_false_iff_ne]; intro h; exact hbd0 (List.eq_nil_of_length_eq_zero (by omega))
              have tb0 : ¬ Bd.length = 0 := fun h => hbd0 (List.eq_nil_of_length_eq_zero h)
              obtain ⟨ab, cb, hvv, -, -, -⟩ := R4.out.row.shape'
              subst hvv
              clear hbd0
              have M1 : Hid (Bd.length + 1 ≤ maxLen) := by show _ ≤ _; unfold maxLen; omega
              have M2 : Hid ((Bd.length + 1) * 88 ≤ 140737488355328) := by show _ ≤ _; omega
              have BA : Hid (w.heap.size ≤ (w4.alloc (.cells (opv o') 99)).heap.size) := by show _ ≤ _; have := BE4.out.size; rw [World.size_alloc]; omega
              have SR := Lib.hid (Src_op OK'.out.dn (heap_alloc_new w4 (.cells (opv o') 99)))
              go_wp2_with (first | (with_reducible refine wpList_load_arr (op := ⟨some 61, _, _, _, _, _⟩) rfl 99 (.tmp 7) rfl wr.heap.size 0 rfl (opv o') _ RQ4.out Tryd.underlying99 rfl SZ.out ?_) | (with_reducible refine wpList_buildOne (o := ⟨some 62, _, _, _, _, _⟩) rfl 94 99 (.tmp 61) rfl (opv o') rfl Tryd.underlying94 SB.out S0.out S9.out ?_) | (at_builtin; refine wpList_append rfl (.tmp 60) (.tmp 62) 94 94 rfl w.heap.size 99 zop 23 88 Tryd.underlying94 infoOpZ rfl (n := Bd.length) (xs := flat Bd) (R4.out.row.alloc _) rfl (xv := .slice (some ⟨w4.heap.size, 0, none⟩) 1 1) (m := 1) (news := (opv o').toList) SR.out rfl M1.out M2.out BA.out ?_))
              intro v8 w8 ho8 hg8 hn8 hv8
              try clear hw4
              have R8 := Lib.hid (R4.out.push o' OK'.out OE4.out ho8 hg8)
              have W8 := Lib.hid (WE4.out.upd (((Upd.refl (fun k => (.slice ab Bd.length cb : Value).ownBlock = some k) w4).alloc _).grown hg8 (fun _ h _ => h)) (fun s => NP4.out s) (fun k hk s => Own.ne_type R4.out.row WE4.out.own (by decide) k s hk))
              have Bx8 := Lib.hid ((BE4.out.alloc BE4.out.size _).grown hg8 BA.out (fun k hk => (R4.out.row.lt k hk).1))
              have NP8 : Hid (v8.ownBlock ≠ some w.heap.size) := by
                show _ ≠ _
                have hs := BE4.out.size
                have hlt := WE4.out.lt
                rcases hv8 with e | e
                · rw [e]; exact NP4.out
                · rw [e]; intro h; injection h with h; first | omega | (simp at h; omega)
              clear ho8 hg8 hn8 hv8
              go_wp2
              go_roundw
              case rel => exact ⟨i + 1, al + o.b.length, l, vw, v8, Bd ++ [o'], rfl, by go_num, by go_num, by omega, by omega, by omega, by omega, by rw [List.length_append, List.length_singleton]; first | omega | (simp; omega), W8.out, R8.out, NP8.out, (fun h => by simp at h), Bx8.out⟩
              case measure => simp [intOf]; omega
        · have t3 : decide ((i : Int) < 300) = false := decide_eq_false (by omega)
          have t3' : decide (i < 300) = false := decide_eq_false c3
          go_wp2
          go_meet
          case rel => exact ⟨l, vw, Bd, ST.out.1, ST.out.2, HW.out, HR.out, BW.out⟩
      · have t1 : decide ((i : Int) < (L.length : Int)) = false := decide_eq_false (by omega)
        have t1' : decide (i < L.length) = false := decide_eq_false c1
        go_wp2
        go_meet
        case rel => exact ⟨l, vw, Bd, ST.out.1, ST.out.2, HW.out, HR.out, BW.out⟩
end Go.Proofs.YtjiciklnhcmfaaaDoor
