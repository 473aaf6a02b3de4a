/- FrameRow's walk: frames one behind the other are taken one by one. -/
import Derived.Test.YtjiciklnhcmfaaaDoorRd2
namespace Go.Proofs.YtjiciklnhcmfaaaDoor
set_option linter.unusedVariables false
set_option linter.unusedSimpArgs false
open Go.RowKit
/-- Frames one behind the other. -/
def fl (l : List (List UInt8)) : List UInt8 := l.flatMap frm
theorem fl_snoc (l : List (List UInt8)) (x : List UInt8) : fl (l ++ [x]) = fl l ++ frm x := by simp [fl]
/-- The slices that stand in a row, so many. -/
def svs (xss : List (List UInt8)) (Af : Nat → Option Addr) (Cf : Nat → Nat) (n : Nat) : List Value := (List.range n).map fun j => .slice (Af j) (xss.getD j []).length (Cf j)
theorem svs_length (xss : List (List UInt8)) (Af : Nat → Option Addr) (Cf : Nat → Nat) (n : Nat) : (svs xss Af Cf n).length = n := by simp [svs]
theorem svs_succ (xss : List (List UInt8)) (Af : Nat → Option Addr) (Cf : Nat → Nat) (n : Nat) : svs xss Af Cf (n + 1) = svs xss Af Cf n ++ [.slice (Af n) (xss.getD n []).length (Cf n)] := by simp [svs, List.range_succ]
theorem svs_get {xss : List (List UInt8)} {Af : Nat → Option Addr} {Cf : Nat → Nat} {n j : Nat} (h : j < n) : (svs xss Af Cf n)[j]? = some (.slice (Af j) (xss.getD j []).length (Cf j)) := by simp [svs, h]
theorem getD_lt {xss : List (List UInt8)} {i : Nat} (h : i < xss.length) : xss.getD i [] = xss[i] := by simp [List.getD, h]

theorem ownBlock_slice (a : Option Addr) (n c : Nat) : (Value.slice a n c).ownBlock = a.map (·.block) := by cases a <;> rfl
/-- What the first loop has laid. -/
structure FR1 (w0 w : World) (xss : List (List UInt8)) (Af : Nat → Option Addr) (Cf : Nat → Nat) (n : Nat) (vb vk : Value) : Prop where
  le : n ≤ xss.length
  b : Own w w0.heap.size 5 1 vb (fl (xss.take n)).length (bys (fl (xss.take n)))
  k : Own w w0.heap.size 55 1 vk n (svs xss Af Cf n)
  bel : Below w0.heap.size w0 w
  many : n ≤ 100
  room : (fl (xss.take n)).length ≤ 1100000
  each : ∀ i, i < n → (xss.getD i []).length ≤ 1048576

set_option maxRecDepth 100000 in
set_option maxHeartbeats 4000000 in
theorem FrameRow_calls (w : World) (a : Option Addr) (cap : Nat) (xss : List (List UInt8)) (Af : Nat → Option Addr) (Cf : Nat → Nat) (h : Rd2 w a xss Af Cf) (hn : xss.length ≤ 140737488355328) (ht : Tab w) (hg : 0 < w.heap.size) :
    Calls Tryd.prog 6 #[.slice a xss.length cap] w fun r w' => r = .returned (.bool true) ∧ Below w.heap.size w w' := by
  have H := Lib.hid h; clear h
  have HT := Lib.hid ht; clear ht
  have HG := Lib.hid hg; clear hg
  have S0 : Hid (FR1 w w xss Af Cf 0 (.slice none 0 0) (.slice none 0 0)) := ⟨Nat.zero_le _, by rw [List.take_zero]; exact Own.nil _ _ _ _, Own.nil _ _ _ _, Below.refl _ _, by decide, by rw [List.take_zero]; exact Nat.zero_le _, fun i hi => absurd hi (Nat.not_lt_zero _)⟩
  go_enter Tryd.func6, Tryd.ntmps6
  go_upto_block 0 with (fail)
  go_cut [3, 4] (fun vb vk wr => ∃ n, FR1 w wr xss Af Cf n vb vk)
  case first =>
    go_wp2
    go_loopw [3, 4, 5] (fun vb vk vi wr => ∃ n : Nat, vi = .int .i64 n ∧ FR1 w wr xss Af Cf n vb vk) (fun _ _ vi _ => xss.length - (intOf vi).toNat)
    case atStart => exact ⟨0, rfl, S0.out⟩
    case round =>
      obtain ⟨n, rfl, hf⟩ := hrel
      have HF := Lib.hid hf
      have hle := hf.le
      have hroom := hf.room
      obtain ⟨ab, cb, rfl, _, hcb, hyb, _⟩ := own_val hf.b
      obtain ⟨ak, ck, rfl, hck, _, _⟩ := hf.k.shape'
      have YB := Lib.hid hyb
      obtain ⟨L, hL⟩ : ∃ L, fl (xss.take n) = L := ⟨_, rfl⟩
      rw [hL] at hcb hroom ⊢
      have HL := Lib.hid hL
      clear hf hyb hL
      by_cases c1 : n < xss.length
      · have t1 : decide ((n : Int) < (xss.length : Int)) = true := decide_eq_true (by omega)
        have t1' : decide (n < xss.length) = true := decide_eq_true c1
        by_cases c2 : n < 100
        · have t2 : decide ((n : Int) < 100) = true := decide_eq_true (by omega)
          have t2' : decide (n < 100) = true := decide_eq_true c2
          have R := Lib.hid (H.out.below HF.out.bel)
          obtain ⟨ba, o, rfl, hcell⟩ := R.out.cell n c1
          have hby := R.out.byt n c1
          have hsh := R.out.short n c1
          obtain ⟨x, hx⟩ : ∃ x, xss[n] = x := ⟨_, rfl⟩
          rw [hx] at hcell hby hsh
          have HX := Lib.hid hx; have YX := Lib.hid hby; clear hx hby
          by_cases c3 : L.length + x.length < 1048576
          · have t3 : decide ((L.length : Int) + (x.length : Int) < 1048576) = true := decide_eq_true (by omega)
            have t3' : decide (L.length + x.length < 1048576) = true := decide_eq_true c3
            go_wp2_with fail
            refine (Copy_calls (Af n) (Cf n) x _ YX.out hsh).mono ?_
            rintro r w1 ⟨v1, rfl, ho1, hb1⟩
            obtain ⟨a1, c1', rfl, _, hcc1, hy1, _⟩ := own_val ho1
            have Bel1 := Lib.hid (HF.out.bel.trans (hb1.mono HF.out.bel.size))
            have B1 := Lib.hid hb1
            have Y1 := Lib.hid hy1
            clear ho1 hb1 hy1
            go_wp2_with fail
            refine (Frame_calls w1 x a1 c1' Y1.out (HT.out.below Bel1.out) (Nat.lt_of_lt_of_le HG.out Bel1.out.size) (by omega)).mono ?_
            obtain ⟨fx, hfx⟩ : ∃ l, frm x = l := ⟨_, rfl⟩
            have lfx : fx.length = x.length + 13 := by rw [← hfx, frm_length]
            rw [show FrameR x = (frm x, 0) from if_pos (by omega), hfx]
            have HFX := Lib.hid hfx; have LFX := Lib.hid lfx; clear hfx lfx
            rintro r w2 ⟨v2, rfl, ho2, hb2⟩
            obtain ⟨a2, c2', rfl, _, hcc2, hy2, _⟩ := own_val ho2
            have B2 := Lib.hid (B1.out.trans (hb2.mono B1.out.size))
            have Y2 := Lib.hid hy2
            have OB2 := Lib.hid (HF.out.b.below B2.out)
            have OK2 := Lib.hid (HF.out.k.below B2.out)
            have Bel2 := Lib.hid (HF.out.bel.trans (B2.out.mono HF.out.bel.size))
            clear ho2 hb2 hy2
            have hcell2 := (B2.out.cell (p := ⟨ba, o + n, none⟩) (World.block_lt_of_cell? _ _ hcell)).trans hcell
            clear hcell
            go_wp2_with fail
            refine (num_calls 0 w2).mono ?_
            rintro r wx ⟨rfl, rfl⟩
            have M1 : Hid (L.length + fx.length ≤ maxLen) := by show _ ≤ _; have := LFX.out; unfold maxLen; omega
            have M2 : Hid ((L.length + fx.length) * 1 ≤ 140737488355328) := by show _ ≤ _; have := LFX.out; omega
            have M3 := Lib.hid Bel2.out.size
            have OB : Hid (Own w2 w.heap.size 5 1 (.slice ab L.length cb) L.length (bys L)) := by have h := OB2.out; rw [HL.out] at h; exact h
            go_wp2_with (at_builtin; refine wpList_append rfl (.tmp 45) (.tmp 46) 55 55 rfl w.heap.size 5 (.int .u8 0) 1 1 Tryd.underlying55 infoByte rfl (v := .slice ab L.length cb) (n := L.length) (xs := bys L) OB.out rfl (xv := .slice a2 fx.length c2') (m := fx.length) (news := bys fx) (Src_byt Tryd.underlying55 Y2.out (fun _ => .inr trivial)) rfl M1.out M2.out M3.out ?_)
            intro v3 w3 ho3 hg3 hn3 hv3
            have U3 : Hid (Upd (fun k => (Value.slice ab L.length cb).ownBlock = some k) w2 w3) := (Upd.refl _ w2).grown hg3 (fun _ h _ => h)
            have Bel3 : Hid (Below w.heap.size w w3) := Bel2.out.grown hg3 M3.out (fun k hk => (OB.out.lt k hk).1)
            have O3 : Hid (Own w3 w.heap.size 5 1 v3 (L ++ fx).length (bys (L ++ fx))) := by show Own _ _ _ _ _ _ _; rw [List.length_append, bys_append]; exact ho3
            have K3 : Hid (Own w3 w.heap.size 55 1 (.slice ak n ck) n (svs xss Af Cf n)) := OK2.out.upd U3.out (fun k hk hk2 => OB.out.ne_type OK2.out (by decide) k hk2 hk)
            have hlt0 := World.block_lt_of_cell? _ _ hcell2
            have hba : ba < w.heap.size := by
              obtain ⟨b', o', e, hc⟩ := H.out.cell n c1
              cases e
              exact World.block_lt_of_cell? _ _ hc
            have hcell3 := (Bel3.out.cell (p := ⟨ba, o + n, none⟩) hba).trans ((Bel2.out.cell (p := ⟨ba, o + n, none⟩) hba).symm.trans hcell2)
            obtain ⟨a3, c3', rfl, _, hcc3, _, _⟩ := own_val O3.out
            have lLf : Hid ((L ++ fx).length = L.length + fx.length) := List.length_append
            have hba3 : ba < w3.heap.size := Nat.lt_of_lt_of_le hba Bel3.out.size
            have N1 : Hid (n + 1 ≤ maxLen) := by show _ ≤ _; unfold maxLen; omega
            have N2 : Hid ((n + 1) * 24 ≤ 140737488355328) := by show _ ≤ _; omega
            have N3 : Hid (w.heap.size ≤ (w3.alloc (.cells #[.slice (Af n) x.length (Cf n)] 55)).heap.size) := by show _ ≤ _; have := Bel3.out.size; rw [World.size_alloc]; omega
            rw [lLf.out]
            clear ho3 hg3 hn3 hv3 hcell2 hlt0 hcc3
            go_wp2_with (at_builtin; refine wpList_append rfl (.tmp 48) (.tmp 53) 22 22 rfl w.heap.size 55 (.slice none 0 0) 1 24 Tryd.underlying22 infoRow rfl (v := .slice ak n ck) (n := n) (xs := svs xss Af Cf n) (K3.out.alloc _) rfl (xv := .slice (some ⟨w3.heap.size, 0, none⟩) 1 1) (m := 1) (news := [.slice (Af n) x.length (Cf n)]) (Src_new Tryd.underlying22 (heap_alloc_new w3 _) rfl) rfl N1.out N2.out N3.out ?_)
            intro v4 w4 ho4 hg4 hn4 hv4
            have U4 : Hid (Upd (fun k => (Value.slice ak n ck).ownBlock = some k) w3 w4) := ((Upd.refl _ w3).alloc _).grown hg4 (fun _ h _ => (ownBlock_slice _ _ _).trans h)
            have Bel4 : Hid (Below w.heap.size w w4) := (Bel3.out.alloc Bel3.out.size _).grown hg4 N3.out (fun k hk => (K3.out.lt k ((ownBlock_slice _ _ _).trans hk)).1)
            have O4 : Hid (Own w4 w.heap.size 5 1 (.slice a3 (L ++ fx).length c3') (L ++ fx).length (bys (L ++ fx))) := O3.out.upd U4.out (fun k hk hk2 => O3.out.ne_type K3.out (by decide) k hk hk2)
            have K4 : Hid (Own w4 w.heap.size 55 1 v4 (n + 1) (svs xss Af Cf (n + 1))) := by show Own _ _ _ _ _ _ _; rw [svs_succ, getD_lt c1, HX.out]; exact ho4
            clear ho4 hg4 hn4 hv4 hcell3
            have NX : Hid (FR1 w w4 xss Af Cf (n + 1) (.slice a3 (L.length + fx.length) c3') v4) := by
              have e1 : xss.take (n + 1) = xss.take n ++ [x] := by rw [List.take_succ_eq_append_getElem c1, HX.out]
              have e2 : fl (xss.take (n + 1)) = L ++ fx := by rw [e1, fl_snoc, HL.out, HFX.out]
              refine ⟨c1, by rw [e2, ← lLf.out]; exact O4.out, K4.out, Bel4.out, c2, by rw [e2, lLf.out, LFX.out]; omega, fun i hi => ?_⟩
              by_cases hin : i = n
              · subst hin; rw [getD_lt c1, HX.out]; omega
              · exact HF.out.each i (by omega)
            go_wp2
            go_roundw
            case rel => exact ⟨n + 1, by go_num, NX.out⟩
            case measure => simp [intOf]; omega
          · have t3 : decide ((L.length : Int) + (x.length : Int) < 1048576) = false := decide_eq_false (by omega)
            have t3' : decide (L.length + x.length < 1048576) = false := decide_eq_false c3
            go_wp2
            go_meet
            case rel => exact ⟨n, by have h := HF.out; rw [HL.out] at h; exact h⟩
        · have t2 : decide ((n : Int) < 100) = false := decide_eq_false (by omega)
          have t2' : decide (n < 100) = false := decide_eq_false c2
          go_wp2
          go_meet
          case rel => exact ⟨n, by have h := HF.out; rw [HL.out] at h; exact h⟩
      · have t1 : decide ((n : Int) < (xss.length : Int)) = false := decide_eq_false (by omega)
        have t1' : decide (n < xss.length) = false := decide_eq_false c1
        go_wp2
        go_meet
        case rel => exact ⟨n, by have h := HF.out; rw [HL.out] at h; exact h⟩
  case rest =>
    obtain ⟨n, hf⟩ := hcut
    have HF := Lib.hid hf
    obtain ⟨ab, cb, rfl, _, hcb, hyb, _⟩ := own_val hf.b
    obtain ⟨ak, ck, rfl, hck, _, _⟩ := hf.k.shape'
    have n100 := hf.many
    have nle := hf.le
    have YB := Lib.hid hyb
    have KK := Lib.hid hf.k
    have RM := Lib.hid hf.room
    clear hf hyb
    obtain ⟨L, hL⟩ : ∃ L, fl (xss.take n) = L := ⟨_, rfl⟩
    rw [hL] at hcb YB RM ⊢
    have HL := Lib.hid hL; clear hL
    have Y0 : Hid (Byt wc ab L) := YB.out
    go_wp2
    go_loopw [3, 8] (fun vb vi wr => ∃ (j : Nat) (rest : List UInt8) (ar : Option Addr) (cr : Nat), vi = .int .i64 j ∧ j ≤ n ∧ vb = .slice ar rest.length cr ∧ rest = fl ((xss.take n).drop j) ∧ Byt wr ar rest ∧ rest.length ≤ cr ∧ Below wc.heap.size wc wr) (fun _ vi _ => n - (intOf vi).toNat)
    case atStart => exact ⟨0, L, ab, cb, rfl, Nat.zero_le _, rfl, by rw [List.drop_zero, HL.out], Y0.out, hcb, Below.refl _ _⟩
    case round =>
      obtain ⟨j, rest, ar, cr, rfl, hj, rfl, hrest, hyr, hcr, hbr⟩ := hrel
      have YR := Lib.hid hyr; have BR := Lib.hid hbr; have RE := Lib.hid hrest
      have Bw := Lib.hid (HF.out.bel.trans (hbr.mono HF.out.bel.size))
      clear hyr hbr hrest
      by_cases c1 : j < n
      · have t1 : decide ((j : Int) < (n : Int)) = true := decide_eq_true (by omega)
        have t1' : decide (j < n) = true := decide_eq_true c1
        obtain ⟨g, cg, hsh⟩ := KK.out.shape (by omega)
        cases hsh
        have hjx : j < xss.length := by omega
        obtain ⟨x, hx⟩ : ∃ x, xss[j] = x := ⟨_, rfl⟩
        obtain ⟨rest', hr'⟩ : ∃ l, fl ((xss.take n).drop (j + 1)) = l := ⟨_, rfl⟩
        have hsplit : rest = frm x ++ rest' := by
          rw [RE.out, List.drop_eq_getElem_cons (by rw [List.length_take]; omega), List.getElem_take, hx, ← hr']
          rfl
        have xle : x.length ≤ 1048576 := by have := HF.out.each j c1; rw [getD_lt hjx, hx] at this; exact this
        have rle : Hid (rest.length ≤ 1100000) := by
          show _ ≤ _
          have e1 : (fl ((xss.take n).take j)).length + rest.length = L.length := by
            rw [RE.out, ← HL.out, ← List.length_append, fl, fl, fl, ← List.flatMap_append, List.take_append_drop]
          have := RM.out; omega
        have hun := Unframe_calls wr rest ar cr YR.out hcr (by have := rle.out; omega) (HT.out.below Bw.out)
        rw [show UnframeR rest = (x, x.length + 13, 0) by rw [hsplit]; exact unframe_frm x rest' (by omega)] at hun
        have HUN := Lib.hid hun
        have hk := (KK.out.below (BR.out)).cellAt j (by rw [Nat.mul_one]; exact c1)
        rw [svs_get c1, getD_lt hjx, hx] at hk
        have YX : Hid (Byt wr (Af j) x) := by show Byt _ _ _; rw [← hx]; exact ((H.out.below Bw.out).byt j hjx)
        have lsplit : Hid (rest.length = x.length + 13 + rest'.length) := by show _ = _; rw [hsplit, List.length_append, frm_length]
        have SP := Lib.hid hsplit; have HR' := Lib.hid hr'
        have glt : g < wr.heap.size := World.block_lt_of_cell? _ _ hk
        clear hun hx hsplit hr'
        go_wp2_with fail
        refine HUN.out.mono ?_
        rintro r w1 ⟨v1, rfl, ho1, hb1⟩
        obtain ⟨a1, c1', rfl, _, _, hy1, _⟩ := own_val ho1
        have B1 := Lib.hid (BR.out.trans (hb1.mono BR.out.size))
        have hk1 := (hb1.cell (p := ⟨g, j, none⟩) glt).trans hk
        have YX1 := YX.out.below hb1
        have YR1 := Lib.hid (YR.out.below hb1)
        have x1 : ∀ q, (convert 55 9 (.slice a1 x.length c1')).run Tryd.prog (w1.drewN q) = .ok (.string ⟨x.toArray⟩) (w1.drewN q) := fun q => conv_bytes Tryd.underlying55 Tryd.underlying5 Tryd.underlying9 (hy1.drewN q)
        have x2 : ∀ q, (convert 55 9 (.slice (Af j) x.length (Cf j))).run Tryd.prog (w1.drewN q) = .ok (.string ⟨x.toArray⟩) (w1.drewN q) := fun q => conv_bytes Tryd.underlying55 Tryd.underlying5 Tryd.underlying9 (YX1.drewN q)
        have g1 : decide ((x.length : Int) + 13 < 13) = false := decide_eq_false (by omega)
        have g1' : decide (x.length + 13 < 13) = false := decide_eq_false (by omega)
        have g2 : decide ((rest.length : Int) < (x.length : Int) + 13) = false := decide_eq_false (by have := lsplit.out; omega)
        have g2' : decide (rest.length < x.length + 13) = false := decide_eq_false (by have := lsplit.out; omega)
        clear ho1 hy1 hb1 hk YX1 HUN
        go_wp2
        go_quiet ((go_at_call 21; exact qone (num_calls _ _)))
        clear x1 x2 g1 g1' g2 g2'
        have hb13 : x.length + 13 ≤ rest.length := by have := lsplit.out; omega
        go_wp2
        go_roundw
        case rel =>
          have hl' : rest'.length = rest.length - (x.length + 13) := by have := lsplit.out; omega
          have hd : rest.drop (x.length + 13) = rest' := by rw [SP.out]; exact List.drop_left' (frm_length x)
          refine ⟨j + 1, rest', _, _, by go_num, by omega, by rw [hl'], HR'.out.symm, ?_, by omega, bel_drewN B1.out _⟩
          by_cases hc : cr = x.length + 13
          · have : rest' = [] := List.eq_nil_of_length_eq_zero (by omega)
            rw [this]
            exact Byt.nil _ _
          · rw [if_neg hc, ← hd]
            exact (YR1.out.drewN _).shift _
        case measure => simp [intOf]; omega
      · have t1 : decide ((j : Int) < (n : Int)) = false := decide_eq_false (by omega)
        have t1' : decide (j < n) = false := decide_eq_false c1
        have r0 : rest = [] := by rw [RE.out, show j = n by omega, List.drop_eq_nil_of_le (by rw [List.length_take]; omega)]; rfl
        subst r0
        have T1 := Lib.hid (HT.out.below Bw.out)
        have G1 : Hid (0 < wr.heap.size) := Nat.lt_of_lt_of_le HG.out Bw.out.size
        go_wp2_with fail
        refine (works_calls wr T1.out G1.out).mono ?_
        rintro r w2 ⟨rfl, hb2⟩
        have B2 := Lib.hid (Bw.out.trans (hb2.mono Bw.out.size))
        clear hb2
        go_wp2
        go_ret
        exact ⟨rfl, B2.out⟩
end Go.Proofs.YtjiciklnhcmfaaaDoor
