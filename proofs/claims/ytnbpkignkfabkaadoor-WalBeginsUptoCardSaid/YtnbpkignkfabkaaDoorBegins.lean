/- posternlaw10.WalBegins. -/
import Derived.Test.YtnbpkignkfabkaaDoorTorn
import Derived.Test.YtnbpkignkfabkaaDoorLong
import Derived.Test.YtnbpkignkfabkaaDoorStep
import Derived.Deep.CutBlock
import Derived.Deep.DeepCutAuto
import Derived.BigQuiet
namespace Go.Proofs.YtnbpkignkfabkaaDoor
set_option linter.unusedVariables false
set_option linter.unusedSimpArgs false
open Go.RowKit Go.Maps
theorem flen_take_le (xs : List (List UInt8)) (n : Nat) : flen (xs.take n) ≤ flen xs := by
  have h9 : flen xs = flen (xs.take n) + flen (xs.drop n) := by
    rw [← flw_len, ← flw_len, ← flw_len, ← List.length_append, ← flw_app, List.take_append_drop]
  omega
/-- A beginning of a file of frames: the rows whose frames are whole, and a torn one. -/
theorem begins (xs : List (List UInt8)) (k n : Nat) (hn : n ≤ xs.length) (h1 : flen (xs.take n) ≤ k) (h2 : n = xs.length ∨ ∃ h : n < xs.length, k < flen (xs.take n) + (xs[n].length + 13)) (sm : ∀ x ∈ xs, x.length ≤ 16777216) :
    ∃ t, (flw xs).take k = flw (xs.take n) ++ t ∧ (t = [] ∨ recOf t = ([], 0, 30)) := by
  have e : flw xs = flw (xs.take n) ++ flw (xs.drop n) := by rw [← flw_app, List.take_append_drop]
  have e2 : (flw xs).take k = flw (xs.take n) ++ (flw (xs.drop n)).take (k - flen (xs.take n)) := by
    rw [e, List.take_append, flw_len, List.take_of_length_le (by rw [flw_len]; exact h1)]
  refine ⟨_, e2, ?_⟩
  rcases h2 with h2 | ⟨h2, h3⟩
  · left
    rw [h2, List.drop_length]
    exact List.take_nil
  · have e3 : flw (xs.drop n) = frm xs[n] ++ flw (xs.drop (n + 1)) := by rw [List.drop_eq_getElem_cons h2, flw_cons]
    have e4 : (flw (xs.drop n)).take (k - flen (xs.take n)) = (frm xs[n]).take (k - flen (xs.take n)) := by
      rw [e3, List.take_append_of_le_length (by rw [frm_length]; omega)]
    rw [e4]
    by_cases c : k - flen (xs.take n) = 0
    · left; rw [c]; rfl
    · right
      exact recOf_torn _ _ (sm _ (List.getElem_mem h2)) (by rw [frm_length]; omega) (by omega)
theorem Rd2.take {w : World} {a : Option Addr} {xs : List (List UInt8)} {Af : Nat → Option Addr} {Cf : Nat → Nat} (h : Rd2 w a xs Af Cf) (n : Nat) : Rd2 w a (xs.take n) Af Cf := by
  have hl : ∀ i, i < (xs.take n).length → i < xs.length := fun i hi => by rw [List.length_take] at hi; omega
  have hg : ∀ i (hi : i < (xs.take n).length), (xs.take n)[i] = xs[i]'(hl i hi) := fun i hi => by simp
  exact ⟨fun i hi => by rw [hg i hi]; exact h.cell i (hl i hi), fun i hi => by rw [hg i hi]; exact h.byt i (hl i hi), fun i hi => by rw [hg i hi]; exact h.cap i (hl i hi), fun i hi => by rw [hg i hi]; exact h.short i (hl i hi)⟩
theorem load_one {room : Nat} {nm l : List UInt8} (h1 : 1 ≤ room) (h2 : room ≤ 268435456) (hn : nmOk nm = true) (hl : l.length ≤ room) : loadR (room : Int) [(nm, l)] = (0, some (S1 room nm l 0 0 false 0)) := by
  unfold loadR
  rw [if_neg (by omega), if_neg (by simp), Int.toNat_natCast]
  have e : ldC room [(nm, l)] [] = some [(nm, l)] := by
    unfold ldC
    rw [if_neg]
    · simp [ldC, setC, delC, insC]
    · rintro (h | h | h)
      · simp [hasC] at h
      · rw [hn] at h; cases h
      · have : room < 0 + l.length := h
        omega
  rw [e]
  rfl
theorem load_s {w w' : World} {room : Nat} {nm l : List UInt8} {r : Ending} (h1 : 1 ≤ room) (h2 : room ≤ 268435456) (hn : nmOk nm = true) (hl : l.length ≤ room) (h : LoadP w w' (room : Int) [(nm, l)] r) : ∃ db F, r = .returned (.tuple #[.pointer (some ⟨db, 0, none⟩), .int .i64 0]) ∧ DkS w' w.heap.size db F (S1 room nm l 0 0 false 0) ∧ Below w.heap.size w w' := by
  unfold LoadP at h
  rw [load_one h1 h2 hn hl] at h
  obtain ⟨db, g1, g2, g3⟩ := h
  exact ⟨db, _, g1, ⟨g2.cut, fun i hi => hi.2, g3.size⟩, g3⟩
theorem Fil.one (w : World) (nm l : List UInt8) (ba : Option Addr) (bc : Nat) (h : Byt w ba l) (hc : l.length ≤ bc) : Fil (w.alloc (.cells #[.string ⟨nm.toArray⟩, .slice ba l.length bc] 47)) (some ⟨w.heap.size, 0, none⟩) [(nm, l)] := by
  intro i hi
  obtain rfl : i = 0 := by simp at hi; exact hi
  refine ⟨_, 0, ba, bc, rfl, ?_, ?_, hc, h.alloc _⟩
  · rw [cell_of_row' (heap_alloc_new w _)]; rfl
  · rw [cell_of_row' (heap_alloc_new w _)]; rfl
/-- In the first loop. -/
structure BgS (w0 wr : World) (B db lb : Nat) (rows : List (List UInt8)) (Af : Nat → Option Addr) (Cf : Nat → Nat) (v : Value) (i sp : Nat) (has : Bool) (F : Nat → Prop) : Prop where
  dk : DkS wr B db F (UD 4194304 X10 has (flw (rows.take i)) 0 0 false i)
  lg : Lg wr lb db X10 (flen (rows.take i)) false
  nf : ¬ F lb
  wn : Wn wr B v i rows Af Cf F
  bel : Below B w0 wr
  hh : has = false → flw (rows.take i) = []
  il : i ≤ 12
  sum : ((rows.take i).map List.length).sum = sp ∧ sp ≤ 3000
/-- Behind it. -/
def BgE (w0 wr : World) (B db : Nat) (rows : List (List UInt8)) (Af : Nat → Option Addr) (Cf : Nat → Nat) (v : Value) : Prop := ∃ lb i sp has F, BgS w0 wr B db lb rows Af Cf v i sp has F
/-- One more. -/
theorem BgS.next {w0 wr w5 w6 w7 : World} {B db lb : Nat} {rows : List (List UInt8)} {Af : Nat → Option Addr} {Cf : Nat → Nat} {i sp : Nat} {v v7 : Value} {has : Bool} {F F6 : Nat → Prop} {o : Obj} (h : BgS w0 wr B db lb rows Af Cf v i sp has F) (hi : i < rows.length) (hi2 : i < 12) (hsp : sp + rows[i].length ≤ 3000) (hb5 : Below wr.heap.size wr w5)
    (d6 : DkS w6 B db F6 (UD 4194304 X10 true (flw (rows.take i) ++ frm rows[i]) (decA 0) 0 false (i + 1))) (l6 : Lg w6 lb db X10 (flen (rows.take i) + (rows[i].length + 13)) false) (n6 : ¬ F6 lb) (u6 : Upd (fun j => F j ∨ j = lb) w5 w6) (b6 : Below B w5 w6) (f6 : ∀ j, F6 j → F j ∨ w5.heap.size ≤ j)
    (ho7 : Own w7 B 35 1 v7 (i + 1) (svs rows Af Cf i ++ [.slice (Af i) rows[i].length (Cf i)])) (hg7 : (w6.alloc o).grownBy w7 v.ownBlock) (hv7 : v7.ownBlock = v.ownBlock ∨ v7.ownBlock = some (w6.alloc o).heap.size) (hnl : v.ownBlock ≠ some lb) :
    BgS w0 w7 B db lb rows Af Cf v7 (i + 1) (sp + rows[i].length) true F6 := by
  have et : rows.take (i + 1) = rows.take i ++ [rows[i]] := List.take_succ_eq_append_getElem hi
  have wn6 := (h.wn.below hb5).wal (h.lg.below hb5) u6 f6
  obtain ⟨d7, u7, b7⟩ := d6.push (o := o) wn6 hg7
  refine ⟨?_, ?_, n6, wn6.push hi (fun j hj => (d6.fl j hj).2) ho7 hv7, ((h.bel.trans (hb5.mono h.dk.bw)).trans b6).trans b7, fun e => by (cases e), hi2, by rw [et, List.map_append, List.sum_append, h.sum.1]; simp, hsp⟩
  · rw [et, flw_snoc]
    exact d7
  · rw [et, flen_snoc]
    exact l6.upd u7 (fun e => hnl e)
set_option maxRecDepth 100000 in
set_option maxHeartbeats 8000000 in
theorem WalBegins_calls (w : World) (a : Option Addr) (cap : Nat) (rows : List (List UInt8)) (Af : Nat → Option Addr) (Cf : Nat → Nat) (hr : Rd2 w a rows Af Cf) (hl : rows.length ≤ 140737488355328) (ht : Tab w) (hg : 0 < w.heap.size) :
    Calls Tryd.prog 4 #[.slice a rows.length cap] w fun r w' => r = .returned (.bool true) ∧ Below w.heap.size w w' := by
  have TB := Lib.hid ht; have HG := Lib.hid hg
  have RD := Lib.hid hr
  have NC := Lib.hid (NewK_calls 4194304 w)
  clear hr ht hg
  go_enter Tryd.func4, Tryd.ntmps4
  go_wp2_with fail
  refine NC.out.mono ?_
  rintro r w1 hr
  obtain ⟨db, F1, rfl, dd1, b1⟩ := new_s (room := 4194304) (by decide) (by decide) hr
  have D1 := Lib.hid dd1; have B1 := Lib.hid b1
  clear dd1 b1 hr NC
  have WK := Lib.hid (works10_calls w1 (TB.out.bel B1.out HG.out) (Nat.lt_of_lt_of_le HG.out D1.out.bw))
  go_wp2_with (go_at_call 9; refine (num10_calls _ _).mono ?_; rintro r wx ⟨rfl, rfl⟩)
  refine WK.out.mono ?_
  rintro r w2 ⟨rfl, b2⟩
  have D2 := Lib.hid (D1.out.below b2)
  have B2 := Lib.hid (B1.out.trans (b2.mono D1.out.bw))
  clear b2 WK
  have O2 := Open_s X10 D2.out (TB.out.bel B2.out HG.out) HG.out (by decide) (Nat.zero_le _)
  rw [ds_new, open_new x10_ok] at O2
  have O2H := Lib.hid O2
  clear O2
  go_wp2_with fail
  refine O2H.out.mono ?_
  rintro r w3 ⟨F3, dd3, u3', b3, f3, lb, a3, c3, Af3, Cf3, rfl, l3, g3, n3, -, -⟩
  have LBB := Lib.hid (Nat.le_trans D2.out.bw g3)
  have IA : Hid (BgS w w3 w.heap.size db lb rows Af Cf (.slice none 0 0) 0 0 false F3) := ⟨dd3, l3, n3, Wn.nil _ _ _ _ _ _, B2.out.trans b3, fun _ => rfl, by omega, rfl, by omega⟩
  clear dd3 u3' b3 f3 l3 g3 n3 O2H D1 B1 D2 B2
  go_upto_block 0 with (go_at_call 9; refine (num10_calls _ _).mono ?_; rintro r wx ⟨rfl, rfl⟩)
  go_cut [9] (fun v9 wr => BgE w wr w.heap.size db rows Af Cf v9)
  case first =>
    go_wp2
    go_loopw [8, 9, 10] (fun vs v9 vi wr => ∃ (i sp : Nat) (has : Bool) (F : Nat → Prop), vs = .int .i64 sp ∧ vi = .int .i64 i ∧ i ≤ rows.length ∧ BgS w wr w.heap.size db lb rows Af Cf v9 i sp has F) (fun _ _ vi _ => rows.length - (intOf vi).toNat)
    case atStart => exact ⟨0, 0, false, F3, rfl, rfl, Nat.zero_le _, IA.out⟩
    case round =>
      obtain ⟨i, sp, has, F, rfl, rfl, hi, hh⟩ := hrel
      have H5 := Lib.hid hh
      have R5 := Lib.hid (RD.out.below hh.bel)
      have SP : sp ≤ 3000 := hh.sum.2
      have EX : Hid (BgE w wr w.heap.size db rows Af Cf u9) := ⟨lb, i, sp, has, F, hh⟩
      clear hh
      by_cases c1 : i < rows.length
      · have t1 : decide ((i : Int) < (rows.length : Int)) = true := decide_eq_true (by omega)
        have t1' : decide (i < rows.length) = true := decide_eq_true c1
        by_cases c2 : i < 12
        · have t2 : decide ((i : Int) < 12) = true := decide_eq_true (by omega)
          have t2' : decide (i < 12) = true := decide_eq_true c2
          obtain ⟨ab, ao, rfl, hcell⟩ := R5.out.cell i c1
          have hby := R5.out.byt i c1
          have hsh := R5.out.short i c1
          obtain ⟨x, hx⟩ : ∃ x, rows[i] = x := ⟨_, rfl⟩
          rw [hx] at hcell hby hsh
          have HX := Lib.hid hx
          have YB := Lib.hid hby
          clear hby hx
          by_cases c3 : 3000 < sp + x.length
          · have t3 : decide ((3000 : Int) < (sp : Int) + (x.length : Int)) = true := decide_eq_true (by omega)
            have t3' : decide (3000 < sp + x.length) = true := decide_eq_true c3
            go_wp2
            go_meet
            case rel => exact EX.out
          · have t3 : decide ((3000 : Int) < (sp : Int) + (x.length : Int)) = false := decide_eq_false (by omega)
            have t3' : decide (3000 < sp + x.length) = false := decide_eq_false c3
            have CC := Lib.hid (Copy_calls (Af i) (Cf i) x wr YB.out hsh)
            go_wp2_with fail
            refine CC.out.mono ?_
            rintro r w6 ⟨v6, rfl, ho6, hb6⟩
            obtain ⟨a6, c6, rfl, -, -, y6, -, -⟩ := own_val ho6
            have B6 := Lib.hid hb6
            have BEL6 := Lib.hid (H5.out.bel.trans (hb6.mono H5.out.dk.bw))
            have hfl : flen (rows.take i) ≤ 4000 := by
              rw [flen_sum, H5.out.sum.1, List.length_take]
              omega
            have AC := WalAppend_s x a6 c6 (H5.out.dk.below hb6) (H5.out.lg.below hb6) LBB.out H5.out.nf (TB.out.bel BEL6.out HG.out) HG.out y6 hsh (by decide) (show i ≤ 4611686018427387904 by omega) (by omega)
            rw [UD_walA x10_ok H5.out.hh (by omega) (by rw [flw_len]; omega) (by decide) (by decide)] at AC
            have ACH := Lib.hid AC
            have LG6 := Lib.hid (H5.out.lg.below hb6)
            clear ho6 hb6 y6 CC AC hfl
            go_wp2_with fail
            refine ACH.out.mono ?_
            rintro r w7 ⟨rfl, F7, g7, l7, n7, u7, b7, f7⟩
            have B7 := Lib.hid (BEL6.out.trans b7)
            have WN7 := Lib.hid ((H5.out.wn.below B6.out).wal LG6.out u7 f7)
            obtain ⟨ab', ao', e, hc7⟩ := (RD.out.below B7.out).cell i c1
            cases e
            rw [HX.out] at hc7
            have G7 := Lib.hid g7; have L7 := Lib.hid l7; have N7 := Lib.hid n7; have U7 := Lib.hid u7; have BB7 := Lib.hid b7; have F7H := Lib.hid f7
            have N1 : Hid (i + 1 ≤ maxLen) := by show _ ≤ _; unfold maxLen; omega
            have N2 : Hid ((i + 1) * 24 ≤ 140737488355328) := by show _ ≤ _; omega
            have N3 : Hid (w.heap.size ≤ (w7.alloc (.cells #[.slice (Af i) x.length (Cf i)] 35)).heap.size) := by
              show _ ≤ _
              rw [World.size_alloc]
              exact Nat.le_trans B7.out.size (Nat.le_succ _)
            have NL : Hid (u9.ownBlock ≠ some lb) := (H5.out.wn.own.not_ty H5.out.lg (by decide))
            clear g7 l7 n7 u7 b7 f7 ACH
            go_wp2_with (first | (go_at_call 9; refine (num10_calls _ _).mono ?_; rintro r wx ⟨rfl, rfl⟩) | (at_builtin; refine wpList_append rfl (.tmp 78) (.tmp 83) 22 22 rfl w.heap.size 35 (.slice none 0 0) 1 24 Tryd.underlying22 infoRow rfl (v := u9) (n := i) (xs := svs rows Af Cf i) (WN7.out.own.alloc _) rfl (xv := .slice (some ⟨w7.heap.size, 0, none⟩) 1 1) (m := 1) (news := [.slice (Af i) x.length (Cf i)]) (Src_new Tryd.underlying22 (heap_alloc_new w7 _) rfl) rfl N1.out N2.out N3.out ?_))
            rintro v9 w9 ho9 hg9 - hv9
            have NX : Hid (BgS w w9 w.heap.size db lb rows Af Cf v9 (i + 1) (sp + x.length) true F7) := by
              have h9 := H5.out.next (w5 := w6) (w6 := w7) (w7 := w9) (v7 := v9) (F6 := F7) (o := .cells #[.slice (Af i) x.length (Cf i)] 35) c1 c2 (by rw [HX.out]; omega) B6.out
              rw [HX.out] at h9
              exact h9 G7.out L7.out N7.out U7.out BB7.out F7H.out ho9 hg9 (by rw [World.size_alloc]; exact hv9) NL.out
            clear ho9 hg9 hv9
            go_wp2
            go_roundw
            case rel => exact ⟨i + 1, sp + x.length, true, F7, by go_num, by go_num, by omega, NX.out⟩
            case measure => simp [intOf]; omega
        · have t2 : decide ((i : Int) < 12) = false := decide_eq_false (by omega)
          have t2' : decide (i < 12) = false := decide_eq_false c2
          go_wp2
          go_meet
          case rel => exact EX.out
      · have t1 : decide ((i : Int) < (rows.length : Int)) = false := decide_eq_false (by omega)
        have t1' : decide (i < rows.length) = false := decide_eq_false c1
        go_wp2
        go_meet
        case rel => exact EX.out
  case rest =>
    obtain ⟨wA, rfl⟩ : ∃ q, q = wc := ⟨_, rfl⟩
    obtain ⟨lb2, k, sp, has, F, hh⟩ := hcut
    obtain ⟨xs, hxs⟩ : ∃ q, rows.take k = q := ⟨_, rfl⟩
    have hk : k = xs.length := by rw [← hxs, List.length_take]; have := hh.wn.le; omega
    subst hk
    have RC0 := Read_dk X10 hh.dk.dk (by decide)
    have sm : ∀ x ∈ xs, x.length ≤ 3000 := by
      intro x hx
      have := le_sum_mem (List.mem_map.2 ⟨x, hx, rfl⟩ : x.length ∈ xs.map List.length)
      have h9 := hh.sum
      rw [hxs] at h9
      omega
    have fl : flen xs ≤ 4000 := by
      have h9 := hh.sum
      have := hh.il
      rw [hxs] at h9
      rw [flen_sum]; omega
    have HE : has = false → xs.length = 0 := by
      intro e
      have h9 := hh.hh e
      rw [hxs] at h9
      have h8 := flen_ge xs
      have h7 := flw_len xs
      rw [h9] at h7
      simp at h7
      omega
    have HH := hh.hh
    rw [UD_may x10_ok, UD_read x10_ok HH, hxs] at RC0
    obtain ⟨L, hL⟩ : ∃ l, flw xs = l := ⟨_, rfl⟩
    have FL : L.length = flen xs := by rw [← hL, flw_len]
    rw [hL] at RC0
    obtain ⟨e, he⟩ : ∃ e : Int, (if true = true ∧ has = false then 92 else 0) = e := ⟨_, rfl⟩
    rw [he] at RC0
    have ER : Hid (e ≠ 0 → xs.length = 0) := by
      show _
      intro h9
      cases has
      · exact HE rfl
      · exact absurd (by rw [← he]; rfl) h9
    have RC := Lib.hid RC0; have SM := Lib.hid sm; have FLL := Lib.hid FL; have HL := Lib.hid hL; have XSH := Lib.hid hxs
    have hdL := hh.dk
    rw [hxs, hL] at hdL
    have Q0 := Lib.hid (TnR.mk hdL hh.wn hh.bel)
    clear hdL RC0 sm hL hxs HE HH he hh FL
    go_wp2_with fail
    refine RC.out.mono ?_
    rintro r w5 ⟨v5, rfl, ho5, hd5, hu5⟩
    obtain ⟨a5, c5, rfl, -, -, y5, -, -⟩ := own_val ho5
    have hcap := own_le ho5
    obtain ⟨d5, U5, B5⟩ := Q0.out.dk.read hd5 hu5
    have R5 := Lib.hid (Q0.out.step d5 U5 B5 (fun i hi => .inl hi))
    have Y5 := Lib.hid y5
    obtain ⟨aw, cw, hv, rdw⟩ := R5.out.wn.rd (RD.out.below R5.out.bel).by2
    rw [XSH.out] at rdw
    have hcw : xs.length ≤ cw := by
      have h9 := R5.out.wn.own
      rw [hv] at h9
      exact own_le h9
    subst hv
    have RW := Lib.hid rdw
    have SI := Lib.hid (size10_calls aw cw xs Af Cf w5 rdw (by omega))
    clear ho5 hd5 hu5 y5 d5 U5 B5 rdw RC
    go_upto_region 18 with fail
    go_cut [104] (fun c wx => c = .bool false ∧ Below w5.heap.size w5 wx)
    case first =>
      have FLX : (flen xs : Int) = (L.length : Int) := by have := FLL.out; omega
      by_cases c : e = 0
      · have t1 : (e != 0) = false := by rw [c]; rfl
        clear c
        go_wp2_with (first | (go_at_call 9; refine (num10_calls _ _).mono ?_; rintro r wx ⟨rfl, rfl⟩) | (go_at_call 18; refine SI.out.mono ?_; rintro r wz ⟨rfl, bz⟩))
        go_meet
        case rel => exact ⟨by first | rfl | simp, bz⟩
      · have t1 : (e != 0) = true := bne_iff_ne.2 c
        have t2 : decide ((0 : Int) < (xs.length : Int)) = false := decide_eq_false (by have := ER.out c; omega)
        have t2' : decide (0 < xs.length) = false := decide_eq_false (by have := ER.out c; omega)
        clear c
        go_wp2_with (first | (go_at_call 9; refine (num10_calls _ _).mono ?_; rintro r wx ⟨rfl, rfl⟩) | (go_at_call 18; refine SI.out.mono ?_; rintro r wz ⟨rfl, bz⟩))
        go_meet
        case rel => exact ⟨by first | rfl | simp, bz⟩
    case rest =>
      obtain ⟨rfl, hb6⟩ := hcut
      obtain ⟨w6, rfl⟩ : ∃ q, q = wc := ⟨_, rfl⟩
      have B6 := Lib.hid (R5.out.bel.trans (hb6.mono R5.out.dk.bw))
      have Y6 := Lib.hid (Y5.out.below hb6)
      have RW6 := Lib.hid (RW.out.below hb6)
      have Z6 := Lib.hid (Nat.le_trans R5.out.dk.bw hb6.size)
      clear hb6 Y5 RW SI Q0 R5
      go_wp2
      go_loopw [13] (fun vk wr => ∃ k : Nat, vk = .int .i64 k ∧ k ≤ L.length + 1 ∧ Below w6.heap.size w6 wr) (fun vk _ => L.length + 1 - (intOf vk).toNat)
      case atStart => exact ⟨0, rfl, Nat.zero_le _, Below.refl _ _⟩
      case round =>
        obtain ⟨k, rfl, hk, hb⟩ := hrel
        have BR := Lib.hid hb
        clear hb
        by_cases c1 : k ≤ L.length
        · have t1 : decide ((k : Int) ≤ (L.length : Int)) = true := decide_eq_true (by omega)
          have t1' : decide (k ≤ L.length) = true := decide_eq_true c1
          have XLL : xs.length ≤ 4000 := Nat.le_trans (flen_ge xs) fl
          have KL : k ≤ 4000 := by have := FLL.out; omega
          go_upto_block 4 with fail
          go_cut [14] (fun vn wx => ∃ n : Nat, vn = .int .i64 n ∧ n ≤ xs.length ∧ flen (xs.take n) ≤ k ∧ (n = xs.length ∨ ∃ h : n < xs.length, k < flen (xs.take n) + (xs[n].length + 13)) ∧ Below wr.heap.size wr wx)
          case first =>
            go_wp2
            go_loopw [14] (fun vn wx => ∃ n : Nat, vn = .int .i64 n ∧ n ≤ xs.length ∧ flen (xs.take n) ≤ k ∧ Below wr.heap.size wr wx) (fun vn _ => xs.length - (intOf vn).toNat)
            case atStart => exact ⟨0, rfl, Nat.zero_le _, Nat.zero_le _, Below.refl _ _⟩
            case round =>
              obtain ⟨n, rfl, hn, hf, hb⟩ := hrel
              have BX := Lib.hid hb; have HF := Lib.hid hf
              clear hb hf
              by_cases d1 : n < xs.length
              · have s1 : decide ((n : Int) < (xs.length : Int)) = true := decide_eq_true (by omega)
                have s1' : decide (n < xs.length) = true := decide_eq_true d1
                have hln : (xs.take (n + 1)).length = n + 1 := by rw [List.length_take]; omega
                have SC := size10_calls aw cw (xs.take (n + 1)) Af Cf _ ((RW6.out.below ((BR.out.trans (BX.out.mono BR.out.size)))).take (n + 1)) (by have := flen_take_le xs (n + 1); omega)
                rw [hln] at SC
                have SCH := Lib.hid SC
                obtain ⟨ab, ao, rfl, -⟩ := RW6.out.cell n d1
                have j1 : (n : Int) + 1 ≤ (cw : Int) := by omega
                have FT : Hid (flen (xs.take (n + 1)) = flen (xs.take n) + (xs[n].length + 13)) := by show _ = _; rw [List.take_succ_eq_append_getElem d1, flen_snoc]
                clear SC hln
                go_wp2_with fail
                refine SCH.out.mono ?_
                rintro r wz ⟨rfl, bz⟩
                have BZ := Lib.hid (BX.out.trans (bz.mono BX.out.size))
                clear bz
                by_cases d2 : flen (xs.take (n + 1)) ≤ k
                · have s2 : decide ((flen (xs.take (n + 1)) : Int) ≤ (k : Int)) = true := decide_eq_true (by omega)
                  have s2' : decide (flen (xs.take (n + 1)) ≤ k) = true := decide_eq_true d2
                  go_wp2
                  go_roundw
                  case rel => exact ⟨n + 1, by go_num, by omega, d2, BZ.out⟩
                  case measure => simp [intOf]; omega
                · have s2 : decide ((flen (xs.take (n + 1)) : Int) ≤ (k : Int)) = false := decide_eq_false (by omega)
                  have s2' : decide (flen (xs.take (n + 1)) ≤ k) = false := decide_eq_false d2
                  go_wp2
                  go_meet
                  case rel => exact ⟨n, rfl, hn, HF.out, .inr ⟨d1, by have := FT.out; omega⟩, BZ.out⟩
              · have s1 : decide ((n : Int) < (xs.length : Int)) = false := decide_eq_false (by omega)
                have s1' : decide (n < xs.length) = false := decide_eq_false d1
                go_wp2
                go_meet
                case rel => exact ⟨n, rfl, hn, HF.out, .inl (by omega), BX.out⟩
          case rest =>
            obtain ⟨wI, rfl⟩ : ∃ q, q = wc := ⟨_, rfl⟩
            obtain ⟨n, rfl, hn, hf, hor, hb⟩ := hcut
            obtain ⟨t, et, ht⟩ := begins xs k n hn hf hor (fun x hx => by have := SM.out x hx; omega)
            rw [HL.out] at et
            have smy : ∀ x ∈ xs.take n, x.length ≤ 16777216 := fun x hx => by have := SM.out x (List.mem_of_mem_take hx); omega
            have rd0 := RW6.out.take n
            obtain ⟨ys, hys⟩ : ∃ l, xs.take n = l := ⟨_, rfl⟩
            have hyl : n = ys.length := by rw [← hys, List.length_take]; omega
            rw [hys] at et hf smy rd0
            subst hyl
            have BI0 := BR.out.trans (hb.mono BR.out.size)
            obtain ⟨lt, hlt⟩ : ∃ l, L.take k = l := ⟨_, rfl⟩
            have llen : lt.length = k := by rw [← hlt, List.length_take]; omega
            have YI : Byt wI a5 lt := by rw [← hlt]; exact (Y6.out.below BI0).take k
            rw [hlt] at et
            have hk5 : k ≤ c5 := by omega
            have hycw : ys.length ≤ cw := by omega
            have rI := rd0.below BI0
            obtain ⟨wF, hwF⟩ : ∃ q, wI.alloc (.cells #[.string ⟨#[120]⟩, .slice a5 k k] 47) = q := ⟨_, rfl⟩
            have BF : Below wI.heap.size wI wF := by rw [← hwF]; exact (Below.refl _ _).alloc (Nat.le_refl _) _
            have FI : Fil wF (some ⟨wI.heap.size, 0, none⟩) [(X10, lt)] := by
              rw [← hwF, ← llen]
              exact Fil.one wI X10 lt a5 lt.length YI (Nat.le_refl _)
            have LC := Lib.hid (Load_calls 4194304 [(X10, lt)] (some ⟨wI.heap.size, 0, none⟩) 1 wF FI (by intro p hp; rw [List.mem_singleton] at hp; subst hp; exact ⟨show 1 ≤ 140737488351232 by decide, show lt.length ≤ 140737488355328 by omega⟩) (show 1 ≤ 140737488355328 by decide))
            have WF := Lib.hid hwF
            have BFH := Lib.hid (BI0.trans (BF.mono BI0.size))
            have RF := Lib.hid (rI.below BF)
            have LLEN := Lib.hid llen
            have recs : recOf lt = (ys, flen ys, if t = [] then 0 else 30) := by
              rw [et, recOf_fl _ _ smy]
              rcases ht with e | e
              · subst e; rw [recOf_nil]; simp
              · rw [e, if_neg (by rintro rfl; rw [recOf_nil] at e; cases e)]; simp
            have OP : ∃ n', openR (S1 4194304 X10 lt 0 0 false 0) X10 = (0, some (ys, flen ys), UD 4194304 X10 true (flw ys) 0 0 false n') := by
              by_cases e : t = []
              · rw [if_pos e] at recs
                refine ⟨0, ?_⟩
                have h9 := UD_openOk (room := 4194304) (has := true) (a := 0) (keep := 0) (wr := 0) x10_ok (fun h => by cases h) recs
                rw [show lt = flw ys by rw [et, e, List.append_nil]] at h9 ⊢
                exact h9
              · rw [if_neg e] at recs
                refine ⟨1, ?_⟩
                have h9 := UD_openTorn (room := 4194304) (a := 0) (keep := 0) (wr := 0) x10_ok recs (by decide) (by decide)
                rw [show lt.take (flen ys) = flw ys by rw [et, ← flw_len, List.take_left]] at h9
                exact h9
            have OPH := Lib.hid OP
            have YN : ys.length ≤ 4000 := by omega
            have FY : flen ys ≤ 4000 := by omega
            clear hb hf hor et ht smy rd0 hys BI0 hlt YI rI hwF BF FI recs OP llen SM HL XSH
            go_wp2_with fail
            rw [WF.out]
            refine LC.out.mono ?_
            rintro r w7 hr
            obtain ⟨db2, G2, rfl, d7, b7⟩ := load_s (room := 4194304) (by decide) (by decide) x10_ok (by have := LLEN.out; omega) hr
            have D7 := Lib.hid d7; have B7 := Lib.hid b7
            have ZF := Lib.hid (show w.heap.size ≤ wF.heap.size from Nat.le_trans Z6.out BFH.out.size)
            have BELF := Lib.hid (B6.out.trans (BFH.out.mono Z6.out))
            have TB7 := Lib.hid ((TB.out.bel BELF.out HG.out).bel B7.out (Nat.lt_of_lt_of_le HG.out ZF.out))
            have R7 := Lib.hid (RF.out.below B7.out)
            clear d7 b7 hr LC
            obtain ⟨n', e8⟩ := OPH.out
            have O8 := Open_s X10 D7.out TB7.out (Nat.lt_of_lt_of_le HG.out ZF.out) (by decide) (Nat.zero_le _)
            rw [e8] at O8
            have O8H := Lib.hid O8
            clear O8 e8
            go_wp2_with (go_at_call 9; refine (num10_calls _ _).mono ?_; rintro r wx ⟨rfl, rfl⟩)
            refine O8H.out.mono ?_
            rintro r w8 ⟨F8, d8, u8', b8, f8, lb8, a8, c8, Af8, Cf8, rfl, l8, g8, n8, rd8, rg8⟩
            have RG8 := Lib.hid rg8
            have D8 := Lib.hid d8; have B8 := Lib.hid (B7.out.trans b8); have L8 := Lib.hid l8; have RD8 := Lib.hid rd8; have N8 := Lib.hid n8
            clear d8 u8' b8 f8 l8 g8 n8 rd8 rg8 O8H
            have S9 := Size_dk X10 D8.out.dk (by decide)
            rw [show (UD 4194304 X10 true (flw ys) 0 0 false n').may true [X10] = 0 by rw [UD_may x10_ok]; simp, UD_read x10_ok (fun h => by cases h), flw_len] at S9
            have S9H := Lib.hid S9
            clear S9
            go_wp2_with fail
            refine S9H.out.mono ?_
            rintro r w9 ⟨rfl, d9, u9'⟩
            obtain ⟨d9', u9, b9⟩ := D8.out.read d9 u9'
            have D9 := Lib.hid d9'; have B9 := Lib.hid (B8.out.trans b9)
            have L9 := Lib.hid (L8.out.upd u9 N8.out)
            have rd9 : Rd2 w9 a8 ys Af8 Cf8 := RD8.out.upd RG8.out u9' (fun i hi hz => hz.2.1 (by rw [hi]; exact D8.out.dk.at_))
            have r9 : Rd2 w9 aw ys Af Cf := RF.out.below B9.out
            have RC9 := Lib.hid (rows10_calls a8 aw c8 cw ys ys Af8 Af Cf8 Cf w9 rd9 r9 (by omega))
            have R9 := Lib.hid r9
            clear rd9 r9 d9 d9' u9' u9 b9 S9H
            go_wp2_with (go_at_call 9; refine (num10_calls _ _).mono ?_; rintro r wx ⟨rfl, rfl⟩)
            refine RC9.out.mono ?_
            rintro r wa ⟨rfl, ba⟩
            have BA := Lib.hid ba
            have SI := Lib.hid (size10_calls aw cw ys Af Cf wa (R9.out.below ba) (by omega))
            clear ba RC9
            go_wp2_with (go_at_call 9; refine (num10_calls _ _).mono ?_; rintro r wx ⟨rfl, rfl⟩)
            refine SI.out.mono ?_
            rintro r wb ⟨rfl, bb⟩
            have SZ := Lib.hid (WalSize_calls lb8 db2 X10 (flen ys) false wb ((L9.out.below BA.out).below bb))
            have BB := Lib.hid (BA.out.trans (bb.mono BA.out.size))
            clear bb SI
            go_wp2_with fail
            refine SZ.out.mono ?_
            rintro r wx ⟨rfl, rfl⟩
            have BEND := Lib.hid (BFH.out.trans ((B9.out.trans (BB.out.mono B9.out.size)).mono BFH.out.size))
            clear SZ
            go_wp2
            go_roundw
            case rel => exact ⟨k + 1, by go_num, by omega, BEND.out⟩
            case measure => simp [intOf]; omega
        · have t1 : decide ((k : Int) ≤ (L.length : Int)) = false := decide_eq_false (by omega)
          have t1' : decide (k ≤ L.length) = false := decide_eq_false c1
          go_wp2
          go_ret
          exact ⟨rfl, B6.out.trans (BR.out.mono Z6.out)⟩
end Go.Proofs.YtnbpkignkfabkaaDoor
