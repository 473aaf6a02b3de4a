/- (*wal.Log).Append, Size. -/
import Derived.Test.YtnbpkignkfabkaaGreatDoorFrmLaw
import Derived.Test.YtnbpkignkfabkaaGreatDoorDkS
import Derived.Test.YtnbpkignkfabkaaGreatDoorFrame
import Derived.Test.YtnbpkignkfabkaaGreatDoorWk
/- The records of some bytes, in plain words. -/
namespace Go.Proofs.YtnbpkignkfabkaaGreatDoor
set_option linter.unusedVariables false
set_option linter.unusedSimpArgs false
open Go.RowKit
def recR : Nat → List UInt8 → List (List UInt8) × Nat × Int
  | 0, _ => ([], 0, 0)
  | f + 1, b => if b.length = 0 then ([], 0, 0) else if (UnframeR b).2.2 = 0 then ((UnframeR b).1 :: (recR f (b.drop (UnframeR b).2.1)).1, (UnframeR b).2.1 + (recR f (b.drop (UnframeR b).2.1)).2.1, (recR f (b.drop (UnframeR b).2.1)).2.2) else if (UnframeR b).2.2 = 30 then ([], 0, 30) else ([], 0, 101)
def recOf (b : List UInt8) : List (List UInt8) × Nat × Int := recR (b.length + 1) b
theorem unframe_n {b : List UInt8} (h : (UnframeR b).2.2 = 0) : 13 ≤ (UnframeR b).2.1 ∧ (UnframeR b).2.1 ≤ b.length ∧ (UnframeR b).1.length ≤ b.length := by
  unfold UnframeR at h ⊢
  split at h
  · simp at h
  · rename_i h1
    rw [if_neg h1]
    split at h
    · simp at h
    · rename_i h2
      rw [if_neg h2]
      split at h
      · simp at h
      · rename_i h3
        rw [if_neg h3]
        split at h
        · simp at h
        · rename_i h4
          rw [if_neg h4]
          split at h
          · simp at h
          · rename_i h5
            rw [if_neg h5]
            split at h
            · simp at h
            · rename_i h6
              rw [if_neg h6]
              split at h
              · simp at h
              · rename_i h7
                rw [if_neg h7]
                refine ⟨Nat.le_add_left _ _, by show ofBe _ + 13 ≤ _; omega, by show (List.take _ _).length ≤ _; rw [List.length_take, List.length_drop]; omega⟩
theorem recR_fuel : ∀ (f g : Nat) (b : List UInt8), b.length < f → b.length < g → recR f b = recR g b
  | 0, _, _, h, _ => absurd h (Nat.not_lt_zero _)
  | _ + 1, 0, _, _, h => absurd h (Nat.not_lt_zero _)
  | f + 1, g + 1, b, h1, h2 => by
    unfold recR
    by_cases h0 : b.length = 0
    · rw [if_pos h0, if_pos h0]
    · rw [if_neg h0, if_neg h0]
      by_cases hc : (UnframeR b).2.2 = 0
      · rw [if_pos hc, if_pos hc]
        have hn := unframe_n hc
        rw [recR_fuel f g (b.drop (UnframeR b).2.1) (by rw [List.length_drop]; omega) (by rw [List.length_drop]; omega)]
      · rw [if_neg hc, if_neg hc]
theorem recOf_nil : recOf [] = ([], 0, 0) := rfl
theorem recOf_step {b : List UInt8} (h0 : b.length ≠ 0) (hc : (UnframeR b).2.2 = 0) : recOf b = ((UnframeR b).1 :: (recOf (b.drop (UnframeR b).2.1)).1, (UnframeR b).2.1 + (recOf (b.drop (UnframeR b).2.1)).2.1, (recOf (b.drop (UnframeR b).2.1)).2.2) := by
  have hn := unframe_n hc
  have e : recR b.length (b.drop (UnframeR b).2.1) = recOf (b.drop (UnframeR b).2.1) := recR_fuel _ _ _ (by rw [List.length_drop]; omega) (Nat.lt_succ_self _)
  unfold recOf at e ⊢
  rw [recR, if_neg h0, if_pos hc, e]
theorem recOf_short {b : List UInt8} (h0 : b.length ≠ 0) (hc : (UnframeR b).2.2 = 30) : recOf b = ([], 0, 30) := by
  unfold recOf
  rw [recR, if_neg h0, if_neg (by rw [hc]; decide), if_pos hc]
theorem recOf_hurt {b : List UInt8} (h0 : b.length ≠ 0) (hc : (UnframeR b).2.2 ≠ 0) (hc2 : (UnframeR b).2.2 ≠ 30) : recOf b = ([], 0, 101) := by
  unfold recOf
  rw [recR, if_neg h0, if_neg hc, if_neg hc2]
theorem recOf_status (b : List UInt8) : (recOf b).2.2 = 0 ∨ (recOf b).2.2 = 30 ∨ (recOf b).2.2 = 101 := by
  unfold recOf
  generalize b.length + 1 = f
  induction f generalizing b with
  | zero => exact .inl rfl
  | succ f ih =>
    unfold recR
    split
    · exact .inl rfl
    · split
      · exact ih _
      · split
        · exact .inr (.inl rfl)
        · exact .inr (.inr rfl)
theorem recOf_at (b : List UInt8) : (recOf b).2.1 ≤ b.length := by
  unfold recOf
  have : ∀ f (b : List UInt8), b.length < f → (recR f b).2.1 ≤ b.length := by
    intro f
    induction f with
    | zero => intro b h; omega
    | succ f ih =>
      intro b h
      unfold recR
      split
      · exact Nat.zero_le _
      · split
        · rename_i h0 hc
          have hn := unframe_n hc
          have := ih (b.drop (UnframeR b).2.1) (by rw [List.length_drop]; omega)
          rw [List.length_drop] at this
          show _ + _ ≤ _
          omega
        · split <;> exact Nat.zero_le _
  exact this _ _ (Nat.lt_succ_self _)
theorem recOf_whole : ∀ (f : Nat) (b : List UInt8), b.length < f → (recR f b).2.2 = 0 → (recR f b).2.1 = b.length
  | 0, _, h, _ => absurd h (Nat.not_lt_zero _)
  | f + 1, b, h, hs => by
    unfold recR at hs ⊢
    by_cases h0 : b.length = 0
    · rw [if_pos h0]; exact h0.symm
    · rw [if_neg h0] at hs ⊢
      by_cases hc : (UnframeR b).2.2 = 0
      · rw [if_pos hc] at hs ⊢
        have hn := unframe_n hc
        have := recOf_whole f (b.drop (UnframeR b).2.1) (by rw [List.length_drop]; omega) hs
        rw [List.length_drop] at this
        show _ + _ = _
        omega
      · rw [if_neg hc] at hs
        split at hs
        · exact absurd hs (by decide)
        · exact absurd hs (by decide)
theorem frm_ne (x : List UInt8) (t : List UInt8) : (frm x ++ t).length ≠ 0 := by rw [List.length_append, frm_length]; omega
theorem recOf_frm (x t : List UInt8) (hx : x.length ≤ 16777216) : recOf (frm x ++ t) = (x :: (recOf t).1, x.length + 13 + (recOf t).2.1, (recOf t).2.2) := by
  have e := unframe_frm x t hx
  have h2 := recOf_step (frm_ne x t) (by rw [e])
  have e2 : (frm x ++ t).drop (x.length + 13) = t := by rw [← frm_length, List.drop_left]
  rw [h2, e]
  simp only [e2]
def flw (l : List (List UInt8)) : List UInt8 := l.flatMap frm
theorem flw_snoc (l : List (List UInt8)) (x : List UInt8) : flw (l ++ [x]) = flw l ++ frm x := by simp [flw]
theorem flw_app (l m : List (List UInt8)) : flw (l ++ m) = flw l ++ flw m := by simp [flw]
theorem flw_cons (x : List UInt8) (l : List (List UInt8)) : flw (x :: l) = frm x ++ flw l := rfl
def flen (l : List (List UInt8)) : Nat := (l.map fun x => x.length + 13).sum
theorem flw_len : ∀ l : List (List UInt8), (flw l).length = flen l
  | [] => rfl
  | x :: l => by rw [flw_cons, List.length_append, frm_length, flw_len l]; simp [flen]
theorem flen_snoc (l : List (List UInt8)) (x : List UInt8) : flen (l ++ [x]) = flen l + (x.length + 13) := by simp [flen]
theorem recOf_fl : ∀ (l : List (List UInt8)) (t : List UInt8), (∀ x ∈ l, x.length ≤ 16777216) → recOf (flw l ++ t) = (l ++ (recOf t).1, flen l + (recOf t).2.1, (recOf t).2.2)
  | [], t, _ => by simp [flw, flen]
  | x :: l, t, h => by
    rw [flw_cons, List.append_assoc, recOf_frm x _ (h x (by simp)), recOf_fl l t (fun y hy => h y (List.mem_cons_of_mem _ hy))]
    simp [flen, Nat.add_assoc]
theorem recOf_flw (l : List (List UInt8)) (h : ∀ x ∈ l, x.length ≤ 16777216) : recOf (flw l) = (l, flen l, 0) := by
  have := recOf_fl l [] h
  rw [List.append_nil, recOf_nil] at this
  simpa using this
theorem recOf_torn (x : List UInt8) (k : Nat) (hx : x.length ≤ 16777216) (hk : k < (frm x).length) (h0 : 0 < k) : recOf ((frm x).take k) = ([], 0, 30) := by
  refine recOf_short ?_ (by rw [unframe_short x k hx hk])
  rw [List.length_take]; omega
theorem recOf_bent (x t : List UInt8) (i : Nat) (y : UInt8) (hx : x.length ≤ 16777216) (hi : i < (frm x).length) (hy : y ≠ 0) : recOf (bent (frm x) i y ++ t) = ([], 0, 101) := by
  obtain ⟨e, h1, h2⟩ := unframe_bent x t i y hx hi hy
  refine recOf_hurt (by rw [List.length_append, bent_length, frm_length]; omega) ?_ ?_
  · rw [h1]; rcases h2 with rfl | rfl <;> decide
  · rw [h1]; rcases h2 with rfl | rfl <;> decide
end Go.Proofs.YtnbpkignkfabkaaGreatDoor
namespace Go.Proofs.YtnbpkignkfabkaaGreatDoor
set_option linter.unusedVariables false
set_option linter.unusedSimpArgs false
open Go.RowKit Go.Maps
/-- A log stands at lb. -/
def Lg (w : World) (lb db : Nat) (nm : List UInt8) (n : Nat) (off : Bool) : Prop := w.heap[lb]? = some (.cells #[.pointer (some ⟨db, 0, none⟩), .string ⟨nm.toArray⟩, .int .i64 n, .bool off] 126 (0, 0))
section
variable {w w' : World} {lb db : Nat} {nm : List UInt8} {n : Nat} {off : Bool}
theorem Lg.upd {S : Nat → Prop} (h : Lg w lb db nm n off) (hu : Upd S w w') (hs : ¬ S lb) : Lg w' lb db nm n off := (hu.block lb (lt_of_block h) hs).trans h
theorem Lg.below (h : Lg w lb db nm n off) (hb : Below w.heap.size w w') : Lg w' lb db nm n off := h.upd (Upd.ofBelow hb) (fun s => s)
theorem Lg.lt (h : Lg w lb db nm n off) : lb < w.heap.size := lt_of_block h
theorem Lg.cells (h : Lg w lb db nm n off) : w.cell? ⟨lb, 0, none⟩ = some (.pointer (some ⟨db, 0, none⟩)) ∧ w.cell? ⟨lb, 1, none⟩ = some (.string ⟨nm.toArray⟩) ∧ w.cell? ⟨lb, 2, none⟩ = some (.int .i64 n) ∧ w.cell? ⟨lb, 3, none⟩ = some (.bool off) :=
  ⟨by rw [cell_of_row' h]; rfl, by rw [cell_of_row' h]; rfl, by rw [cell_of_row' h]; rfl, by rw [cell_of_row' h]; rfl⟩
theorem Lg.froz (h : Lg w lb db nm n off) (j : Nat) : w.frozen? ⟨lb, j, none⟩ = false := by
  unfold Lg at h
  simp only [World.frozen?, h]
  simp
theorem Lg.setN (h : Lg w lb db nm n off) (m : Nat) : Lg (w.setCell ⟨lb, 2, none⟩ (.int .i64 m)) lb db nm m off := set_blk9 (.int .i64 m) h
theorem Lg.setOff (h : Lg w lb db nm n off) (o : Bool) : Lg (w.setCell ⟨lb, 3, none⟩ (.bool o)) lb db nm n o := set_blk9 (.bool o) h
theorem Lg.ne_tab (h : Lg w lb db nm n off) (ht : Tab w) : ¬ lb = 0 := by
  intro e
  have h1 := ht 0 (by decide)
  have h2 := h.cells.1
  rw [e, h1] at h2
  cases h2
end
/-- What an Append to a log comes to: the error, the log's size, whether it is off, the disk. -/
def walA (s : DS) (nm : List UInt8) (n : Nat) (off : Bool) (b : List UInt8) : Int × Nat × Bool × DS :=
  if off = true then (102, n, off, s) else if 16777216 < b.length then (100, n, off, s)
  else if (s.append nm (frm b)).1 ≠ 0 then ((s.append nm (frm b)).1, n, true, (s.append nm (frm b)).2) else (0, n + (b.length + 13), false, (s.append nm (frm b)).2)
def WalP (w w' : World) (base lb db : Nat) (F : Nat → Prop) (nm : List UInt8) (q : Int × Nat × Bool × DS) (r : Ending) : Prop :=
  r = .returned (.int .i64 q.1) ∧ ∃ F', Dk w' base F' db q.2.2.2 ∧ Lg w' lb db nm q.2.1 q.2.2.1 ∧ Upd (fun i => F i ∨ i = lb) w w' ∧ ∀ i, F' i → F i ∨ w.heap.size ≤ i
set_option maxRecDepth 100000 in
set_option maxHeartbeats 4000000 in
theorem WalAppend_calls (base lb db : Nat) (F : Nat → Prop) (s : DS) (nm : List UInt8) (n : Nat) (off : Bool) (b : List UInt8) (ba : Option Addr) (bc : Nat) (w : World) (h : Dk w base F db s) (hl : Lg w lb db nm n off) (hF : ¬ F lb) (ht : Tab w) (hg : 0 < w.heap.size) (hb : Byt w ba b) (hs : b.length ≤ 140737488355328) (hnm : nm.length ≤ 140737488351232) (hw : s.writes ≤ 4611686018427387904) (hn : n ≤ 4611686018427387904) :
    Calls Tryz.prog 17 #[.pointer (some ⟨lb, 0, none⟩), .slice ba b.length bc] w fun r w' => WalP w w' base lb db F nm (walA s nm n off b) r := by
  obtain ⟨c0, c1, c2, c3⟩ := hl.cells
  unfold WalP
  cases off with
  | true =>
    have e : walA s nm n true b = (102, n, true, s) := if_pos rfl
    rw [e]
    have FIN : Hid (∃ F', Dk w base F' db s ∧ Lg w lb db nm n true ∧ Upd (fun i => F i ∨ i = lb) w w ∧ ∀ i, F' i → F i ∨ w.heap.size ≤ i) := ⟨F, h, hl, Upd.refl _ _, fun _ k => .inl k⟩
    clear e h hl hF ht hg hb
    go_enter Tryz.func17, Tryz.ntmps17
    go_wp2
    go_ret
    exact ⟨rfl, FIN.out⟩
  | false =>
    have FC := Lib.hid (Frame_calls w b ba bc hb ht hg hs)
    by_cases hx : 16777216 < b.length
    · have e : walA s nm n false b = (100, n, false, s) := by unfold walA; rw [if_neg (by decide), if_pos hx]
      rw [e]
      have FR : Hid (FrameR b = ([], 31)) := if_neg (by omega)
      rw [FR.out] at FC
      have DH := Lib.hid h; have LH := Lib.hid hl
      clear e h hl hF ht hg hb hx hs
      go_enter Tryz.func17, Tryz.ntmps17
      go_wp2_with fail
      refine FC.out.mono ?_
      rintro r w1 ⟨v, rfl, ho, hb1⟩
      have FIN : Hid (∃ F', Dk w1 base F' db s ∧ Lg w1 lb db nm n false ∧ Upd (fun i => F i ∨ i = lb) w w1 ∧ ∀ i, F' i → F i ∨ w.heap.size ≤ i) := ⟨F, DH.out.below hb1, LH.out.below hb1, (Upd.ofBelow hb1).mono (fun _ s _ => s.elim), fun _ k => .inl k⟩
      clear ho hb1
      go_wp2
      go_ret
      exact ⟨rfl, FIN.out⟩
    · have FR : Hid (FrameR b = (frm b, 0)) := if_pos (by omega)
      rw [FR.out] at FC
      have e : walA s nm n false b = if (s.append nm (frm b)).1 ≠ 0 then ((s.append nm (frm b)).1, n, true, (s.append nm (frm b)).2) else (0, n + (b.length + 13), false, (s.append nm (frm b)).2) := by unfold walA; rw [if_neg (by decide), if_neg hx]
      rw [e]
      obtain ⟨⟨ea, sa⟩, hsa⟩ : ∃ q, s.append nm (frm b) = q := ⟨_, rfl⟩
      rw [hsa]
      obtain ⟨⟨qe, qn, qo, qs⟩, hq⟩ : ∃ q : Int × Nat × Bool × DS, (if (ea, sa).1 ≠ 0 then ((ea, sa).1, n, true, (ea, sa).2) else (0, n + (b.length + 13), false, (ea, sa).2)) = q := ⟨_, rfl⟩
      rw [hq]
      have HSA := Lib.hid hsa; have HQ := Lib.hid hq
      clear hsa hq
      have BL : Hid (b.length ≤ 16777216) := by show _ ≤ _; omega
      have DH := Lib.hid h; have LH := Lib.hid hl; have HF := Lib.hid hF; have HNM := Lib.hid hnm; have HW := Lib.hid hw
      have lbl : lb < w.heap.size := hl.lt
      clear e h hl hF ht hg hb hx hs hnm hw
      go_enter Tryz.func17, Tryz.ntmps17
      go_wp2_with fail
      refine FC.out.mono ?_
      rintro r w1 ⟨v, rfl, ho, hb1⟩
      rw [show (frm b, (0 : Int)).1.length = b.length + 13 from frm_length b] at ho
      obtain ⟨fa, fc, hv, -, hfc, hy, -, -⟩ := own_val ho
      rw [frm_length] at hv hfc
      subst hv
      have d0 := (hb1.cell (p := ⟨lb, 0, none⟩) lbl).trans c0
      have d1 := (hb1.cell (p := ⟨lb, 1, none⟩) lbl).trans c1
      have AC := fun (w2 : World) (hb2 : Below w1.heap.size w1 w2) => Append_dk base db F s nm (frm b) fa fc w2 ((DH.out.below hb1).below hb2) (hy.below hb2) (by rw [frm_length]; exact hfc) HNM.out HW.out
      have L1 := Lib.hid (LH.out.below hb1)
      have U1 := Lib.hid ((Upd.ofBelow hb1).mono (S' := fun i => F i ∨ i = lb) (fun _ s _ => s.elim))
      have SZ := Lib.hid hb1.size
      rw [frm_length] at AC
      have ACH := Lib.hid AC
      clear ho hb1 hy hfc AC
      go_wp2_with fail
      go_still_tail 9, (by kernel_rfl)
      go_wp2_with fail
      refine (ACH.out _ (bel_drewN (Below.refl _ _) 1)).mono ?_
      rintro r w3 hr
      rw [HSA.out] at hr
      obtain ⟨rfl, F', hd3, hu3, hf3⟩ := hr
      have e3 : ¬ F' lb := fun k => by
        rcases hf3 lb k with k | k
        · exact HF.out k
        · have h9 : w1.heap.size ≤ lb := k
          have := SZ.out
          omega
      have L3 := Lib.hid (L1.out.upd (w' := w3) (S := F) ⟨hu3.os, hu3.tape, hu3.output, hu3.size, hu3.block⟩ HF.out)
      have U3 := Lib.hid (U1.out.same (c := w3) ((⟨hu3.os, hu3.tape, hu3.output, hu3.size, hu3.block⟩ : Upd F w1 w3).mono (fun i s _ => .inl s)))
      have D3 := Lib.hid hd3; have E3 := Lib.hid e3
      have F3 := Lib.hid (fun i (k : F' i) => show F i ∨ w.heap.size ≤ i from (hf3 i k).elim .inl (fun h9 => .inr (Nat.le_trans SZ.out h9)))
      obtain ⟨d0', d1', d2', d3'⟩ := L3.out.cells
      have f2 := L3.out.froz 2; have f3 := L3.out.froz 3
      have ST := Lib.hid (fun (v : Value) (w4 : World) (p : Addr) (hp : p.block = lb) (hw4 : w3.setCell p v = w4) => show Dk w4 base F' db sa ∧ Upd (fun i => F i ∨ i = lb) w w4 from by
        subst hw4
        exact ⟨hd3.upd ((Upd.refl (fun i => i = lb) w3).setCell (fun _ => hp) v) (fun i hi hf => by rw [hi] at hf; exact e3 hf), U3.out.setCell (fun _ => .inr hp) v⟩)
      clear d0 d1 hd3 hu3 hf3 e3
      by_cases ce : ea = 0
      · subst ce
        have te : ((0 : Int) != 0) = false := rfl
        have HQ2 := Lib.hid ((if_neg (by simp : ¬ ((0 : Int), sa).1 ≠ 0)).symm.trans HQ.out)
        have i5 : (b.length : Int) ≤ 16777216 := by have := BL.out; omega
        have LN := Lib.hid (L3.out.setN (n + (b.length + 13)))
        have SN := ST.out (.int .i64 ((n + (b.length + 13) : Nat) : Int)) _ ⟨lb, 2, none⟩ rfl rfl
        have SNH := Lib.hid SN
        have en : ((n + (b.length + 13) : Nat) : Int) = (n : Int) + ((b.length : Int) + 13) := by omega
        rw [en] at SNH
        unfold Lg at LN
        have LNH : Hid (Lg (w3.setCell ⟨lb, 2, none⟩ (.int .i64 ((n : Int) + ((b.length : Int) + 13)))) lb db nm (n + (b.length + 13)) false) := by
          show Lg _ _ _ _ _ _
          rw [← en]
          exact LN.out
        clear SN en LN ST L3 U3 D3
        go_wp2
        go_ret
        have h9 := HQ2.out
        injection h9 with q1 q2
        injection q2 with q2 q3
        injection q3 with q3 q4
        exact ⟨by rw [← q1]; rfl, F', by rw [← q4]; exact SNH.out.1, by rw [← q2, ← q3]; exact LNH.out, SNH.out.2, F3.out⟩
      · have te : (ea != 0) = true := by rw [bne_iff_ne]; exact ce
        have HQ2 := Lib.hid ((if_pos (show (ea, sa).1 ≠ 0 from ce)).symm.trans HQ.out)
        have LN := Lib.hid (L3.out.setOff true)
        have SNH := Lib.hid (ST.out (.bool true) _ ⟨lb, 3, none⟩ rfl rfl)
        clear ST L3 U3 D3
        go_wp2
        go_ret
        have h9 := HQ2.out
        injection h9 with q1 q2
        injection q2 with q2 q3
        injection q3 with q3 q4
        exact ⟨by rw [← q1]; rfl, F', by rw [← q4]; exact SNH.out.1, by rw [← q2, ← q3]; exact LN.out, SNH.out.2, F3.out⟩
end Go.Proofs.YtnbpkignkfabkaaGreatDoor
