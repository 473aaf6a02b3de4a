/- disk.Disk: what stands at a disk; may. -/
import Derived.Test.YtcmllfnhdodbdaaDoorFls2
import Derived.Test.YtcmllfnhdodbdaaDoorNamed
import Derived.Deep.QuietTactic
import Derived.BigQuiet
namespace Go.Proofs.YtcmllfnhdodbdaaDoor
set_option linter.unusedVariables false
set_option linter.unusedSimpArgs false
open Go.RowKit Go.Maps
/-- A disk's numbers. -/
structure DkV where
  room : Int
  used : Int
  armed : Int
  keep : Int
  off : Bool
  writes : Int
def dcells (m : Int) (k : DkV) (mb : Nat) : Array Value := #[.int .i32 m, .int .u32 0, .int .i64 k.room, .int .i64 k.used, .map (some mb), .int .i64 k.armed, .int .i64 k.keep, .bool k.off, .int .i64 k.writes]
/-- A disk stands at db, its files' map at mb; m: its lock's word. -/
structure Dsk (w : World) (base db mb : Nat) (m : Int) (k : DkV) (L : List Fl) (D : DataW Value) : Prop where
  blk : w.heap[db]? = some (.cells (dcells m k mb) 73 (0, 0))
  dge : base ≤ db
  fls : Fls w base mb L D
def DkF (db mb : Nat) (L : List Fl) (k : Nat) : Prop := k = db ∨ FlF mb L k
section
variable {w w' : World} {base db mb : Nat} {m : Int} {k : DkV} {L : List Fl} {D : DataW Value}
theorem Dsk.upd {S : Nat → Prop} (h : Dsk w base db mb m k L D) (hu : Upd S w w') (hs : ∀ i, S i → ¬ DkF db mb L i) : Dsk w' base db mb m k L D :=
  ⟨(hu.block db (lt_of_block h.blk) (fun s => hs db s (.inl rfl))).trans h.blk, h.dge, h.fls.upd hu (fun i s f => hs i s (.inr f))⟩
theorem Dsk.below (h : Dsk w base db mb m k L D) (hb : Below w.heap.size w w') : Dsk w' base db mb m k L D := h.upd (Upd.ofBelow hb) (fun _ s => s.elim)
theorem Dsk.drewN (h : Dsk w base db mb m k L D) (n : Nat) : Dsk (w.drewN n) base db mb m k L D := h.below (bel_drewN (Below.refl _ _) n)
theorem Dsk.cell (h : Dsk w base db mb m k L D) (j : Nat) : w.cell? ⟨db, j, none⟩ = (dcells m k mb)[j]? := cell_of_row' h.blk
theorem Dsk.froz (h : Dsk w base db mb m k L D) (j : Nat) : w.frozen? ⟨db, j, none⟩ = false := by
  have := h.blk
  simp only [World.frozen?, this]
  simp
theorem Dsk.lt (h : Dsk w base db mb m k L D) : db < w.heap.size := lt_of_block h.blk
end
/-- Names that stand in a row. -/
def Nms (w : World) (nb : Nat) (Ns : List (List UInt8)) : Prop := ∀ i (h : i < Ns.length), w.cell? ⟨nb, i, none⟩ = some (.string ⟨(Ns[i]).toArray⟩)
/-- Why a call about these names is refused. -/
def mayR (off : Bool) (L : List Fl) (there : Bool) (Ns : List (List UInt8)) : Int :=
  if off = true then 94 else if Ns.all nmOk = false then 91 else if there = true ∧ hasF L (Ns.headD []) = false then 92 else 0
set_option maxRecDepth 100000 in
set_option maxHeartbeats 2000000 in
theorem may_calls (base db mb : Nat) (m : Int) (k : DkV) (L : List Fl) (D : DataW Value) (there : Bool) (nb cap : Nat) (Ns : List (List UInt8)) (w : World) (h : Dsk w base db mb m k L D) (hn : Nms w nb Ns) (h0 : 0 < Ns.length) (h3 : Ns.length ≤ 1000) (hl : ∀ x ∈ Ns, x.length ≤ 140737488351232) :
    Calls Tryd.prog 31 #[.pointer (some ⟨db, 0, none⟩), .bool there, .slice (some ⟨nb, 0, none⟩) Ns.length cap] w fun r w' => r = .returned (.int .i64 (mayR k.off L there Ns)) ∧ Below w.heap.size w w' := by
  have c7 : w.cell? ⟨db, 7, none⟩ = some (.bool k.off) := h.cell 7
  have H := Lib.hid h; have HN := Lib.hid hn; have HL := Lib.hid hl
  clear h hn hl
  by_cases ho : k.off = true
  · rw [show mayR k.off L there Ns = 94 from if_pos ho]
    rw [ho] at c7
    clear ho
    go_enter Tryd.func31, Tryd.ntmps31
    go_wp2
    go_ret
    exact ⟨rfl, Below.refl _ _⟩
  · have ho' : k.off = false := by simpa using ho
    rw [ho'] at c7
    have MR : Hid (mayR k.off L there Ns = if Ns.all nmOk = false then 91 else if there = true ∧ hasF L (Ns.headD []) = false then 92 else 0) := if_neg ho
    rw [MR.out]
    clear ho ho' MR
    obtain ⟨q, hq⟩ : ∃ q : Int, (if Ns.all nmOk = false then 91 else if there = true ∧ hasF L (Ns.headD []) = false then 92 else 0) = q := ⟨_, rfl⟩
    rw [hq]
    have HQ := Lib.hid hq
    clear hq
    go_enter Tryd.func31, Tryd.ntmps31
    go_wp2
    go_loopw [17] (fun vi wr => ∃ i : Nat, vi = .int .i64 i ∧ i ≤ Ns.length ∧ (∀ j (hj : j < Ns.length), j < i → nmOk Ns[j] = true) ∧ Below w.heap.size w wr) (fun vi _ => Ns.length - (intOf vi).toNat)
    case atStart => exact ⟨0, rfl, Nat.zero_le _, fun _ _ h => absurd h (Nat.not_lt_zero _), Below.refl _ _⟩
    case round =>
      obtain ⟨i, rfl, hi, hall, hb⟩ := hrel
      have BW := Lib.hid hb; have AL := Lib.hid hall
      clear hb hall
      by_cases c1 : i < Ns.length
      · have t1 : decide ((i : Int) < (Ns.length : Int)) = true := decide_eq_true (by omega)
        have t1' : decide (i < Ns.length) = true := decide_eq_true c1
        have q1 : wr.cell? ⟨nb, i, none⟩ = some (.string ⟨(Ns[i]).toArray⟩) := (BW.out.cell (p := ⟨nb, i, none⟩) (World.block_lt_of_cell? _ _ (HN.out i c1))).trans (HN.out i c1)
        have NC := Lib.hid (named_calls Ns[i] wr (by have := HL.out Ns[i] (List.getElem_mem c1); omega))
        obtain ⟨x, hx⟩ : ∃ x, Ns[i] = x := ⟨_, rfl⟩
        rw [hx] at q1 NC
        have HX := Lib.hid hx
        clear hx
        cases hb : nmOk x with
        | false =>
          rw [hb] at NC
          have F1 : Hid (q = 91) := by
            show q = 91
            rw [← HQ.out, if_pos]
            rw [List.all_eq_false]
            exact ⟨Ns[i], List.getElem_mem c1, by rw [HX.out, hb]; simp⟩
          clear hb
          go_wp2_with fail
          refine NC.out.mono ?_
          rintro r w1 ⟨rfl, hb1⟩
          have B1 := Lib.hid (BW.out.trans (hb1.mono BW.out.size))
          clear hb1
          go_wp2
          go_ret
          exact ⟨by rw [F1.out]; rfl, B1.out⟩
        | true =>
          rw [hb] at NC
          have AL2 := Lib.hid (show ∀ j (hj : j < Ns.length), j < i + 1 → nmOk Ns[j] = true from fun j hj hji => by
            by_cases e : j = i
            · subst e; rw [HX.out]; exact hb
            · exact AL.out j hj (by omega))
          clear hb
          go_wp2_with fail
          refine NC.out.mono ?_
          rintro r w1 ⟨rfl, hb1⟩
          have B1 := Lib.hid (BW.out.trans (hb1.mono BW.out.size))
          clear hb1
          go_wp2
          go_roundw
          case rel => exact ⟨i + 1, by go_num, by omega, AL2.out, B1.out⟩
          case measure => simp [intOf]; omega
      · have t1 : decide ((i : Int) < (Ns.length : Int)) = false := decide_eq_false (by omega)
        have t1' : decide (i < Ns.length) = false := decide_eq_false c1
        have hall : Ns.all nmOk = true := by
          rw [List.all_eq_true]
          intro x hx
          obtain ⟨j, hj, rfl⟩ := List.getElem_of_mem hx
          exact AL.out j hj (by omega)
        have q0 : wr.cell? ⟨nb, 0, none⟩ = some (.string ⟨(Ns[0]).toArray⟩) := (BW.out.cell (p := ⟨nb, 0, none⟩) (World.block_lt_of_cell? _ _ (HN.out 0 h0))).trans (HN.out 0 h0)
        have DW := Lib.hid (H.out.below BW.out)
        have c4 : wr.cell? ⟨db, 4, none⟩ = some (.map (some mb)) := DW.out.cell 4
        have lk := fun nq => (DW.out.drewN nq).fls.look_ok Ns[0] (by have := HL.out Ns[0] (List.getElem_mem h0); unfold maxLen; omega)
        have hd : Ns.headD [] = Ns[0] := by cases Ns with | nil => simp at h0 | cons a b => rfl
        have HQ2 : Hid ((if there = true ∧ hasF L Ns[0] = false then 92 else 0) = q) := by
          show _ = _
          have e := HQ.out
          rw [if_neg (by rw [hall]; simp), hd] at e
          exact e
        clear hall hd HQ
        generalize Ns[0] = x at *
        generalize valF L x = vx at *
        generalize hasF L x = hx at *
        cases there with
        | false =>
          have F1 : Hid (q = 0) := by show q = 0; rw [← HQ2.out]; rfl
          go_wp2
          go_quiet (fail)
          go_wp2
          go_ret
          exact ⟨by rw [F1.out]; rfl, bel_drewN BW.out _⟩
        | true =>
          cases hx with
          | false =>
            have F1 : Hid (q = 92) := by show q = 92; rw [← HQ2.out]; rfl
            go_wp2
            go_quiet (fail)
            go_wp2
            go_ret
            exact ⟨by rw [F1.out]; rfl, bel_drewN BW.out _⟩
          | true =>
            have F1 : Hid (q = 0) := by show q = 0; rw [← HQ2.out]; rfl
            go_wp2
            go_quiet (fail)
            go_wp2
            go_ret
            exact ⟨by rw [F1.out]; rfl, bel_drewN BW.out _⟩
end Go.Proofs.YtcmllfnhdodbdaaDoor
