/- posternlaw3.puts: a field that may be, laid. -/
import Derived.Test.YtjiciklnhcmfaaaDoorWid
import Derived.Deep.MidRow
namespace Go.Proofs.YtjiciklnhcmfaaaDoor
set_option linter.unusedVariables false
set_option linter.unusedSimpArgs false
open Go.RowKit
/-- An Op. -/
structure OpD where
  doo : Int
  on : Int
  n : Nat
  wd : Int
  i : Int
  fl : Bool
  ba : Option Addr
  bc : Nat
  b : List UInt8
  d : List UInt8
def opv (o : OpD) : Array Value := #[.int .i64 o.doo, .int .i64 o.on, .int .u64 o.n, .int .i64 o.wd, .int .i64 o.i, .bool o.fl, .slice o.ba o.b.length o.bc] ++ idv o.d
theorem idv_size (l : List UInt8) : (idv l).size = l.length := by simp [idv, bys_length]
theorem opv_size (o : OpD) : (opv o).size = 7 + o.d.length := by unfold opv; rw [Array.size_append, idv_size]; rfl
theorem opv_lo (o : OpD) (k : Nat) (h : k < 7) : (opv o)[k]? = #[Value.int .i64 o.doo, .int .i64 o.on, .int .u64 o.n, .int .i64 o.wd, .int .i64 o.i, .bool o.fl, .slice o.ba o.b.length o.bc][k]? := by
  unfold opv
  rw [Array.getElem?_append, if_pos (show k < #[Value.int .i64 o.doo, .int .i64 o.on, .int .u64 o.n, .int .i64 o.wd, .int .i64 o.i, .bool o.fl, .slice o.ba o.b.length o.bc].size from h)]
theorem opv_hi (o : OpD) (k : Nat) : (opv o)[7 + k]? = (idv o.d)[k]? := by
  unfold opv
  rw [Array.getElem?_append, if_neg (show ¬ 7 + k < #[Value.int .i64 o.doo, .int .i64 o.on, .int .u64 o.n, .int .i64 o.wd, .int .i64 o.i, .bool o.fl, .slice o.ba o.b.length o.bc].size from (by show ¬ 7 + k < 7; omega))]
  congr 1
  show 7 + k - 7 = k
  omega
/-- A struct, an array is read out of the middle of a block: its cells under their name. -/
theorem wpList_load_arr {P : Program} {ops : Array Oper} {rest : List Oper} {op : Oper} {a : Act} {w : World} {Q : Exit → Act → World → Prop} (hgd : op.guard = none) (ty : TypeId) (x : Operand) (ho : op.op = .load ty x)
    (b o : Nat) (hx : a.eval x = .pointer (some ⟨b, o, none⟩)) (cells : Array Value) (d : TypeDesc) (hc : w.rangeAt b o cells.toList)
    (hu : P.underlying ty = some d) (hd : d.isRow = true) (hi : (P.info? ty).map (·.size) = some cells.size)
    (h : wpList P ops Q rest (a.put op.dst (.agg cells)) w) : wpList P ops Q (op :: rest) a w := by
  refine wpList_load_mid hgd ty x ho b o hx cells.toList d hc hu hd (by rw [hi, Array.length_toList]) ?_
  rw [Array.toArray_toList]
  exact h
theorem wpList_box_as {P : Program} {w w1 : World} {ops : Array Oper} {rest : List Oper} {o : Oper} {a : Act} {Q : Exit → Act → World → Prop} (hg : o.guard = none) (t : TypeId) (x : Operand) (hop : o.op = Op.box t x) (cells : Array Value) (hx : a.eval x = .agg cells) (hw : w.alloc (.cells cells t) = w1)
    (hK : wpList P ops Q rest (a.put o.dst (.pointer (some ⟨w.heap.size, 0, none⟩))) w1) : wpList P ops Q (o :: rest) a w := by
  subst hw
  exact wpList_box hg t x hop cells hx hK
/-- What a field does to a writer; whether it may be. -/
def pOk (o : OpD) : Bool :=
  if o.doo = 1 then decide (1 ≤ o.wd ∧ o.wd ≤ 8 ∧ (o.wd = 8 ∨ o.n / 2 ^ (8 * o.wd.toNat) = 0)) else if o.doo = 2 then true else if o.doo = 3 then true else if o.doo = 4 then decide (o.b.length ≤ 1048576) else if o.doo = 5 then decide (o.b.length ≤ 1048576) else decide (o.doo = 6)
def wOp (l : List UInt8) (e : Int) (o : OpD) : List UInt8 × Int :=
  if pOk o = false then (l, e) else if o.doo = 1 then wNum l e o.n o.wd else if o.doo = 2 then wNum l e (i64n o.i) 8 else if o.doo = 3 then wNum l e o.fl.toNat 1 else if o.doo = 4 then wText l e o.b else if o.doo = 5 then wText l e o.b else wID l e o.d
/-- What is known of an Op that is handed in. -/
structure OpOk (o : OpD) : Prop where
  dn : o.d.length = 16
  nn : o.n ≤ 18446744073709551615
  wn : -9223372036854775808 ≤ o.wd ∧ o.wd ≤ 9223372036854775807
  bn : o.b.length ≤ 140737488351232
  cn : o.b.length ≤ o.bc
def PutP (w w' : World) (pb po base : Nat) (l : List UInt8) (e : Int) (v : Value) (o : OpD) (r : Ending) : Prop :=
  r = .returned (.bool (pOk o)) ∧ ∃ v', Wri w' pb po base (wOp l e o).1 (wOp l e o).2 v' ∧ WUpd w w' pb po v v'
theorem WUpd.alloc {w : World} {pb po : Nat} {v : Value} (o : Obj) (h : pb < w.heap.size) : WUpd w (w.alloc o) pb po v v :=
  have U1 : Upd (fun _ => False) w (w.alloc o) := (Upd.refl _ w).alloc _
  ⟨U1.mono (fun _ s _ => s.elim), fun _ _ _ => ⟨U1.cell h (fun s => s), U1.frozen h (fun s => s)⟩, .inl rfl⟩
theorem put_no {w w1 : World} {pb po base : Nat} {l : List UInt8} {e : Int} {v : Value} {o : OpD} (hp : pOk o = false) (h : Wri w1 pb po base l e v) (hu : WUpd w w1 pb po v v) : PutP w w1 pb po base l e v o (.returned (.bool false)) := by
  have hq : wOp l e o = (l, e) := if_pos hp
  exact ⟨by rw [hp], v, by rw [hq]; exact h, hu⟩
theorem put_yes {w w1 w2 : World} {pb po base : Nat} {l : List UInt8} {e : Int} {v v2 : Value} {o : OpD} {q : List UInt8 × Int} (hp : pOk o = true) (hq : wOp l e o = q) (hu : WUpd w w1 pb po v v) (h : Wri w2 pb po base q.1 q.2 v2) (hu2 : WUpd w1 w2 pb po v v2) : PutP w w2 pb po base l e v o (.returned (.bool true)) := by
  exact ⟨by rw [hp], v2, by rw [hq]; exact h, hu.trans hu2⟩
set_option maxRecDepth 100000 in
set_option maxHeartbeats 4000000 in
theorem puts_calls (pb po base : Nat) (o : OpD) (w : World) (v : Value) (l : List UInt8) (e : Int) (h : Wri w pb po base l e v) (hb : base ≤ pb) (hl : l.length ≤ 100000000000000) (hk : OpOk o) (hy : Byt w o.ba o.b) :
    Calls Tryd.prog 33 #[.pointer (some ⟨pb, po, none⟩), .agg (opv o)] w fun r w' => PutP w w' pb po base l e v o r := by
  obtain ⟨w1, hw1⟩ : ∃ q, w.alloc (.cells (opv o) 99) = q := ⟨_, rfl⟩
  have U1 : Upd (fun _ => False) w w1 := by rw [← hw1]; exact (Upd.refl _ w).alloc _
  have H1 := Lib.hid (h.upd U1 (fun s => s) (fun _ _ s => s))
  have WU1 : Hid (WUpd w w1 pb po v v) := by show WUpd _ _ _ _ _ _; rw [← hw1]; exact WUpd.alloc _ h.lt
  have Y1 := Lib.hid (hy.upd U1 (fun _ _ _ s => s))
  have hq := heap_alloc_new w (.cells (opv o) 99)
  rw [hw1] at hq
  have HQ := Lib.hid hq
  have HW := Lib.hid hw1
  have e0 : w1.cell? ⟨w.heap.size, 0, none⟩ = some (.int .i64 o.doo) := by rw [cell_of_row' hq, opv_lo o 0 (by decide)]; rfl
  have e2 : w1.cell? ⟨w.heap.size, 2, none⟩ = some (.int .u64 o.n) := by rw [cell_of_row' hq, opv_lo o 2 (by decide)]; rfl
  have e3 : w1.cell? ⟨w.heap.size, 3, none⟩ = some (.int .i64 o.wd) := by rw [cell_of_row' hq, opv_lo o 3 (by decide)]; rfl
  have e4 : w1.cell? ⟨w.heap.size, 4, none⟩ = some (.int .i64 o.i) := by rw [cell_of_row' hq, opv_lo o 4 (by decide)]; rfl
  have e5 : w1.cell? ⟨w.heap.size, 5, none⟩ = some (.bool o.fl) := by rw [cell_of_row' hq, opv_lo o 5 (by decide)]; rfl
  have e6 : w1.cell? ⟨w.heap.size, 6, none⟩ = some (.slice o.ba o.b.length o.bc) := by rw [cell_of_row' hq, opv_lo o 6 (by decide)]; rfl
  have r7 : Hid (w1.rangeAt w.heap.size 7 (idv o.d).toList) := by
    intro j u hj
    rw [cell_of_row' hq, opv_hi]
    simpa using hj
  have LH := Lib.hid hl; have BH := Lib.hid hb; have OK := Lib.hid hk
  clear hw1 U1 hq h hl hb hk hy
  obtain ⟨hw1a, hw1b⟩ := OK.out.wn
  by_cases d1 : o.doo = 1
  · have t1 : (o.doo == 1) = true := by rw [beq_iff_eq]; exact d1
    have D1 := Lib.hid d1; clear d1
    by_cases c1 : o.wd < 1
    · have s1 : decide (o.wd < 1) = true := decide_eq_true c1
      have hp : pOk o = false := by unfold pOk; rw [if_pos D1.out]; exact decide_eq_false (fun h => by omega)
      have NO := Lib.hid (put_no (l := l) (e := e) hp H1.out WU1.out)
      go_enter Tryd.func33, Tryd.ntmps33
      go_wp2_with (first | (with_reducible refine wpList_box_as (o := ⟨some 3, _, _, _, _, _⟩) rfl 99 (.tmp 1) rfl (opv o) rfl HW.out ?_))
      go_ret
      exact NO.out
    · have s1 : decide (o.wd < 1) = false := decide_eq_false c1
      by_cases c2 : 8 < o.wd
      · have s2 : decide (8 < o.wd) = true := decide_eq_true c2
        have hp : pOk o = false := by unfold pOk; rw [if_pos D1.out]; exact decide_eq_false (fun h => by omega)
        have NO := Lib.hid (put_no (l := l) (e := e) hp H1.out WU1.out)
        go_enter Tryd.func33, Tryd.ntmps33
        go_wp2_with (first | (with_reducible refine wpList_box_as (o := ⟨some 3, _, _, _, _, _⟩) rfl 99 (.tmp 1) rfl (opv o) rfl HW.out ?_))
        go_ret
        exact NO.out
      · have s2 : decide (8 < o.wd) = false := decide_eq_false c2
        by_cases c3 : o.wd < 8
        · have s3 : decide (o.wd < 8) = true := decide_eq_true c3
          have en : (8 * o.wd).toNat = 8 * o.wd.toNat := by omega
          have EN := Lib.hid en; clear en
          by_cases c4 : o.n / 2 ^ (8 * o.wd.toNat) = 0
          · have s4 : ((o.n : Int) / 2 ^ (8 * o.wd).toNat != 0) = false := by
              have e2 : (o.n : Int) / 2 ^ (8 * o.wd.toNat) = ((o.n / 2 ^ (8 * o.wd.toNat) : Nat) : Int) := by norm_cast
              rw [EN.out, e2, c4]
              rfl
            have hp : pOk o = true := by unfold pOk; rw [if_pos D1.out]; exact decide_eq_true ⟨by omega, by omega, .inr c4⟩
            have he : wOp l e o = wNum l e o.n o.wd := by unfold wOp; rw [hp, if_neg (by decide), if_pos D1.out]
            have HE := Lib.hid he; have HP := Lib.hid hp; clear he hp c4
            have YES := Lib.hid (fun w2 v2 h1 h2 => put_yes (w2 := w2) (v2 := v2) (v := v) (w := w) (base := base) HP.out HE.out WU1.out h1 h2)
            go_enter Tryd.func33, Tryd.ntmps33
            go_wp2_with (first | (with_reducible refine wpList_box_as (o := ⟨some 3, _, _, _, _, _⟩) rfl 99 (.tmp 1) rfl (opv o) rfl HW.out ?_))
            refine (Num_calls pb po base o.n o.wd w1 v l e H1.out BH.out (by have := LH.out; omega)).mono ?_
            rintro r w2 ⟨rfl, v2, hw, hu⟩
            have FIN := Lib.hid (YES.out w2 v2 hw hu)
            clear hw hu
            go_wp2
            go_ret
            exact FIN.out
          · have s4 : ((o.n : Int) / 2 ^ (8 * o.wd).toNat != 0) = true := by
              have e2 : (o.n : Int) / 2 ^ (8 * o.wd.toNat) = ((o.n / 2 ^ (8 * o.wd.toNat) : Nat) : Int) := by norm_cast
              rw [EN.out, e2, bne_iff_ne]
              intro h
              exact c4 (by omega)
            have hp : pOk o = false := by unfold pOk; rw [if_pos D1.out]; exact decide_eq_false (fun h => by rcases h.2.2 with h | h; omega; exact c4 h)
            clear c4
            have NO := Lib.hid (put_no (l := l) (e := e) hp H1.out WU1.out)
            go_enter Tryd.func33, Tryd.ntmps33
            go_wp2_with (first | (with_reducible refine wpList_box_as (o := ⟨some 3, _, _, _, _, _⟩) rfl 99 (.tmp 1) rfl (opv o) rfl HW.out ?_))
            go_ret
            exact NO.out
        · have s3 : decide (o.wd < 8) = false := decide_eq_false c3
          have hp : pOk o = true := by unfold pOk; rw [if_pos D1.out]; exact decide_eq_true ⟨by omega, by omega, .inl (by omega)⟩
          have he : wOp l e o = wNum l e o.n o.wd := by unfold wOp; rw [hp, if_neg (by decide), if_pos D1.out]
          have HE := Lib.hid he; have HP := Lib.hid hp; clear he hp
          have YES := Lib.hid (fun w2 v2 h1 h2 => put_yes (w2 := w2) (v2 := v2) (v := v) (w := w) (base := base) HP.out HE.out WU1.out h1 h2)
          go_enter Tryd.func33, Tryd.ntmps33
          go_wp2_with (first | (with_reducible refine wpList_box_as (o := ⟨some 3, _, _, _, _, _⟩) rfl 99 (.tmp 1) rfl (opv o) rfl HW.out ?_))
          refine (Num_calls pb po base o.n o.wd w1 v l e H1.out BH.out (by have := LH.out; omega)).mono ?_
          rintro r w2 ⟨rfl, v2, hw, hu⟩
          have FIN := Lib.hid (YES.out w2 v2 hw hu)
          clear hw hu
          go_wp2
          go_ret
          exact FIN.out
  · have t1 : (o.doo == 1) = false := by rw [beq_eq_false_iff_ne]; exact d1
    have D1 := Lib.hid d1; clear d1
    by_cases d2 : o.doo = 2
    · have t2 : (o.doo == 2) = true := by rw [beq_iff_eq]; exact d2
      have D2 := Lib.hid d2; clear d2
      have hp : pOk o = true := by unfold pOk; rw [if_neg D1.out]; rw [if_pos D2.out]
      have he : wOp l e o = wNum l e (i64n o.i) 8 := by unfold wOp; rw [hp, if_neg (by decide)]; rw [if_neg D1.out]; rw [if_pos D2.out]
      have HE := Lib.hid he; have HP := Lib.hid hp; clear he hp
      have YES := Lib.hid (fun w2 v2 h1 h2 => put_yes (w2 := w2) (v2 := v2) (v := v) (w := w) (base := base) HP.out HE.out WU1.out h1 h2)
      go_enter Tryd.func33, Tryd.ntmps33
      go_wp2_with (first | (with_reducible refine wpList_box_as (o := ⟨some 3, _, _, _, _, _⟩) rfl 99 (.tmp 1) rfl (opv o) rfl HW.out ?_))
      refine (Int_calls pb po base o.i w1 v l e H1.out BH.out (by have := LH.out; omega)).mono ?_
      rintro r w2 ⟨rfl, v2, hw, hu⟩
      have FIN := Lib.hid (YES.out w2 v2 hw hu)
      clear hw hu
      go_wp2
      go_ret
      exact FIN.out
    · have t2 : (o.doo == 2) = false := by rw [beq_eq_false_iff_ne]; exact d2
      have D2 := Lib.hid d2; clear d2
      by_cases d3 : o.doo = 3
      · have t3 : (o.doo == 3) = true := by rw [beq_iff_eq]; exact d3
        have D3 := Lib.hid d3; clear d3
        have hp : pOk o = true := by unfold pOk; rw [if_neg D1.out]; rw [if_neg D2.out]; rw [if_pos D3.out]
        have he : wOp l e o = wNum l e o.fl.toNat 1 := by unfold wOp; rw [hp, if_neg (by decide)]; rw [if_neg D1.out]; rw [if_neg D2.out]; rw [if_pos D3.out]
        have HE := Lib.hid he; have HP := Lib.hid hp; clear he hp
        have YES := Lib.hid (fun w2 v2 h1 h2 => put_yes (w2 := w2) (v2 := v2) (v := v) (w := w) (base := base) HP.out HE.out WU1.out h1 h2)
        go_enter Tryd.func33, Tryd.ntmps33
        go_wp2_with (first | (with_reducible refine wpList_box_as (o := ⟨some 3, _, _, _, _, _⟩) rfl 99 (.tmp 1) rfl (opv o) rfl HW.out ?_))
        refine (Flag_calls pb po base o.fl w1 v l e H1.out BH.out (by have := LH.out; omega)).mono ?_
        rintro r w2 ⟨rfl, v2, hw, hu⟩
        have FIN := Lib.hid (YES.out w2 v2 hw hu)
        clear hw hu
        go_wp2
        go_ret
        exact FIN.out
      · have t3 : (o.doo == 3) = false := by rw [beq_eq_false_iff_ne]; exact d3
        have D3 := Lib.hid d3; clear d3
        by_cases d4 : o.doo = 4
        · have t4 : (o.doo == 4) = true := by rw [beq_iff_eq]; exact d4
          have D4 := Lib.hid d4; clear d4
          have bn := OK.out.bn
          by_cases c5 : 1048576 < o.b.length
          · have s5 : decide ((1048576 : Int) < (o.b.length : Int)) = true := decide_eq_true (by omega)
            have s5' : decide (1048576 < o.b.length) = true := decide_eq_true c5
            have hp : pOk o = false := by unfold pOk; rw [if_neg D1.out]; rw [if_neg D2.out]; rw [if_neg D3.out]; rw [if_pos D4.out]; exact decide_eq_false (by omega)
            have NO := Lib.hid (put_no (l := l) (e := e) hp H1.out WU1.out)
            go_enter Tryd.func33, Tryd.ntmps33
            go_wp2_with (first | (with_reducible refine wpList_box_as (o := ⟨some 3, _, _, _, _, _⟩) rfl 99 (.tmp 1) rfl (opv o) rfl HW.out ?_))
            go_ret
            exact NO.out
          · have s5 : decide ((1048576 : Int) < (o.b.length : Int)) = false := decide_eq_false (by omega)
            have s5' : decide (1048576 < o.b.length) = false := decide_eq_false c5
            have hp : pOk o = true := by unfold pOk; rw [if_neg D1.out]; rw [if_neg D2.out]; rw [if_neg D3.out]; rw [if_pos D4.out]; exact decide_eq_true (by omega)
            have he : wOp l e o = wText l e o.b := by unfold wOp; rw [hp, if_neg (by decide)]; rw [if_neg D1.out]; rw [if_neg D2.out]; rw [if_neg D3.out]; rw [if_pos D4.out]
            have HE := Lib.hid he; have HP := Lib.hid hp; clear he hp
            have YES := Lib.hid (fun w2 v2 h1 h2 => put_yes (w2 := w2) (v2 := v2) (v := v) (w := w) (base := base) HP.out HE.out WU1.out h1 h2)
            go_enter Tryd.func33, Tryd.ntmps33
            go_wp2_with (first | (with_reducible refine wpList_box_as (o := ⟨some 3, _, _, _, _, _⟩) rfl 99 (.tmp 1) rfl (opv o) rfl HW.out ?_))
            refine (Bytes_calls pb po base o.ba o.bc o.b w1 v l e H1.out BH.out (by have := LH.out; omega) (by omega) Y1.out).mono ?_
            rintro r w2 ⟨rfl, v2, hw, hu⟩
            have FIN := Lib.hid (YES.out w2 v2 hw hu)
            clear hw hu
            go_wp2
            go_ret
            exact FIN.out
        · have t4 : (o.doo == 4) = false := by rw [beq_eq_false_iff_ne]; exact d4
          have D4 := Lib.hid d4; clear d4
          by_cases d5 : o.doo = 5
          · have t5 : (o.doo == 5) = true := by rw [beq_iff_eq]; exact d5
            have D5 := Lib.hid d5; clear d5
            have bn := OK.out.bn
            by_cases c5 : 1048576 < o.b.length
            · have s5 : decide ((1048576 : Int) < (o.b.length : Int)) = true := decide_eq_true (by omega)
              have s5' : decide (1048576 < o.b.length) = true := decide_eq_true c5
              have hp : pOk o = false := by unfold pOk; rw [if_neg D1.out]; rw [if_neg D2.out]; rw [if_neg D3.out]; rw [if_neg D4.out]; rw [if_pos D5.out]; exact decide_eq_false (by omega)
              have NO := Lib.hid (put_no (l := l) (e := e) hp H1.out WU1.out)
              go_enter Tryd.func33, Tryd.ntmps33
              go_wp2_with (first | (with_reducible refine wpList_box_as (o := ⟨some 3, _, _, _, _, _⟩) rfl 99 (.tmp 1) rfl (opv o) rfl HW.out ?_))
              go_ret
              exact NO.out
            · have s5 : decide ((1048576 : Int) < (o.b.length : Int)) = false := decide_eq_false (by omega)
              have s5' : decide (1048576 < o.b.length) = false := decide_eq_false c5
              have hp : pOk o = true := by unfold pOk; rw [if_neg D1.out]; rw [if_neg D2.out]; rw [if_neg D3.out]; rw [if_neg D4.out]; rw [if_pos D5.out]; exact decide_eq_true (by omega)
              have he : wOp l e o = wText l e o.b := by unfold wOp; rw [hp, if_neg (by decide)]; rw [if_neg D1.out]; rw [if_neg D2.out]; rw [if_neg D3.out]; rw [if_neg D4.out]; rw [if_pos D5.out]
              have HE := Lib.hid he; have HP := Lib.hid hp; clear he hp
              have x1 : (convert 55 9 (.slice o.ba o.b.length o.bc)).run Tryd.prog w1 = .ok (.string ⟨o.b.toArray⟩) w1 := conv_bytes Tryd.underlying55 Tryd.underlying5 Tryd.underlying9 Y1.out
              have YES := Lib.hid (fun w2 v2 h1 h2 => put_yes (w2 := w2) (v2 := v2) (v := v) (w := w) (base := base) HP.out HE.out WU1.out h1 h2)
              go_enter Tryd.func33, Tryd.ntmps33
              go_wp2_with (first | (with_reducible refine wpList_box_as (o := ⟨some 3, _, _, _, _, _⟩) rfl 99 (.tmp 1) rfl (opv o) rfl HW.out ?_))
              refine (Text_calls pb po base ⟨o.b.toArray⟩ w1 v l e H1.out BH.out (by have := LH.out; omega) (by have h := bn; simp [ByteArray.size]; omega)).mono ?_
              rintro r w2 ⟨rfl, v2, hw, hu⟩
              have FIN := Lib.hid (YES.out w2 v2 hw hu)
              clear hw hu
              go_wp2
              go_ret
              exact FIN.out
          · have t5 : (o.doo == 5) = false := by rw [beq_eq_false_iff_ne]; exact d5
            have D5 := Lib.hid d5; clear d5
            by_cases d6 : o.doo = 6
            · have t6 : (o.doo == 6) = true := by rw [beq_iff_eq]; exact d6
              have D6 := Lib.hid d6; clear d6
              have hp : pOk o = true := by unfold pOk; rw [if_neg D1.out]; rw [if_neg D2.out]; rw [if_neg D3.out]; rw [if_neg D4.out]; rw [if_neg D5.out]; exact decide_eq_true D6.out
              have he : wOp l e o = wID l e o.d := by unfold wOp; rw [hp, if_neg (by decide)]; rw [if_neg D1.out]; rw [if_neg D2.out]; rw [if_neg D3.out]; rw [if_neg D4.out]; rw [if_neg D5.out]; 
              have HE := Lib.hid he; have HP := Lib.hid hp; clear he hp
              have SZ : Hid ((Tryd.prog.info? 97).map (·.size) = some (idv o.d).size) := by show _ = _; rw [idv_size, OK.out.dn]; kernel_rfl
              have YES := Lib.hid (fun w2 v2 h1 h2 => put_yes (w2 := w2) (v2 := v2) (v := v) (w := w) (base := base) HP.out HE.out WU1.out h1 h2)
              go_enter Tryd.func33, Tryd.ntmps33
              go_wp2_with (first | (with_reducible refine wpList_box_as (o := ⟨some 3, _, _, _, _, _⟩) rfl 99 (.tmp 1) rfl (opv o) rfl HW.out ?_) | (with_reducible refine wpList_load_arr (op := ⟨some 75, _, _, _, _, _⟩) rfl 97 (.tmp 74) rfl w.heap.size 7 rfl (idv o.d) _ r7.out Tryd.underlying97 rfl SZ.out ?_))
              refine (ID_calls pb po base o.d OK.out.dn w1 v l e H1.out BH.out (by have := LH.out; omega)).mono ?_
              rintro r w2 ⟨rfl, v2, hw, hu⟩
              have FIN := Lib.hid (YES.out w2 v2 hw hu)
              clear hw hu
              go_wp2
              go_ret
              exact FIN.out
            · have t6 : (o.doo == 6) = false := by rw [beq_eq_false_iff_ne]; exact d6
              have D6 := Lib.hid d6; clear d6
              have hp : pOk o = false := by unfold pOk; rw [if_neg D1.out]; rw [if_neg D2.out]; rw [if_neg D3.out]; rw [if_neg D4.out]; rw [if_neg D5.out]; exact decide_eq_false D6.out
              have NO := Lib.hid (put_no (l := l) (e := e) hp H1.out WU1.out)
              go_enter Tryd.func33, Tryd.ntmps33
              go_wp2_with (first | (with_reducible refine wpList_box_as (o := ⟨some 3, _, _, _, _, _⟩) rfl 99 (.tmp 1) rfl (opv o) rfl HW.out ?_))
              go_ret
              exact NO.out
end Go.Proofs.YtjiciklnhcmfaaaDoor
