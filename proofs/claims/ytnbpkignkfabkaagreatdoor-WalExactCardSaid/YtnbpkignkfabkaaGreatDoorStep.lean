/- Calls as steps of a drawing region, with the arguments one by one. -/
import Derived.Test.YtnbpkignkfabkaaGreatDoorFrmLaw
import Derived.Lib.SlBytesConst
import Derived.Deep.DeepCutAuto
import Derived.Deep.CutBlock
/- posternlaw3.works answers true. -/
namespace Go.Proofs.YtnbpkignkfabkaaGreatDoor
set_option linter.unusedVariables false
set_option linter.unusedSimpArgs false
open Go.RowKit
def wk : List UInt8 := [1, 2, 0, 0, 0, 1, 97]
theorem below_wupd {w0 w w' : World} {pb po : Nat} {v v' : Value} (hb : Below w0.heap.size w0 w) (h : WUpd w w' pb po v v') (hp : w0.heap.size ≤ pb) (hv : ∀ k, v.ownBlock = some k → w0.heap.size ≤ k) : Below w0.heap.size w0 w' :=
  hb.trans (h.upd.below (by rintro k (rfl | hk) _; exact hp; exact hv k hk) hb.size)
theorem below_rupd {w0 w w' : World} {rb ro : Nat} (hb : Below w0.heap.size w0 w) (h : RUpd w w' rb ro) (hp : w0.heap.size ≤ rb) : Below w0.heap.size w0 w' :=
  hb.trans (h.upd.below (by rintro k rfl _; exact hp) hb.size)

end Go.Proofs.YtnbpkignkfabkaaGreatDoor
/- Rows of rows of bytes, read; posternref0.Copy. -/
namespace Go.Proofs.YtnbpkignkfabkaaGreatDoor
set_option linter.unusedVariables false
set_option linter.unusedSimpArgs false
open Go.RowKit
/-- Rows of bytes stand at a: row i begins at Af i. -/
structure Rd2 (w : World) (a : Option Addr) (xss : List (List UInt8)) (Af : Nat → Option Addr) (Cf : Nat → Nat) : Prop where
  cell : ∀ i (h : i < xss.length), ∃ b o, a = some ⟨b, o, none⟩ ∧ w.cell? ⟨b, o + i, none⟩ = some (.slice (Af i) xss[i].length (Cf i))
  byt : ∀ i (h : i < xss.length), Byt w (Af i) xss[i]
  cap : ∀ i (h : i < xss.length), xss[i].length ≤ Cf i
  short : ∀ i (h : i < xss.length), xss[i].length ≤ 140737488355328
theorem Rd2.below {w w' : World} {a : Option Addr} {xss : List (List UInt8)} {Af : Nat → Option Addr} {Cf : Nat → Nat} (h : Rd2 w a xss Af Cf) (hb : Below w.heap.size w w') : Rd2 w' a xss Af Cf := by
  refine ⟨fun i hi => ?_, fun i hi => (h.byt i hi).below hb, h.cap, h.short⟩
  obtain ⟨b, o, e, hc⟩ := h.cell i hi
  exact ⟨b, o, e, (hb.cell (p := ⟨b, o + i, none⟩) (World.block_lt_of_cell? w _ hc)).trans hc⟩
/-- Two owned rows of unlike element types lie in unlike blocks. -/
theorem Own.ne_type {w : World} {b1 b2 : Nat} {e1 e2 : TypeId} {s1 s2 : Nat} {v1 v2 : Value} {n1 n2 : Nat} {x1 x2 : List Value} (h1 : Own w b1 e1 s1 v1 n1 x1) (h2 : Own w b2 e2 s2 v2 n2 x2) (he : e1 ≠ e2) : ∀ k, v1.ownBlock = some k → v2.ownBlock ≠ some k := by
  intro k hk hk2
  rcases h1.2 with ⟨rfl, _⟩ | ⟨g, cap, cur, fr, rfl, _, hg, _⟩
  · cases hk
  · rcases h2.2 with ⟨rfl, _⟩ | ⟨g', cap', cur', fr', rfl, _, hg', _⟩
    · cases hk2
    · simp only [Value.ownBlock, Option.some.injEq] at hk hk2
      subst hk hk2
      rw [hg] at hg'
      injection hg' with hg'
      injection hg' with _ h _
      exact he h
theorem infoRow : (Tryz.prog.info? 74).map (fun i => (i.zero, i.size, i.bytes)) = some (some (.slice none 0 0), 1, 24) := by kernel_rfl

set_option maxRecDepth 100000 in
set_option maxHeartbeats 1000000 in
theorem Copy_calls (a : Option Addr) (cap : Nat) (t : List UInt8) (w : World) (ht : Byt w a t) (hs : t.length ≤ 140737488355328) :
    Calls Tryz.prog 102 #[.slice a t.length cap] w fun r w' => ∃ v', r = .returned v' ∧ Own w' w.heap.size 5 1 v' t.length (bys t) ∧ Below w.heap.size w w' := by
  have HT := Lib.hid ht; clear ht
  have M1 : Hid (0 + t.length ≤ maxLen) := by show _ ≤ _; unfold maxLen; omega
  have M2 : Hid ((0 + t.length) * 1 ≤ 140737488355328) := by show _ ≤ _; omega
  have O1 : Hid (Own w w.heap.size 5 1 (.slice none 0 0) 0 []) := Own.nil _ _ _ _
  go_enter Tryz.func102, Tryz.ntmps102
  go_wp2_with (at_builtin; refine wpList_append rfl (.tmp 4) (.tmp 5) 74 74 rfl w.heap.size 5 (.int .u8 0) 1 1 Tryz.underlying74 infoByte rfl (v := .slice none 0 0) (n := 0) (xs := []) O1.out rfl (xv := .slice a t.length cap) (m := t.length) (news := bys t) (Src_byt Tryz.underlying74 HT.out (fun _ => .inr trivial)) rfl M1.out M2.out (Nat.le_refl _) ?_)
  intro v2 w2 ho2 hg2 hn2 hv2
  have B2 : Hid (Below w.heap.size w w2) := (Below.refl _ w).grown hg2 (Nat.le_refl _) (by intro k hk; cases hk)
  have O2 := Lib.hid ho2; clear ho2 hg2 hn2 hv2
  go_wp2
  go_ret
  exact ⟨_, rfl, by simpa using O2.out, B2.out⟩
end Go.Proofs.YtnbpkignkfabkaaGreatDoor
namespace Go.Proofs.YtnbpkignkfabkaaGreatDoor
set_option linter.unusedVariables false
set_option linter.unusedSimpArgs false
open Go.RowKit
theorem step_call1 {P : Program} {ops : Array Oper} {o : Oper} {a : Act} {w : World} {K : Act → World → Prop} {Q : Exit → Act → World → Prop} {E : Prop} (hg : o.guard = none) {f : FuncId} {x : Operand} {ts : Array TypeId}
    (hop : o.op = Op.call { callee := Callee.value (.func f), args := #[x], argTypes := ts }) {v : Value} (hv : a.eval x = v) (hen : ∀ w' : World, (callFunc f #[v]).run P w' = .ok (.enter f #[v]) w')
    {R : Ending → World → Prop} (hc : Calls P f #[v] w R) (h : ∀ e w', R e w' → ∃ v, e = .returned v ∧ K (a.put o.dst v) w') :
    if Region.wanted o (yielded ops a.tmps) = true then Oper.wp P o a w K Q else E :=
  step_call hg hop (by simp [hv]) hen hc h
theorem step_call2 {P : Program} {ops : Array Oper} {o : Oper} {a : Act} {w : World} {K : Act → World → Prop} {Q : Exit → Act → World → Prop} {E : Prop} (hg : o.guard = none) {f : FuncId} {x y : Operand} {ts : Array TypeId}
    (hop : o.op = Op.call { callee := Callee.value (.func f), args := #[x, y], argTypes := ts }) {v u : Value} (hv : a.eval x = v) (hu : a.eval y = u) (hen : ∀ w' : World, (callFunc f #[v, u]).run P w' = .ok (.enter f #[v, u]) w')
    {R : Ending → World → Prop} (hc : Calls P f #[v, u] w R) (h : ∀ e w', R e w' → ∃ v, e = .returned v ∧ K (a.put o.dst v) w') :
    if Region.wanted o (yielded ops a.tmps) = true then Oper.wp P o a w K Q else E :=
  step_call hg hop (by simp [hv, hu]) hen hc h
theorem step_call3 {P : Program} {ops : Array Oper} {o : Oper} {a : Act} {w : World} {K : Act → World → Prop} {Q : Exit → Act → World → Prop} {E : Prop} (hg : o.guard = none) {f : FuncId} {x y z : Operand} {ts : Array TypeId}
    (hop : o.op = Op.call { callee := Callee.value (.func f), args := #[x, y, z], argTypes := ts }) {v u t : Value} (hv : a.eval x = v) (hu : a.eval y = u) (ht : a.eval z = t) (hen : ∀ w' : World, (callFunc f #[v, u, t]).run P w' = .ok (.enter f #[v, u, t]) w')
    {R : Ending → World → Prop} (hc : Calls P f #[v, u, t] w R) (h : ∀ e w', R e w' → ∃ v, e = .returned v ∧ K (a.put o.dst v) w') :
    if Region.wanted o (yielded ops a.tmps) = true then Oper.wp P o a w K Q else E :=
  step_call hg hop (by simp [hv, hu, ht]) hen hc h
/-- One cell of a row of the call's own is turned. -/
theorem Own.set {w : World} {base : Nat} {e : TypeId} {g cap n : Nat} {xs : List Value} (h : Own w base e 1 (.slice (some ⟨g, 0, none⟩) n cap) n xs) (j : Nat) (u : Value) :
    Own (w.setCell ⟨g, j, none⟩ u) base e 1 (.slice (some ⟨g, 0, none⟩) n cap) n (xs.set j u) := by
  obtain ⟨hl, hn | ⟨g', cap', cur, fr, heq, hb, hh, hf, h1, h2, h3, h4⟩⟩ := h
  · cases hn.1
  · cases heq
    have hk : (w.setCell ⟨g, j, none⟩ u).heap[g]? = some (.cells (cur.setIfInBounds j u) e fr) := by
      have hg : g < w.heap.size := lt_of_block hh
      have hv : w.heap[g] = .cells cur e fr := (Array.getElem?_eq_some_iff.1 hh).2
      show (w.heap.modify g _)[g]? = _
      rw [Array.getElem?_eq_getElem (by simpa using hg), Array.getElem_modify_self, hv]
      rfl
    exact ⟨by simpa using hl, .inr ⟨g, cap, cur.setIfInBounds j u, fr, rfl, hb, hk, by simpa using hf, h1, h2, by simpa using h3, by rw [← h4]; simp [List.take_set]⟩⟩
theorem bys_set (xs : List UInt8) (j : Nat) (y : UInt8) : (bys xs).set j (.int .u8 (y.toNat : Int)) = bys (xs.set j y) := by simp [bys, List.map_set]
theorem xor8 (a : UInt8) (m : Nat) (h : m < 255) : bits BinOp.xor IntKind.u8 (a.toNat : Int) (IntKind.u8.wrap (IntKind.i64.wrap (1 + (m : Int)))) = ((a ^^^ UInt8.ofNat (1 + m)).toNat : Int) := by
  have e : IntKind.u8.wrap (IntKind.i64.wrap (1 + (m : Int))) = ((UInt8.ofNat (1 + m)).toNat : Int) := by
    have h1 : ((UInt8.ofNat (1 + m)).toNat) = 1 + m := by rw [UInt8.toNat_ofNat']; exact Nat.mod_eq_of_lt (by omega)
    rw [h1, IntKind.wrap_i64, wrap_u8]
    omega
  rw [e]
  generalize UInt8.ofNat (1 + m) = b
  have e2 : ∀ z : UInt8, BitVec.ofInt 8 (z.toNat : Int) = z.toBitVec := by intro z; rw [BitVec.ofInt_natCast]; simp
  show IntKind.u8.wrap ((BitVec.ofInt 8 (a.toNat : Int) ^^^ BitVec.ofInt 8 (b.toNat : Int)).toNat : Int) = _
  rw [e2, e2, wrap_u8]
  show ((a.toBitVec ^^^ b.toBitVec).toNat : Int) % 256 = ((a.toBitVec ^^^ b.toBitVec).toNat : Int)
  have := (a.toBitVec ^^^ b.toBitVec).isLt
  omega
theorem bel_drew {B : Nat} {a w : World} (h : Below B a w) : Below B a w.drew := ⟨h.os, h.tape, h.output, h.size, h.block⟩
theorem bel_undrew {B : Nat} {a w : World} (h : Below B a.drew w) : Below B a w := ⟨h.os, h.tape, h.output, h.size, h.block⟩
/-- What element i of a row of Framed holds. -/
structure RdF (w : World) (a : Option Addr) (n : Nat) (B T : Nat → List UInt8) (Ba Ta : Nat → Option Addr) (Bc Tc : Nat → Nat) (At By : Nat → Int) : Prop where
  cell : ∀ i, i < n → ∃ b o, a = some ⟨b, o, none⟩ ∧ w.cell? ⟨b, o + i * 4, none⟩ = some (.slice (Ba i) (B i).length (Bc i)) ∧ w.cell? ⟨b, o + i * 4 + 1, none⟩ = some (.slice (Ta i) (T i).length (Tc i)) ∧ w.cell? ⟨b, o + i * 4 + 2, none⟩ = some (.int .i64 (At i)) ∧ w.cell? ⟨b, o + i * 4 + 3, none⟩ = some (.int .i64 (By i))
  byt : ∀ i, i < n → Byt w (Ba i) (B i) ∧ Byt w (Ta i) (T i)
  cap : ∀ i, i < n → (B i).length ≤ Bc i ∧ (T i).length ≤ Tc i
  short : ∀ i, i < n → (B i).length ≤ 140737488351232 ∧ (T i).length ≤ 140737488351232
  num : ∀ i, i < n → (-9223372036854775808 ≤ At i ∧ At i ≤ 9223372036854775807) ∧ (-9223372036854775808 ≤ By i ∧ By i ≤ 9223372036854775807)
end Go.Proofs.YtnbpkignkfabkaaGreatDoor
