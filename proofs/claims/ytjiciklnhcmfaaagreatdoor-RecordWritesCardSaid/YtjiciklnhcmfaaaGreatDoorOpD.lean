/- An Op of posternlaw3: its cells, what it does to a writer. -/
import Derived.Test.YtjiciklnhcmfaaaGreatDoorWid
import Derived.Deep.MidRow
namespace Go.Proofs.YtjiciklnhcmfaaaGreatDoor
set_option linter.unusedVariables false
set_option linter.unusedSimpArgs false
open Go.RowKit
/-- An Op. -/
structure OpD where
  doo : Int
  on : Int
  n : Nat
  wd : Int
  i : Int
  fl : Bool
  ba : Option Addr
  bc : Nat
  b : List UInt8
  d : List UInt8
def opv (o : OpD) : Array Value := #[.int .i64 o.doo, .int .i64 o.on, .int .u64 o.n, .int .i64 o.wd, .int .i64 o.i, .bool o.fl, .slice o.ba o.b.length o.bc] ++ idv o.d
theorem idv_size (l : List UInt8) : (idv l).size = l.length := by simp [idv, bys_length]
theorem opv_size (o : OpD) : (opv o).size = 7 + o.d.length := by unfold opv; rw [Array.size_append, idv_size]; rfl
theorem opv_lo (o : OpD) (k : Nat) (h : k < 7) : (opv o)[k]? = #[Value.int .i64 o.doo, .int .i64 o.on, .int .u64 o.n, .int .i64 o.wd, .int .i64 o.i, .bool o.fl, .slice o.ba o.b.length o.bc][k]? := by
  unfold opv
  rw [Array.getElem?_append, if_pos (show k < #[Value.int .i64 o.doo, .int .i64 o.on, .int .u64 o.n, .int .i64 o.wd, .int .i64 o.i, .bool o.fl, .slice o.ba o.b.length o.bc].size from h)]
theorem opv_hi (o : OpD) (k : Nat) : (opv o)[7 + k]? = (idv o.d)[k]? := by
  unfold opv
  rw [Array.getElem?_append, if_neg (show ¬ 7 + k < #[Value.int .i64 o.doo, .int .i64 o.on, .int .u64 o.n, .int .i64 o.wd, .int .i64 o.i, .bool o.fl, .slice o.ba o.b.length o.bc].size from (by show ¬ 7 + k < 7; omega))]
  congr 1
  show 7 + k - 7 = k
  omega
/-- A struct, an array is read out of the middle of a block: its cells under their name. -/
theorem wpList_load_arr {P : Program} {ops : Array Oper} {rest : List Oper} {op : Oper} {a : Act} {w : World} {Q : Exit → Act → World → Prop} (hgd : op.guard = none) (ty : TypeId) (x : Operand) (ho : op.op = .load ty x)
    (b o : Nat) (hx : a.eval x = .pointer (some ⟨b, o, none⟩)) (cells : Array Value) (d : TypeDesc) (hc : w.rangeAt b o cells.toList)
    (hu : P.underlying ty = some d) (hd : d.isRow = true) (hi : (P.info? ty).map (·.size) = some cells.size)
    (h : wpList P ops Q rest (a.put op.dst (.agg cells)) w) : wpList P ops Q (op :: rest) a w := by
  refine wpList_load_mid hgd ty x ho b o hx cells.toList d hc hu hd (by rw [hi, Array.length_toList]) ?_
  rw [Array.toArray_toList]
  exact h
theorem wpList_box_as {P : Program} {w w1 : World} {ops : Array Oper} {rest : List Oper} {o : Oper} {a : Act} {Q : Exit → Act → World → Prop} (hg : o.guard = none) (t : TypeId) (x : Operand) (hop : o.op = Op.box t x) (cells : Array Value) (hx : a.eval x = .agg cells) (hw : w.alloc (.cells cells t) = w1)
    (hK : wpList P ops Q rest (a.put o.dst (.pointer (some ⟨w.heap.size, 0, none⟩))) w1) : wpList P ops Q (o :: rest) a w := by
  subst hw
  exact wpList_box hg t x hop cells hx hK
/-- What a field does to a writer; whether it may be. -/
def pOk (o : OpD) : Bool :=
  if o.doo = 1 then decide (1 ≤ o.wd ∧ o.wd ≤ 8 ∧ (o.wd = 8 ∨ o.n / 2 ^ (8 * o.wd.toNat) = 0)) else if o.doo = 2 then true else if o.doo = 3 then true else if o.doo = 4 then decide (o.b.length ≤ 1048576) else if o.doo = 5 then decide (o.b.length ≤ 1048576) else decide (o.doo = 6)
def wOp (l : List UInt8) (e : Int) (o : OpD) : List UInt8 × Int :=
  if pOk o = false then (l, e) else if o.doo = 1 then wNum l e o.n o.wd else if o.doo = 2 then wNum l e (i64n o.i) 8 else if o.doo = 3 then wNum l e o.fl.toNat 1 else if o.doo = 4 then wText l e o.b else if o.doo = 5 then wText l e o.b else wID l e o.d
/-- What is known of an Op that is handed in. -/
structure OpOk (o : OpD) : Prop where
  dn : o.d.length = 16
  nn : o.n ≤ 18446744073709551615
  wn : -9223372036854775808 ≤ o.wd ∧ o.wd ≤ 9223372036854775807
  bn : o.b.length ≤ 140737488351232
  cn : o.b.length ≤ o.bc
end Go.Proofs.YtjiciklnhcmfaaaGreatDoor
