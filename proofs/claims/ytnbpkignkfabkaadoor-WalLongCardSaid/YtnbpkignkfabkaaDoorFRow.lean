/- FrameRow's walk: frames one behind the other are taken one by one. -/
import Derived.Test.YtnbpkignkfabkaaDoorStep
import Derived.Test.YtnbpkignkfabkaaDoorLong
namespace Go.Proofs.YtnbpkignkfabkaaDoor
set_option linter.unusedVariables false
set_option linter.unusedSimpArgs false
open Go.RowKit
/-- Frames one behind the other. -/
def fl (l : List (List UInt8)) : List UInt8 := l.flatMap frm
theorem fl_snoc (l : List (List UInt8)) (x : List UInt8) : fl (l ++ [x]) = fl l ++ frm x := by simp [fl]
/-- The slices that stand in a row, so many. -/
def svs (xss : List (List UInt8)) (Af : Nat → Option Addr) (Cf : Nat → Nat) (n : Nat) : List Value := (List.range n).map fun j => .slice (Af j) (xss.getD j []).length (Cf j)
theorem svs_length (xss : List (List UInt8)) (Af : Nat → Option Addr) (Cf : Nat → Nat) (n : Nat) : (svs xss Af Cf n).length = n := by simp [svs]
theorem svs_succ (xss : List (List UInt8)) (Af : Nat → Option Addr) (Cf : Nat → Nat) (n : Nat) : svs xss Af Cf (n + 1) = svs xss Af Cf n ++ [.slice (Af n) (xss.getD n []).length (Cf n)] := by simp [svs, List.range_succ]
theorem svs_get {xss : List (List UInt8)} {Af : Nat → Option Addr} {Cf : Nat → Nat} {n j : Nat} (h : j < n) : (svs xss Af Cf n)[j]? = some (.slice (Af j) (xss.getD j []).length (Cf j)) := by simp [svs, h]
theorem getD_lt {xss : List (List UInt8)} {i : Nat} (h : i < xss.length) : xss.getD i [] = xss[i] := by simp [List.getD, h]

theorem ownBlock_slice (a : Option Addr) (n c : Nat) : (Value.slice a n c).ownBlock = a.map (·.block) := by cases a <;> rfl
/-- What the first loop has laid. -/
structure FR1 (w0 w : World) (xss : List (List UInt8)) (Af : Nat → Option Addr) (Cf : Nat → Nat) (n : Nat) (vb vk : Value) : Prop where
  le : n ≤ xss.length
  b : Own w w0.heap.size 5 1 vb (fl (xss.take n)).length (bys (fl (xss.take n)))
  k : Own w w0.heap.size 35 1 vk n (svs xss Af Cf n)
  bel : Below w0.heap.size w0 w
  many : n ≤ 100
  room : (fl (xss.take n)).length ≤ 1100000
  each : ∀ i, i < n → (xss.getD i []).length ≤ 1048576

end Go.Proofs.YtnbpkignkfabkaaDoor
