/- FrameRow's walk: frames one behind the other are taken one by one. -/
import Derived.Test.YtnbpkignkfabkaaGreatDoorStep
/- RecordLong: rows and bodies at their limits. -/
namespace Go.Proofs.YtnbpkignkfabkaaGreatDoor
set_option linter.unusedVariables false
set_option linter.unusedSimpArgs false
open Go.RowKit
set_option maxRecDepth 100000 in
theorem Within_calls (i n : Int) (w : World) (hn : 0 < n) (hn2 : n ≤ 4611686018427387904) (hi1 : -9223372036854775808 ≤ i) (hi2 : i ≤ 9223372036854775807) :
    Calls Tryz.prog 4 #[.int .i64 i, .int .i64 n] w fun r w' => r = .returned (.int .i64 (i % n)) ∧ w = w' := by
  have t0 : (n == 0) = false := beq_eq_false_iff_ne.2 (by omega)
  have hlt := Int.emod_lt_of_pos i hn
  have hge := Int.emod_nonneg i (show n ≠ 0 by omega)
  by_cases h : i.tmod n < 0
  · have e : i.tmod n + n = i % n := by
      have := Int.tmod_eq_emod (a := i) (b := n)
      split at this <;> omega
    have E := Lib.hid e; clear e
    have b1 : -n ≤ i.tmod n := by have := E.out; omega
    go_enter Tryz.func4, Tryz.ntmps4
    go_wp2
    go_ret
    exact ⟨by rw [← E.out]; rfl, rfl⟩
  · have e : i.tmod n = i % n := by
      have := Int.tmod_eq_emod (a := i) (b := n)
      split at this <;> omega
    have E := Lib.hid e; clear e
    go_enter Tryz.func4, Tryz.ntmps4
    go_wp2
    go_ret
    exact ⟨by rw [← E.out]; rfl, rfl⟩

theorem rBytes_text (t u : List UInt8) (h : t.length ≤ 1048576) : rBytes (be t.length 4 ++ t ++ u) 0 = (t, u, 0) := by
  have h4 : (be t.length 4).length = 4 := be_length _ _
  have hl : (be t.length 4 ++ t ++ u).length = 4 + t.length + u.length := by simp only [List.length_append, h4]
  have e1 : ofBe ((be t.length 4 ++ t ++ u).take 4) = t.length := by
    rw [List.append_assoc, List.take_left' h4, ofBe_be]
    exact Nat.mod_eq_of_lt (by omega)
  have e2 : (be t.length 4 ++ t ++ u).drop 4 = t ++ u := by rw [List.append_assoc]; exact List.drop_left' h4
  unfold rBytes
  rw [if_pos rfl, if_pos (by omega), e1, if_pos h, if_pos (by omega), e2, List.take_left, List.drop_left]

end Go.Proofs.YtnbpkignkfabkaaGreatDoor
namespace Go.Proofs.YtnbpkignkfabkaaGreatDoor
set_option linter.unusedVariables false
set_option linter.unusedSimpArgs false
open Go.RowKit
/-- Frames one behind the other. -/
def fl (l : List (List UInt8)) : List UInt8 := l.flatMap frm
theorem fl_snoc (l : List (List UInt8)) (x : List UInt8) : fl (l ++ [x]) = fl l ++ frm x := by simp [fl]
/-- The slices that stand in a row, so many. -/
def svs (xss : List (List UInt8)) (Af : Nat → Option Addr) (Cf : Nat → Nat) (n : Nat) : List Value := (List.range n).map fun j => .slice (Af j) (xss.getD j []).length (Cf j)
theorem svs_length (xss : List (List UInt8)) (Af : Nat → Option Addr) (Cf : Nat → Nat) (n : Nat) : (svs xss Af Cf n).length = n := by simp [svs]
theorem svs_succ (xss : List (List UInt8)) (Af : Nat → Option Addr) (Cf : Nat → Nat) (n : Nat) : svs xss Af Cf (n + 1) = svs xss Af Cf n ++ [.slice (Af n) (xss.getD n []).length (Cf n)] := by simp [svs, List.range_succ]
theorem svs_get {xss : List (List UInt8)} {Af : Nat → Option Addr} {Cf : Nat → Nat} {n j : Nat} (h : j < n) : (svs xss Af Cf n)[j]? = some (.slice (Af j) (xss.getD j []).length (Cf j)) := by simp [svs, h]
theorem getD_lt {xss : List (List UInt8)} {i : Nat} (h : i < xss.length) : xss.getD i [] = xss[i] := by simp [List.getD, h]

theorem ownBlock_slice (a : Option Addr) (n c : Nat) : (Value.slice a n c).ownBlock = a.map (·.block) := by cases a <;> rfl
/-- What the first loop has laid. -/
structure FR1 (w0 w : World) (xss : List (List UInt8)) (Af : Nat → Option Addr) (Cf : Nat → Nat) (n : Nat) (vb vk : Value) : Prop where
  le : n ≤ xss.length
  b : Own w w0.heap.size 5 1 vb (fl (xss.take n)).length (bys (fl (xss.take n)))
  k : Own w w0.heap.size 74 1 vk n (svs xss Af Cf n)
  bel : Below w0.heap.size w0 w
  many : n ≤ 100
  room : (fl (xss.take n)).length ≤ 1100000
  each : ∀ i, i < n → (xss.getD i []).length ≤ 1048576

end Go.Proofs.YtnbpkignkfabkaaGreatDoor
