/- What a law of wal keeps beside a disk: a row of the rows that came in; one of them more. -/
import Derived.Test.YtnbpkignkfabkaaDoorWalRows
import Derived.Test.YtnbpkignkfabkaaDoorApp2
import Derived.Test.YtnbpkignkfabkaaDoorWalU
import Derived.Test.YtnbpkignkfabkaaDoorFRow
namespace Go.Proofs.YtnbpkignkfabkaaDoor
set_option linter.unusedVariables false
set_option linter.unusedSimpArgs false
open Go.RowKit Go.Maps
/-- An operation that is wanted, as if it stood without its guard. -/
theorem wpList_want {P : Program} {ops : Array Oper} {Q : Exit → Act → World → Prop} {a : Act} {w : World} {rest : List Oper} {o : Oper} (hw : Region.wanted o (yielded ops a.tmps) = true) (h : wpList P ops Q ({ o with guard := none } :: rest) a w) : wpList P ops Q (o :: rest) a w := by
  unfold wpList at h ⊢
  rw [if_pos hw]
  rw [if_pos (by simp [Region.wanted])] at h
  exact h
/-- Rows' bytes, without the row of them. -/
structure By2 (w : World) (xss : List (List UInt8)) (Af : Nat → Option Addr) (Cf : Nat → Nat) : Prop where
  byt : ∀ i (h : i < xss.length), Byt w (Af i) xss[i]
  cap : ∀ i (h : i < xss.length), xss[i].length ≤ Cf i
  short : ∀ i (h : i < xss.length), xss[i].length ≤ 140737488355328
theorem Rd2.by2 {w : World} {a : Option Addr} {xss : List (List UInt8)} {Af : Nat → Option Addr} {Cf : Nat → Nat} (h : Rd2 w a xss Af Cf) : By2 w xss Af Cf := ⟨h.byt, h.cap, h.short⟩
theorem By2.snoc {w : World} {xss : List (List UInt8)} {Af : Nat → Option Addr} {Cf : Nat → Nat} (h : By2 w xss Af Cf) (k : Nat) (hk : k ≤ xss.length) (x : List UInt8) (a : Option Addr) (c : Nat) (hb : Byt w a x) (hc : x.length ≤ c) (hx : x.length ≤ 140737488355328) :
    By2 w (xss.take k ++ [x]) (fun i => if i = k then a else Af i) (fun i => if i = k then c else Cf i) := by
  have hl : (xss.take k).length = k := by rw [List.length_take]; omega
  have e1 : ∀ i (h : i < (xss.take k ++ [x]).length), i ≠ k → ∃ h' : i < xss.length, (xss.take k ++ [x])[i] = xss[i] := by
    intro i h hne
    rw [List.length_append, hl, List.length_singleton] at h
    refine ⟨by omega, ?_⟩
    rw [List.getElem_append_left (by rw [hl]; omega), List.getElem_take]
  have e2 : ∀ (h : k < (xss.take k ++ [x]).length), (xss.take k ++ [x])[k] = x := by
    intro h
    rw [List.getElem_append_right (by rw [hl]; exact Nat.le_refl _)]
    simp [hl]
  refine ⟨fun i hi => ?_, fun i hi => ?_, fun i hi => ?_⟩
  all_goals
    by_cases e : i = k
    · subst e
      rw [e2]
      first | exact hx | (simp only [if_true]; assumption)
    · obtain ⟨h', e3⟩ := e1 i hi e
      rw [e3]
      first | exact h.short i h' | (simp only [if_neg e]; first | exact h.byt i h' | exact h.cap i h')
theorem svs_take (rows : List (List UInt8)) (Af : Nat → Option Addr) (Cf : Nat → Nat) (k : Nat) (hk : k ≤ rows.length) : svs (rows.take k) Af Cf k = svs rows Af Cf k := by
  unfold svs
  apply List.map_congr_left
  intro i hi
  have hi' : i < k := List.mem_range.1 hi
  simp [List.getD, List.getElem?_take, hi']
/-- A row v of the first k of the rows that came in. -/
structure Wn (w : World) (B : Nat) (v : Value) (k : Nat) (rows : List (List UInt8)) (Af : Nat → Option Addr) (Cf : Nat → Nat) (F : Nat → Prop) : Prop where
  own : Own w B 35 1 v k (svs rows Af Cf k)
  nf : ∀ g, v.ownBlock = some g → ¬ F g
  le : k ≤ rows.length
section
variable {w w' : World} {B k : Nat} {v : Value} {rows : List (List UInt8)} {Af : Nat → Option Addr} {Cf : Nat → Nat} {F F' : Nat → Prop}
theorem Wn.nil (w : World) (B : Nat) (rows : List (List UInt8)) (Af : Nat → Option Addr) (Cf : Nat → Nat) (F : Nat → Prop) : Wn w B (.slice none 0 0) 0 rows Af Cf F := ⟨Own.nil _ _ _ _, fun g h => by (cases h), Nat.zero_le _⟩
theorem Wn.step (h : Wn w B v k rows Af Cf F) (hu : Upd F w w') (hf : ∀ i, F' i → F i ∨ w.heap.size ≤ i) : Wn w' B v k rows Af Cf F' :=
  ⟨h.own.upd hu (fun j hj e => h.nf j hj e), fun g hg h9 => (hf g h9).elim (h.nf g hg) (fun h8 => by have := (h.own.lt g hg).2; omega), h.le⟩
theorem Wn.wal {lb db n : Nat} {nm : List UInt8} {o : Bool} (h : Wn w B v k rows Af Cf F) (hl : Lg w lb db nm n o) (hu : Upd (fun i => F i ∨ i = lb) w w') (hf : ∀ i, F' i → F i ∨ w.heap.size ≤ i) : Wn w' B v k rows Af Cf F' :=
  ⟨h.own.upd hu (fun j hj e => e.elim (h.nf j hj) (fun e => (h.own.not_ty hl (by decide)) (by rw [← e]; exact hj))), fun g hg h9 => (hf g h9).elim (h.nf g hg) (fun h8 => by have := (h.own.lt g hg).2; omega), h.le⟩
theorem Wn.below (h : Wn w B v k rows Af Cf F) (hb : Below w.heap.size w w') : Wn w' B v k rows Af Cf F := ⟨h.own.below hb, h.nf, h.le⟩
/-- As rows to read. -/
theorem Wn.rd (h : Wn w B v k rows Af Cf F) (hr : By2 w rows Af Cf) : ∃ a c, v = .slice a k c ∧ Rd2 w a (rows.take k) Af Cf := by
  obtain ⟨a, c, hv, hc, ha, -⟩ := h.own.shape'
  have hk := h.le
  have hl : (rows.take k).length = k := by rw [List.length_take]; omega
  have hg : ∀ i (hi : i < (rows.take k).length), (rows.take k)[i] = rows[i]'(by omega) := fun i hi => by simp
  refine ⟨a, c, hv, ⟨?_, ?_, ?_, ?_⟩⟩
  · intro i hi
    rw [hg i hi]
    rw [hl] at hi
    rw [hv] at h
    have ho := h.own
    cases a with
    | none =>
      rcases ho.2 with ⟨_, h0⟩ | ⟨_, _, _, _, h0, _⟩
      · omega
      · cases h0
    | some ad =>
      rw [(ha ad rfl).1] at ho ⊢
      refine ⟨_, 0, rfl, ?_⟩
      rw [Nat.zero_add, ho.cellAt i (by omega), svs_get hi, getD_lt (show i < rows.length by omega)]
  · intro i hi; rw [hg i hi]; exact hr.byt i (by rw [hl] at hi; omega)
  · intro i hi; rw [hg i hi]; exact hr.cap i (by rw [hl] at hi; omega)
  · intro i hi; rw [hg i hi]; exact hr.short i (by rw [hl] at hi; omega)
/-- One more. -/
theorem Wn.push {w4 : World} {v4 : Value} {o : Obj} (h : Wn w B v k rows Af Cf F) (hk : k < rows.length) (hF : ∀ i, F i → i < w.heap.size) (ho4 : Own w4 B 35 1 v4 (k + 1) (svs rows Af Cf k ++ [.slice (Af k) rows[k].length (Cf k)])) (hv : v4.ownBlock = v.ownBlock ∨ v4.ownBlock = some (w.alloc o).heap.size) : Wn w4 B v4 (k + 1) rows Af Cf F := by
  refine ⟨?_, ?_, hk⟩
  · rw [svs_succ, getD_lt hk]
    exact ho4
  · intro g hg hf
    rcases hv with hv | hv
    · exact h.nf g (by rw [← hv]; exact hg) hf
    · rw [hv] at hg
      have := hF g hf
      rw [World.size_alloc] at hg
      injection hg with hg
      omega
/-- One more that did not come in. -/
theorem Wn.snoc {w4 : World} {v4 : Value} {o : Obj} {x : List UInt8} {a : Option Addr} {c : Nat} (h : Wn w B v k rows Af Cf F) (hF : ∀ i, F i → i < w.heap.size) (ho4 : Own w4 B 35 1 v4 (k + 1) (svs rows Af Cf k ++ [.slice a x.length c])) (hv : v4.ownBlock = v.ownBlock ∨ v4.ownBlock = some (w.alloc o).heap.size) : Wn w4 B v4 (k + 1) (rows.take k ++ [x]) (fun i => if i = k then a else Af i) (fun i => if i = k then c else Cf i) F := by
  have hk := h.le
  have hl : (rows.take k).length = k := by rw [List.length_take]; omega
  refine ⟨?_, ?_, by rw [List.length_append, hl, List.length_singleton]; exact Nat.le_refl _⟩
  · have e := svs_next (rows.take k) x Af Cf a c
    simp only [hl] at e
    rw [e, svs_take _ _ _ _ hk]
    exact ho4
  · intro g hg hf
    rcases hv with hv | hv
    · exact h.nf g (by rw [← hv]; exact hg) hf
    · rw [hv] at hg
      have := hF g hf
      rw [World.size_alloc] at hg
      injection hg with hg
      omega
end
/-- What an append to such a row leaves of what stands beside it. -/
theorem DkS.push {w w4 : World} {B db k : Nat} {v : Value} {rows : List (List UInt8)} {Af : Nat → Option Addr} {Cf : Nat → Nat} {F : Nat → Prop} {s : DS} {o : Obj} (h : DkS w B db F s) (hw : Wn w B v k rows Af Cf F) (hg : (w.alloc o).grownBy w4 v.ownBlock) : DkS w4 B db F s ∧ Upd (fun i => v.ownBlock = some i) w w4 ∧ Below B w w4 := by
  have U4 : Upd (fun i => v.ownBlock = some i) w w4 := ((Upd.refl _ w).alloc o).grown hg (fun k hk _ => hk)
  exact ⟨h.upd U4 (fun i hi hf => hw.nf i hi hf), U4, U4.below (fun k hk _ => (hw.own.lt k hk).1) h.bw⟩
end Go.Proofs.YtnbpkignkfabkaaDoor
