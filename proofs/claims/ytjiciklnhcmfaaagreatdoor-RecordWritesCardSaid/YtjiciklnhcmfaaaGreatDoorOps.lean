/- Rows of Op. -/
import Derived.Test.YtjiciklnhcmfaaaGreatDoorOpD
import Derived.Great.BuildSlice
namespace Go.Proofs.YtjiciklnhcmfaaaGreatDoor
set_option linter.unusedVariables false
set_option linter.unusedSimpArgs false
open Go.RowKit
theorem opv_one (o : OpD) : ∀ u ∈ (opv o).toList, u.oneCell' = true := by
  intro u hu
  unfold opv at hu
  rw [Array.toList_append, List.mem_append] at hu
  rcases hu with hu | hu
  · simp at hu
    rcases hu with rfl | rfl | rfl | rfl | rfl | rfl | rfl <;> rfl
  · exact bys_one o.d u (by simpa [idv] using hu)
theorem opv_len {o : OpD} (h : o.d.length = 16) : (opv o).size = 23 := by rw [opv_size, h]
theorem opv_set6 (o : OpD) (a : Option Addr) (c : Nat) : (opv o).setIfInBounds 6 (.slice a o.b.length c) = opv { o with ba := a, bc := c } := by
  apply Array.ext_getElem?
  intro k
  rw [Array.getElem?_setIfInBounds]
  by_cases h6 : 6 = k
  · subst h6
    rw [if_pos rfl, if_pos (by rw [opv_size]; omega), opv_lo _ 6 (by decide)]
    rfl
  · rw [if_neg h6]
    by_cases h : k < 7
    · rw [opv_lo o k h, opv_lo _ k h]
      match k, h with
      | 0, _ | 1, _ | 2, _ | 3, _ | 4, _ | 5, _ => rfl
      | 6, _ => exact absurd rfl h6
    · obtain ⟨j, rfl⟩ : ∃ j, k = 7 + j := ⟨k - 7, by omega⟩
      rw [opv_hi, opv_hi]
def flat (L : List OpD) : List Value := L.flatMap fun o => (opv o).toList
theorem flat_snoc (L : List OpD) (o : OpD) : flat (L ++ [o]) = flat L ++ (opv o).toList := by simp [flat]
theorem flat_get : ∀ (L : List OpD) (_ : ∀ o ∈ L, o.d.length = 16) (k : Nat) (o : OpD) (_ : L[k]? = some o) (j : Nat) (u : Value), (opv o).toList[j]? = some u → (flat L)[k * 23 + j]? = some u
  | [], _, k, o, h, _, _, _ => by simp at h
  | a :: L, hd, 0, o, h, j, u, hu => by
    simp at h
    subst h
    have hl : (opv a).toList.length = 23 := by rw [Array.length_toList, opv_len (hd a (by simp))]
    have hj : j < (opv a).toList.length := (List.getElem?_eq_some_iff.1 hu).1
    show ((opv a).toList ++ flat L)[0 * 23 + j]? = _
    rw [Nat.zero_mul, Nat.zero_add, List.getElem?_append_left hj]
    exact hu
  | a :: L, hd, k + 1, o, h, j, u, hu => by
    have hl : (opv a).toList.length = 23 := by rw [Array.length_toList, opv_len (hd a (by simp))]
    show ((opv a).toList ++ flat L)[(k + 1) * 23 + j]? = _
    rw [List.getElem?_append_right (by omega), hl, show (k + 1) * 23 + j - 23 = k * 23 + j by omega]
    exact flat_get L (fun o ho => hd o (by simp [ho])) k o (by simpa using h) j u hu
/-- A row of Ops of the call's own: their bytes are its own too. -/
structure OpRow (w : World) (base : Nat) (v : Value) (L : List OpD) : Prop where
  row : Own w base 66 23 v L.length (flat L)
  ok : ∀ o ∈ L, OpOk o
  own : ∀ o ∈ L, Own w base 5 1 (.slice o.ba o.b.length o.bc) o.b.length (bys o.b)
theorem OpRow.nil (w : World) (base : Nat) : OpRow w base (.slice none 0 0) [] := ⟨Own.nil _ _ _ _, (fun _ h => by cases h), (fun _ h => by cases h)⟩
theorem OpRow.range {w : World} {base g cap : Nat} {L : List OpD} (h : OpRow w base (.slice (some ⟨g, 0, none⟩) L.length cap) L) (k : Nat) (o : OpD) (hk : L[k]? = some o) : w.rangeAt g (k * 23) (opv o).toList := by
  intro j u hu
  have h1 := flat_get L (fun o ho => (h.ok o ho).dn) k o hk j u hu
  exact h.row.cells rfl _ _ h1
theorem infoOp : (Tryz.prog.info? 66).map (fun i => (i.size, i.bytes)) = some (23, 88) := by kernel_rfl
/-- A struct, an array is laid over the cells of a block: all of it. -/
theorem wpList_store_arr {P : Program} {ops : Array Oper} {rest : List Oper} {op : Oper} {a : Act} {w : World} {Q : Exit → Act → World → Prop} (hgd : op.guard = none) (ty : TypeId) (x y : Operand) (ho : op.op = .store ty x y)
    (b : Nat) (cells zs : Array Value) (ty' : TypeId) (hx : a.eval x = .pointer (some ⟨b, 0, none⟩)) (hy : a.eval y = .agg cells) (hh : w.heap[b]? = some (.cells zs ty' (0, 0))) (hz : zs.size = cells.size)
    (hi : (P.info? ty).map (·.size) = some cells.size) (h1 : ∀ u ∈ cells.toList, u.oneCell' = true)
    (h : ∀ w', w'.heap[b]? = some (.cells cells ty' (0, 0)) → Upd (fun k => k = b) w w' → wpList P ops Q rest (a.put op.dst undef) w') : wpList P ops Q (op :: rest) a w := by
  refine wpList_store_mid hgd ty x y ho b 0 cells hx hy (fun j hj => ?_) hi ?_ ?_
  · rw [Nat.zero_add, cell_of_row' hh, Array.getElem?_eq_getElem (by omega)]
    exact ⟨rfl, frozen_of_row hh j⟩
  · rw [Array.all_eq_true_iff_forall_mem]
    intro v hv
    exact h1 v (by simpa using hv)
  · obtain ⟨cur', c1, c2, c3⟩ := setCells_heap b cells.toList 0 w zs ty' (0, 0) hh (by rw [Array.length_toList]; omega)
    refine h _ ?_ (setCells_upd b cells.toList 0 w)
    have e : cur' = cells := by
      apply Array.toList_inj.1
      rw [c3, List.take_zero, List.nil_append, List.drop_of_length_le (by rw [Array.length_toList, Array.length_toList]; omega), List.append_nil]
    subst e
    exact c1
/-- The same load, where a guard lets it run. -/
theorem wpList_load_arr_g {P : Program} {ops : Array Oper} {rest : List Oper} {op : Oper} {a : Act} {w : World} {Q : Exit → Act → World → Prop} (hgd : Region.wanted op (yielded ops a.tmps) = true) (ty : TypeId) (x : Operand) (ho : op.op = .load ty x)
    (b o : Nat) (hx : a.eval x = .pointer (some ⟨b, o, none⟩)) (cells : Array Value) (d : TypeDesc) (hc : w.rangeAt b o cells.toList)
    (hu : P.underlying ty = some d) (hd : d.isRow = true) (hi : (P.info? ty).map (·.size) = some cells.size)
    (h : wpList P ops Q rest (a.put op.dst (.agg cells)) w) : wpList P ops Q (op :: rest) a w := by
  refine wpList_step fun K hK => ?_
  rw [if_pos hgd]
  refine wp_load_mid ty x ho b o hx cells.toList d hc hu hd (by rw [hi, Array.length_toList]) (hK _ _ ?_)
  rw [Array.toArray_toList]
  exact h
theorem range_block {w : World} {b : Nat} {cells : Array Value} {t : TypeId} {fr : Nat × Nat} (h : w.heap[b]? = some (.cells cells t fr)) : w.rangeAt b 0 cells.toList := by
  intro j u hu
  rw [Nat.zero_add, cell_of_row' h]
  simpa using hu
theorem foldl_sets : ∀ (l : List Value) (k : Nat) (zs : Array Value), k + l.length ≤ zs.size → ((l.zipIdx k).foldl (fun cs (p : Value × Nat) => cs.setIfInBounds (0 + p.2) p.1) zs).toList = zs.toList.take k ++ l ++ zs.toList.drop (k + l.length)
  | [], k, zs, _ => by simp
  | v :: l, k, zs, h => by
    simp only [List.length_cons] at h
    rw [List.zipIdx_cons, List.foldl_cons, foldl_sets l (k + 1) _ (by simp; omega)]
    simp only [Nat.zero_add, Array.toList_setIfInBounds]
    have hl : k < zs.toList.length := by simp; omega
    rw [List.take_succ_eq_append_getElem (by simpa using hl), List.getElem_set_self, List.take_set_of_le (Nat.le_refl _), List.drop_set_of_lt (by omega)]
    simp [Nat.add_comm, Nat.add_left_comm]
theorem fill_one (size : Nat) (zs cells : Array Value) (h1 : zs.size = size) (h2 : cells.size = size) : Instr.fill (fun i => some (i * size, size)) zs [(0, .agg cells)] = some cells := by
  subst h2
  unfold Instr.fill
  simp only [Value.cells, Nat.zero_mul]
  rw [if_neg (by simp [h1])]
  unfold Instr.fill
  congr 1
  apply Array.toList_inj.1
  rw [← Array.foldl_toList, Array.toList_zipIdx, foldl_sets cells.toList 0 zs (by rw [Array.length_toList]; omega)]
  rw [List.take_zero, List.nil_append, List.drop_of_length_le (by rw [Array.length_toList, Array.length_toList]; omega), List.append_nil]
/-- A slice of one struct: the struct's cells under their name. -/
theorem wpList_buildOne {P : Program} {ops : Array Oper} {rest : List Oper} {o : Oper} {a : Act} {w : World} {Q : Exit → Act → World → Prop} (hg : o.guard = none) (t e : TypeId) (x : Operand) (ho : o.op = .buildSlice t 1 #[(0, x)])
    (cells : Array Value) (hx : a.eval x = .agg cells) (hu : P.underlying t = some (.slice e)) (hi : ((P.info? e).bind fun i => i.zero.map fun z => (i.size, z.cells.size)) = some (cells.size, cells.size)) (h0 : 0 < cells.size) (h9 : cells.size ≤ 1000)
    (h : wpList P ops Q rest (a.put o.dst (.slice (some ⟨w.heap.size, 0, none⟩) 1 1)) (w.alloc (.cells cells e))) : wpList P ops Q (o :: rest) a w := by
  cases hie : P.info? e with
  | none => rw [hie] at hi; cases hi
  | some ie =>
    rw [hie] at hi
    cases hz : ie.zero with
    | none => simp [hz] at hi
    | some z =>
      simp [hz] at hi
      obtain ⟨s1, s2⟩ := hi
      refine wpList_buildSlice hg t e 1 #[(0, x)] ho cells ie z hu hie hz (by rw [s1]; omega) (by rw [s1]; omega) ?_ h
      have : ((#[(0, x)] : Array (Nat × Operand)).map fun (i, x) => (i, a.eval x)).toList = [(0, .agg cells)] := by simp [hx]
      rw [this]
      exact fill_one ie.size _ cells (by simp) s1.symm
/-! ### What fields do to a writer that is well, and to one that is not -/
theorem wNum_on {l : List UInt8} {n : Nat} {k : Int} (h : 1 ≤ k ∧ k ≤ 8 ∧ (k = 8 ∨ n / 2 ^ (8 * k.toNat) = 0)) : wNum l 0 n k = (l ++ be n k.toNat, 0) := by unfold wNum; rw [if_pos rfl, if_pos h]
theorem wOp_on (l : List UInt8) (o : OpD) (hd : o.d.length = 16) : ∃ l', wOp l 0 o = (l', 0) ∧ l'.length ≤ l.length + o.b.length + 16 := by
  unfold wOp
  by_cases hp : pOk o = false
  · rw [if_pos hp]; exact ⟨l, rfl, by omega⟩
  rw [if_neg hp]
  have hp' : pOk o = true := by simpa using hp
  unfold pOk at hp'
  by_cases d1 : o.doo = 1
  · rw [if_pos d1] at hp' ⊢
    have h := of_decide_eq_true hp'
    rw [wNum_on h]
    exact ⟨_, rfl, by rw [List.length_append, be_length]; omega⟩
  rw [if_neg d1] at hp' ⊢
  by_cases d2 : o.doo = 2
  · rw [if_pos d2, wNum_on ⟨by decide, by decide, .inl rfl⟩]
    exact ⟨_, rfl, by rw [List.length_append, be_length]; show l.length + 8 ≤ _; omega⟩
  rw [if_neg d2] at hp' ⊢
  by_cases d3 : o.doo = 3
  · rw [if_pos d3, wNum_on ⟨by decide, by decide, .inr (by cases o.fl <;> decide)⟩]
    exact ⟨_, rfl, by rw [List.length_append, be_length]; show l.length + 1 ≤ _; omega⟩
  rw [if_neg d3] at hp' ⊢
  have tx : o.b.length ≤ 1048576 → ∃ l', wText l 0 o.b = (l', 0) ∧ l'.length ≤ l.length + o.b.length + 16 := by
    intro h
    unfold wText
    rw [if_pos rfl, if_pos h]
    exact ⟨_, rfl, by rw [List.length_append, List.length_append, be_length]; omega⟩
  by_cases d4 : o.doo = 4
  · rw [if_pos d4] at hp' ⊢; exact tx (of_decide_eq_true hp')
  rw [if_neg d4] at hp' ⊢
  by_cases d5 : o.doo = 5
  · rw [if_pos d5] at hp' ⊢; exact tx (of_decide_eq_true hp')
  rw [if_neg d5]
  unfold wID
  rw [if_pos rfl]
  exact ⟨_, rfl, by rw [List.length_append, hd]; omega⟩
theorem wOp_off (l : List UInt8) (e : Int) (o : OpD) (he : e ≠ 0) : wOp l e o = (l, e) := by
  unfold wOp wNum wText wID
  simp [he]
end Go.Proofs.YtjiciklnhcmfaaaGreatDoor
