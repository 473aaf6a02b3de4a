/- Rows of Op that grow, and those that came in. -/
import Derived.Test.YtjiciklnhcmfaaaGreatDoorOps
namespace Go.Proofs.YtjiciklnhcmfaaaGreatDoor
set_option linter.unusedVariables false
set_option linter.unusedSimpArgs false
open Go.RowKit
def zop : Value := .agg #[.int .i64 0, .int .i64 0, .int .u64 0, .int .i64 0, .int .i64 0, .bool false, .slice none 0 0, .int .u8 0, .int .u8 0, .int .u8 0, .int .u8 0, .int .u8 0, .int .u8 0, .int .u8 0, .int .u8 0, .int .u8 0, .int .u8 0, .int .u8 0, .int .u8 0, .int .u8 0, .int .u8 0, .int .u8 0, .int .u8 0]
theorem infoOpZ : (Tryz.prog.info? 66).map (fun i => (i.zero, i.size, i.bytes)) = some (some zop, 23, 88) := by kernel_rfl
theorem opBind : ((Tryz.prog.info? 66).bind fun i => i.zero.map fun z => (i.size, z.cells.size)) = some (23, 23) := by kernel_rfl
theorem opSize : (Tryz.prog.info? 66).map (·.size) = some 23 := by kernel_rfl
theorem Src_op {w : World} {g : Nat} {o : OpD} {e : TypeId} {fr : Nat × Nat} (hd : o.d.length = 16) (h : w.heap[g]? = some (.cells (opv o) e fr)) : Src Tryz.prog 23 22 (.slice (some ⟨g, 0, none⟩) 1 1) 1 (opv o).toList w :=
  Src.ofSlice w Tryz.underlying22 ⟨g, 0, none⟩ 1 1 (opv o).toList (by rw [Array.length_toList, opv_len hd]) (by
    intro j x hx
    rw [Addr.add_lit, Nat.zero_add, cell_of_row' h]
    simpa using hx) (opv_one o)
theorem OpRow.upd {S : Nat → Prop} {w w' : World} {base : Nat} {v : Value} {L : List OpD} (h : OpRow w base v L) (hu : Upd S w w') (h1 : ∀ k, v.ownBlock = some k → ¬ S k) (h2 : ∀ o ∈ L, ∀ k, (Value.slice o.ba o.b.length o.bc).ownBlock = some k → ¬ S k) : OpRow w' base v L :=
  ⟨h.row.upd hu h1, h.ok, fun o ho => (h.own o ho).upd hu (h2 o ho)⟩
theorem OpRow.below {w w' : World} {base : Nat} {v : Value} {L : List OpD} (h : OpRow w base v L) (hb : Below w.heap.size w w') : OpRow w' base v L := h.upd (Upd.ofBelow hb) (fun _ _ s => s) (fun _ _ _ _ s => s)
theorem OpRow.push {w w4 : World} {base : Nat} {v v' : Value} {L : List OpD} (h : OpRow w base v L) (o : OpD) (hk : OpOk o) (ho : Own w base 5 1 (.slice o.ba o.b.length o.bc) o.b.length (bys o.b)) {x : Obj} (hr : Own w4 base 66 23 v' (L.length + 1) (flat L ++ (opv o).toList)) (hg : (w.alloc x).grownBy w4 v.ownBlock) : OpRow w4 base v' (L ++ [o]) := by
  have hU : Upd (fun k => v.ownBlock = some k) w w4 := ((Upd.refl (fun k => v.ownBlock = some k) w).alloc x).grown hg (fun _ h _ => h)
  refine ⟨by rw [List.length_append, flat_snoc]; exact hr, fun q hq => ?_, fun q hq => ?_⟩
  · rcases List.mem_append.1 hq with hq | hq
    · exact h.ok q hq
    · rw [List.mem_singleton.1 hq]; exact hk
  · rcases List.mem_append.1 hq with hq | hq
    · exact (h.own q hq).upd hU (fun k a b => Own.ne_type h.row (h.own q hq) (by decide) k b a)
    · rw [List.mem_singleton.1 hq]; exact ho.upd hU (fun k a b => Own.ne_type h.row ho (by decide) k b a)
/-- A row of Ops that came in. -/
structure RdO (w : World) (a : Option Addr) (L : List OpD) : Prop where
  rng : ∀ i o, L[i]? = some o → ∃ b off, a = some ⟨b, off, none⟩ ∧ w.rangeAt b (off + i * 23) (opv o).toList
  ok : ∀ o ∈ L, OpOk o
  byt : ∀ o ∈ L, Byt w o.ba o.b
theorem rangeAt_upd {S : Nat → Prop} {w w' : World} {b o : Nat} {cs : List Value} (h : w.rangeAt b o cs) (hu : Upd S w w') (hs : ¬ S b) : w'.rangeAt b o cs := fun j v hv => hu.cell' (h j v hv) hs
theorem rangeAt_lt {w : World} {b o : Nat} {cs : List Value} (h : w.rangeAt b o cs) (hc : 0 < cs.length) : b < w.heap.size := World.block_lt_of_cell? w _ (h 0 cs[0] (List.getElem?_eq_getElem hc))
theorem range6 {w : World} {b off : Nat} {o : OpD} (h : w.rangeAt b off (opv o).toList) : w.cell? ⟨b, off + 6, none⟩ = some (.slice o.ba o.b.length o.bc) := h 6 _ (by rw [Array.getElem?_toList, opv_lo o 6 (by decide)]; rfl)
end Go.Proofs.YtjiciklnhcmfaaaGreatDoor
