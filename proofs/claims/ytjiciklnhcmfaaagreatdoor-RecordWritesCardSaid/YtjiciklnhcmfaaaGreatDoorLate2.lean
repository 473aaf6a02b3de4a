/- posternlaw1.Late.Add. -/
import Derived.Test.YtjiciklnhcmfaaaGreatDoorLate
import Derived.Laws.IdiomStrings
namespace Go.Proofs.YtjiciklnhcmfaaaGreatDoor
set_option linter.unusedVariables false
set_option linter.unusedSimpArgs false
open Go.RowKit
/-! ### []byte(s) -/
def scap (w : World) (x : List UInt8) : Nat := grownCap w x.length 0 5
def sobj (w : World) (x : List UInt8) : Obj := .cells (bytesRow ⟨x.toArray⟩ (scap w x)) 5 ((bytesRow ⟨x.toArray⟩ (scap w x)).size, (bytesRow ⟨x.toArray⟩ (scap w x)).size + 1)
theorem run_strBytes (w : World) (x : List UInt8) : (convert 9 23 (.string ⟨x.toArray⟩)).run Tryz.prog w = .ok (.slice (some ⟨w.heap.size, 0, none⟩) x.length (scap w x)) (w.drew.alloc (sobj w x)) := by
  have h := run_bytes_of_string (P := Tryz.prog) w 9 23 5 ⟨x.toArray⟩ Tryz.underlying9 Tryz.underlying23 Tryz.underlying5
  have e : (⟨x.toArray⟩ : ByteArray).size = x.length := by simp [ByteArray.size]
  rw [e] at h
  exact h
theorem own_strBytes (w : World) (x : List UInt8) (hx : x.length ≤ 1000000000000) : Own (w.drew.alloc (sobj w x)) w.heap.size 5 1 (.slice (some ⟨w.heap.size, 0, none⟩) x.length (scap w x)) x.length (bys x) := by
  have hge := grownCap_ge w x.length 0 5
  have hcm : grownCap w x.length 0 5 ≤ maxLen := grownCap_le_maxLen w x.length 0 5 (by unfold maxLen; omega)
  have e : (⟨x.toArray⟩ : ByteArray).size = x.length := by simp [ByteArray.size]
  have hs : (bytesRow ⟨x.toArray⟩ (scap w x)).size = scap w x := by
    unfold bytesRow
    rw [Array.size_append, Array.size_replicate, e, Array.size_map]
    show x.toArray.size + _ = _
    rw [List.size_toArray]
    have : x.length ≤ scap w x := hge
    omega
  refine ⟨by rw [bys_length, Nat.mul_one], .inr ⟨w.heap.size, _, _, _, rfl, Nat.le_refl _, heap_alloc_new w.drew _, ?_, hge, hcm, ?_, ?_⟩⟩
  · intro o h1 h2
    have := h2.1
    simp only at this
    omega
  · rw [hs, Nat.mul_one]
  · unfold bytesRow
    rw [Nat.mul_one, Array.toList_append, List.take_append_of_le_length (by simp), List.take_of_length_le (by simp)]
    simp [bys]
/-- A Late whose first row has one more than its second. -/
structure LtM (w : World) (base : Nat) (tb : Nat) (L : List Gt) (v : Value) (vg vw : Value) : Prop where
  blk : w.heap[tb]? = some (.cells #[vg, vw] 61 (0, 0))
  tbge : base ≤ tb
  got : Own w base 23 1 vg (L.length + 1) (L.map Gt.val ++ [v])
  want : Own w base 23 1 vw L.length (L.map Gt.wal)
  gw : ∀ k, vg.ownBlock = some k → vw.ownBlock ≠ some k
  gok : ∀ g ∈ L, Own w base 5 1 g.val g.x.length (bys g.x)
  wok : ∀ g ∈ L, Own w base 5 1 g.wal g.x.length (bys g.x)
section
variable {w w' w4 : World} {base : Nat} {Pr : Nat → Prop} {tb : Nat} {L : List Gt} {vg vw v : Value}
theorem LtM.upd {S : Nat → Prop} (h : LtM w base tb L v vg vw) (hu : Upd S w w') (hs : ∀ k, S k → ¬ LtF tb vg vw L k) : LtM w' base tb L v vg vw :=
  ⟨(hu.block tb (lt_of_block h.blk) (fun s => hs _ s (.inl rfl))).trans h.blk, h.tbge, h.got.upd hu (fun k e s => hs _ s (.inr (.inl e))), h.want.upd hu (fun k e s => hs _ s (.inr (.inr (.inl e)))), h.gw,
    fun g hg => (h.gok g hg).upd hu (fun k e s => hs _ s (.inr (.inr (.inr (.inl ⟨g, hg, e⟩))))), fun g hg => (h.wok g hg).upd hu (fun k e s => hs _ s (.inr (.inr (.inr (.inr ⟨g, hg, e⟩)))))⟩
theorem Lt.push1 (h : Lt w base Pr tb L vg vw) {o : Obj} {v' : Value} (hr : Own w4 base 23 1 v' (L.length + 1) (L.map Gt.val ++ [v])) (hg : (w.alloc o).grownBy w4 vg.ownBlock) (hv : v'.ownBlock = vg.ownBlock ∨ v'.ownBlock = some (w.heap.size + 1)) :
    LtM (w4.setCell ⟨tb, 0, none⟩ v') base tb L v v' vw ∧ Upd (fun k => k = tb ∨ vg.ownBlock = some k) w (w4.setCell ⟨tb, 0, none⟩ v') := by
  have hU : Upd (fun k => k = tb ∨ vg.ownBlock = some k) w (w4.setCell ⟨tb, 0, none⟩ v') := push_upd hg
  have hU4 : Upd (fun k => vg.ownBlock = some k) w w4 := ((Upd.refl (fun k => vg.ownBlock = some k) w).alloc o).grown hg (fun _ h _ => h)
  have hh := h.blk
  have n1 : vg.ownBlock ≠ some tb := h.got.not_at hh (by decide)
  have n2 : vw.ownBlock ≠ some tb := h.want.not_at hh (by decide)
  have h4 := (hU4.block tb (lt_of_block hh) n1).trans hh
  have n5 : v'.ownBlock ≠ some tb := hr.not_at h4 (by decide)
  refine ⟨⟨set_blk v' h4, h.tbge, hr.setCell_other n5 v', h.want.upd hU ?_, ?_, fun g hg => (h.gok g hg).upd hU ?_, fun g hg => (h.wok g hg).upd hU ?_⟩, hU⟩
  · rintro k hk (rfl | hb)
    · exact n2 hk
    · exact h.gw k hb hk
  · intro k hk hk2
    rcases hv with e | e
    · exact h.gw k (by rw [← e]; exact hk) hk2
    · rw [e] at hk; injection hk with hk
      have := (h.want.lt k hk2).2
      omega
  · rintro k hk (rfl | hb)
    · exact (h.gok g hg).not_at hh (by decide) hk
    · exact Own.ne_type h.got (h.gok g hg) (by decide) k hb hk
  · rintro k hk (rfl | hb)
    · exact (h.wok g hg).not_at hh (by decide) hk
    · exact Own.ne_type h.got (h.wok g hg) (by decide) k hb hk
theorem LtM.push2 (h : LtM w base tb L v vg vw) {o : Obj} {v' : Value} (g : Gt) (hv0 : v = g.val) (hgo : Own w base 5 1 g.val g.x.length (bys g.x)) (hwo : Own w base 5 1 g.wal g.x.length (bys g.x)) (hx : g.x.length ≤ 1000000000000)
    (hd : ∀ f ∈ L, ∀ k, g.at_ k → ¬ f.at_ k) (hgg : ∀ (i j : Nat), i ≠ j → ∀ (g h : Gt), L[i]? = some g → L[j]? = some h → ∀ k, g.at_ k → ¬ h.at_ k) (hxl : ∀ g ∈ L, g.x.length ≤ 1000000000000)
    (hpr : ∀ k, Pr k → k < w.heap.size ∧ ¬ LtF tb vg vw L k ∧ ¬ g.at_ k ∧ ¬ g.wat k)
    (hr : Own w4 base 23 1 v' (L.length + 1) (L.map Gt.wal ++ [g.wal])) (hg : (w.alloc o).grownBy w4 vw.ownBlock) (hv : v'.ownBlock = vw.ownBlock ∨ v'.ownBlock = some (w.heap.size + 1)) :
    Lt (w4.setCell ⟨tb, 1, none⟩ v') base Pr tb (L ++ [g]) vg v' ∧ Upd (fun k => k = tb ∨ vw.ownBlock = some k) w (w4.setCell ⟨tb, 1, none⟩ v') := by
  have hU : Upd (fun k => k = tb ∨ vw.ownBlock = some k) w (w4.setCell ⟨tb, 1, none⟩ v') := push_upd hg
  have hU4 : Upd (fun k => vw.ownBlock = some k) w w4 := ((Upd.refl (fun k => vw.ownBlock = some k) w).alloc o).grown hg (fun _ h _ => h)
  have hh := h.blk
  have n1 : vg.ownBlock ≠ some tb := h.got.not_at hh (by decide)
  have n2 : vw.ownBlock ≠ some tb := h.want.not_at hh (by decide)
  have h4 := (hU4.block tb (lt_of_block hh) n2).trans hh
  have n5 : v'.ownBlock ≠ some tb := hr.not_at h4 (by decide)
  have up : ∀ {e : TypeId} {u : Value} {n : Nat} {xs : List Value}, e = 5 → Own w base e 1 u n xs → Own (w4.setCell ⟨tb, 1, none⟩ v') base e 1 u n xs := by
    intro e u n xs he ho
    refine ho.upd hU ?_
    rintro k hk (rfl | hb)
    · exact ho.not_at hh (by rw [he]; decide) hk
    · exact Own.ne_type h.want ho (by rw [he]; decide) k hb hk
  refine ⟨⟨set_blk v' h4, h.tbge, ?_, ?_, ?_, ?_, ?_, ?_, ?_, ?_⟩, hU⟩
  · rw [List.length_append, List.map_append]
    refine Own.upd hU (by have := h.got; rw [hv0] at this; exact this) ?_
    rintro k hk (rfl | hb)
    · exact n1 hk
    · exact h.gw k hk hb
  · rw [List.length_append, List.map_append]
    exact hr.setCell_other n5 v'
  · intro k hk hk2
    rcases hv with e | e
    · exact h.gw k hk (by rw [← e]; exact hk2)
    · rw [e] at hk2; injection hk2 with hk2
      have := (h.got.lt k hk).2
      omega
  · intro f hf
    rcases List.mem_append.1 hf with hf | hf
    · exact up rfl (h.gok f hf)
    · rw [List.mem_singleton.1 hf]; exact up rfl hgo
  · intro f hf
    rcases List.mem_append.1 hf with hf | hf
    · exact up rfl (h.wok f hf)
    · rw [List.mem_singleton.1 hf]; exact up rfl hwo
  · intro i j hij a b ha hb k
    rcases get_snoc ha with ha' | ⟨ia, ea⟩
    · rcases get_snoc hb with hb' | ⟨ib, eb⟩
      · exact hgg i j hij a b ha' hb' k
      · rw [eb]; exact fun p q => hd a (List.mem_of_getElem? ha') k q p
    · rcases get_snoc hb with hb' | ⟨ib, eb⟩
      · rw [ea]; exact fun p q => hd b (List.mem_of_getElem? hb') k p q
      · omega
  · intro k hp
    obtain ⟨p1, p2, p3, p4⟩ := hpr k hp
    refine ⟨Nat.lt_of_lt_of_le p1 hU.size, ?_⟩
    rintro (e | e | e | ⟨f, hf, e⟩ | ⟨f, hf, e⟩)
    · exact p2 (.inl e)
    · exact p2 (.inr (.inl e))
    · rcases hv with q | q
      · exact p2 (.inr (.inr (.inl (by rw [← q]; exact e))))
      · rw [q] at e; injection e with e; omega
    · rcases List.mem_append.1 hf with hf | hf
      · exact p2 (.inr (.inr (.inr (.inl ⟨f, hf, e⟩))))
      · rw [List.mem_singleton.1 hf] at e; exact p3 e
    · rcases List.mem_append.1 hf with hf | hf
      · exact p2 (.inr (.inr (.inr (.inr ⟨f, hf, e⟩))))
      · rw [List.mem_singleton.1 hf] at e; exact p4 e
  · intro f hf
    rcases List.mem_append.1 hf with hf | hf
    · exact hxl f hf
    · rw [List.mem_singleton.1 hf]; exact hx
end
end Go.Proofs.YtjiciklnhcmfaaaGreatDoor
