/- A Late and a Book when an answer is added; bytes and the table behind such a change. -/
import Derived.Test.YtnbpkignkfabkaaGreatDoorBook6
import Derived.Laws.IdiomStrings
import Derived.Test.YtnbpkignkfabkaaGreatDoorStep
/- posternlaw1.Late: answers that nobody has written into yet. -/
namespace Go.Proofs.YtnbpkignkfabkaaGreatDoor
set_option linter.unusedVariables false
set_option linter.unusedSimpArgs false
open Go.RowKit
/-- An answer that is kept (a, x, c), and what it must hold (wa, x, wc). -/
structure Gt where
  a : Option Addr
  c : Nat
  wa : Option Addr
  wc : Nat
  x : List UInt8
def Gt.val (g : Gt) : Value := .slice g.a g.x.length g.c
def Gt.wal (g : Gt) : Value := .slice g.wa g.x.length g.wc
def Gt.at_ (g : Gt) (k : Nat) : Prop := g.val.ownBlock = some k
def Gt.wat (g : Gt) (k : Nat) : Prop := g.wal.ownBlock = some k
/-- All blocks of a Late. -/
def LtF (tb : Nat) (vg vw : Value) (L : List Gt) (k : Nat) : Prop := k = tb ∨ vg.ownBlock = some k ∨ vw.ownBlock = some k ∨ (∃ g ∈ L, g.at_ k) ∨ ∃ g ∈ L, g.wat k
structure Lt (w : World) (base : Nat) (Pr : Nat → Prop) (tb : Nat) (L : List Gt) (vg vw : Value) : Prop where
  blk : w.heap[tb]? = some (.cells #[vg, vw] 66 (0, 0))
  tbge : base ≤ tb
  got : Own w base 74 1 vg L.length (L.map Gt.val)
  want : Own w base 74 1 vw L.length (L.map Gt.wal)
  gw : ∀ k, vg.ownBlock = some k → vw.ownBlock ≠ some k
  gok : ∀ g ∈ L, Own w base 5 1 g.val g.x.length (bys g.x)
  wok : ∀ g ∈ L, Own w base 5 1 g.wal g.x.length (bys g.x)
  gg : ∀ (i j : Nat), i ≠ j → ∀ (g h : Gt), L[i]? = some g → L[j]? = some h → ∀ k, g.at_ k → ¬ h.at_ k
  pr : ∀ k, Pr k → k < w.heap.size ∧ ¬ LtF tb vg vw L k
  xl : ∀ g ∈ L, g.x.length ≤ 1000000000000
section
variable {w w' : World} {base : Nat} {Pr : Nat → Prop} {tb : Nat} {L : List Gt} {vg vw : Value}
theorem Lt.upd {S : Nat → Prop} (h : Lt w base Pr tb L vg vw) (hu : Upd S w w') (hs : ∀ k, S k → ¬ LtF tb vg vw L k) : Lt w' base Pr tb L vg vw :=
  ⟨(hu.block tb (lt_of_block h.blk) (fun s => hs _ s (.inl rfl))).trans h.blk, h.tbge, h.got.upd hu (fun k e s => hs _ s (.inr (.inl e))), h.want.upd hu (fun k e s => hs _ s (.inr (.inr (.inl e)))), h.gw,
    fun g hg => (h.gok g hg).upd hu (fun k e s => hs _ s (.inr (.inr (.inr (.inl ⟨g, hg, e⟩))))), fun g hg => (h.wok g hg).upd hu (fun k e s => hs _ s (.inr (.inr (.inr (.inr ⟨g, hg, e⟩))))), h.gg, fun k hp => ⟨Nat.lt_of_lt_of_le (h.pr k hp).1 hu.size, (h.pr k hp).2⟩, h.xl⟩
theorem Lt.foot (h : Lt w base Pr tb L vg vw) : ∀ k, LtF tb vg vw L k → base ≤ k ∧ k < w.heap.size ∧ ¬ Pr k := by
  intro k hk
  have hp : ¬ Pr k := fun hp => (h.pr k hp).2 hk
  rcases hk with rfl | hk | hk | ⟨g, hg, hk⟩ | ⟨g, hg, hk⟩
  · exact ⟨h.tbge, lt_of_block h.blk, hp⟩
  · exact ⟨(h.got.lt k hk).1, (h.got.lt k hk).2, hp⟩
  · exact ⟨(h.want.lt k hk).1, (h.want.lt k hk).2, hp⟩
  · exact ⟨((h.gok g hg).lt k hk).1, ((h.gok g hg).lt k hk).2, hp⟩
  · exact ⟨((h.wok g hg).lt k hk).1, ((h.wok g hg).lt k hk).2, hp⟩
theorem Lt.k0 (h : Lt w base Pr tb L vg vw) : w.cell? ⟨tb, 0, none⟩ = some vg := by rw [cell_of_row' h.blk]; rfl
theorem Lt.k1 (h : Lt w base Pr tb L vg vw) : w.cell? ⟨tb, 1, none⟩ = some vw := by rw [cell_of_row' h.blk]; rfl
theorem Lt.froz (h : Lt w base Pr tb L vg vw) (j : Nat) : w.frozen? ⟨tb, j, none⟩ = false := frozen_of_row h.blk j
end
set_option maxRecDepth 100000 in
set_option maxHeartbeats 2000000 in
theorem same_calls (w : World) (base : Nat) (Pr : Nat → Prop) (tb : Nat) (L : List Gt) (vg vw : Value) (h : Lt w base Pr tb L vg vw) (hl : L.length ≤ 1000000) :
    Calls Tryz.prog 38 #[.pointer (some ⟨tb, 0, none⟩)] w fun r w' => ∃ n, r = .returned (.bool true) ∧ w' = w.drewN n := by
  have c0 := h.k0
  have c1 := h.k1
  obtain ⟨av, cv, hvb, _, _, _⟩ := h.got.shape'
  obtain ⟨ao, co, hvo, _, _, _⟩ := h.want.shape'
  subst hvb
  subst hvo
  have H := Lib.hid h; clear h
  go_enter Tryz.func38, Tryz.ntmps38
  go_wp2
  go_loopw [3] (fun vi wr => ∃ i : Nat, vi = .int .i64 i ∧ i ≤ L.length ∧ ∃ n, wr = w.drewN n) (fun vi _ => L.length - (intOf vi).toNat)
  case atStart => exact ⟨0, rfl, by omega, 0, rfl⟩
  case round =>
    obtain ⟨i, rfl, hi, q, rfl⟩ := hrel
    by_cases hlt : i < L.length
    · have t1 : decide ((i : Int) < (L.length : Int)) = true := decide_eq_true (by omega)
      have t1' : decide (i < L.length) = true := decide_eq_true hlt
      obtain ⟨e, he⟩ : ∃ e, L[i] = e := ⟨_, rfl⟩
      have hmem : e ∈ L := by rw [← he]; exact List.getElem_mem hlt
      have hG := H.out.gok e hmem
      have hW := H.out.wok e hmem
      obtain ⟨g1, d1, hv1⟩ := H.out.got.shape (by omega)
      cases hv1
      obtain ⟨g2, d2, hv2⟩ := H.out.want.shape (by omega)
      cases hv2
      have q1 : w.cell? ⟨g1, i, none⟩ = some (.slice e.a e.x.length e.c) := by
        rw [H.out.got.cellAt i (by omega)]
        simp [hlt, he, Gt.val]
      have q2 : w.cell? ⟨g2, i, none⟩ = some (.slice e.wa e.x.length e.wc) := by
        rw [H.out.want.cellAt i (by omega)]
        simp [hlt, he, Gt.wal]
      unfold Gt.val at hG
      unfold Gt.wal at hW
      have x1 : ∀ n, (convert 74 9 (.slice e.a e.x.length e.c)).run Tryz.prog (w.drewN n) = .ok (.string ⟨e.x.toArray⟩) (w.drewN n) := fun n => conv_bytes Tryz.underlying74 Tryz.underlying5 Tryz.underlying9 (hG.byt.1.drewN n)
      have x2 : ∀ n, (convert 74 9 (.slice e.wa e.x.length e.wc)).run Tryz.prog (w.drewN n) = .ok (.string ⟨e.x.toArray⟩) (w.drewN n) := fun n => conv_bytes Tryz.underlying74 Tryz.underlying5 Tryz.underlying9 (hW.byt.1.drewN n)
      have i1 : (i : Int) < (L.length : Int) := by omega
      clear hG hW he hmem
      generalize e.a = ea at *
      generalize e.wa = ew at *
      generalize e.c = ec at *
      generalize e.wc = ed at *
      generalize e.x = x at *
      go_wp2_with fail
      go_quiet (fail)
      go_wp2
      go_roundw
      case rel => exact ⟨i + 1, by go_num, by omega, _, rfl⟩
      case measure => simp [intOf]; omega
    · have t1 : decide ((i : Int) < (L.length : Int)) = false := decide_eq_false (by omega)
      have t1' : decide (i < L.length) = false := decide_eq_false hlt
      go_wp2
      go_ret
      exact ⟨_, rfl, rfl⟩
end Go.Proofs.YtnbpkignkfabkaaGreatDoor
/- posternlaw1.Late.Add. -/
namespace Go.Proofs.YtnbpkignkfabkaaGreatDoor
set_option linter.unusedVariables false
set_option linter.unusedSimpArgs false
open Go.RowKit
/-! ### []byte(s) -/
def scap (w : World) (x : List UInt8) : Nat := grownCap w x.length 0 5
def sobj (w : World) (x : List UInt8) : Obj := .cells (bytesRow ⟨x.toArray⟩ (scap w x)) 5 ((bytesRow ⟨x.toArray⟩ (scap w x)).size, (bytesRow ⟨x.toArray⟩ (scap w x)).size + 1)
theorem run_strBytes (w : World) (x : List UInt8) : (convert 9 74 (.string ⟨x.toArray⟩)).run Tryz.prog w = .ok (.slice (some ⟨w.heap.size, 0, none⟩) x.length (scap w x)) (w.drew.alloc (sobj w x)) := by
  have h := run_bytes_of_string (P := Tryz.prog) w 9 74 5 ⟨x.toArray⟩ Tryz.underlying9 Tryz.underlying74 Tryz.underlying5
  have e : (⟨x.toArray⟩ : ByteArray).size = x.length := by simp [ByteArray.size]
  rw [e] at h
  exact h
theorem own_strBytes (w : World) (x : List UInt8) (hx : x.length ≤ 1000000000000) : Own (w.drew.alloc (sobj w x)) w.heap.size 5 1 (.slice (some ⟨w.heap.size, 0, none⟩) x.length (scap w x)) x.length (bys x) := by
  have hge := grownCap_ge w x.length 0 5
  have hcm : grownCap w x.length 0 5 ≤ maxLen := grownCap_le_maxLen w x.length 0 5 (by unfold maxLen; omega)
  have e : (⟨x.toArray⟩ : ByteArray).size = x.length := by simp [ByteArray.size]
  have hs : (bytesRow ⟨x.toArray⟩ (scap w x)).size = scap w x := by
    unfold bytesRow
    rw [Array.size_append, Array.size_replicate, e, Array.size_map]
    show x.toArray.size + _ = _
    rw [List.size_toArray]
    have : x.length ≤ scap w x := hge
    omega
  refine ⟨by rw [bys_length, Nat.mul_one], .inr ⟨w.heap.size, _, _, _, rfl, Nat.le_refl _, heap_alloc_new w.drew _, ?_, hge, hcm, ?_, ?_⟩⟩
  · intro o h1 h2
    have := h2.1
    simp only at this
    omega
  · rw [hs, Nat.mul_one]
  · unfold bytesRow
    rw [Nat.mul_one, Array.toList_append, List.take_append_of_le_length (by simp), List.take_of_length_le (by simp)]
    simp [bys]
/-- A Late whose first row has one more than its second. -/
structure LtM (w : World) (base : Nat) (tb : Nat) (L : List Gt) (v : Value) (vg vw : Value) : Prop where
  blk : w.heap[tb]? = some (.cells #[vg, vw] 66 (0, 0))
  tbge : base ≤ tb
  got : Own w base 74 1 vg (L.length + 1) (L.map Gt.val ++ [v])
  want : Own w base 74 1 vw L.length (L.map Gt.wal)
  gw : ∀ k, vg.ownBlock = some k → vw.ownBlock ≠ some k
  gok : ∀ g ∈ L, Own w base 5 1 g.val g.x.length (bys g.x)
  wok : ∀ g ∈ L, Own w base 5 1 g.wal g.x.length (bys g.x)
section
variable {w w' w4 : World} {base : Nat} {Pr : Nat → Prop} {tb : Nat} {L : List Gt} {vg vw v : Value}
theorem LtM.upd {S : Nat → Prop} (h : LtM w base tb L v vg vw) (hu : Upd S w w') (hs : ∀ k, S k → ¬ LtF tb vg vw L k) : LtM w' base tb L v vg vw :=
  ⟨(hu.block tb (lt_of_block h.blk) (fun s => hs _ s (.inl rfl))).trans h.blk, h.tbge, h.got.upd hu (fun k e s => hs _ s (.inr (.inl e))), h.want.upd hu (fun k e s => hs _ s (.inr (.inr (.inl e)))), h.gw,
    fun g hg => (h.gok g hg).upd hu (fun k e s => hs _ s (.inr (.inr (.inr (.inl ⟨g, hg, e⟩))))), fun g hg => (h.wok g hg).upd hu (fun k e s => hs _ s (.inr (.inr (.inr (.inr ⟨g, hg, e⟩)))))⟩
theorem Lt.push1 (h : Lt w base Pr tb L vg vw) {o : Obj} {v' : Value} (hr : Own w4 base 74 1 v' (L.length + 1) (L.map Gt.val ++ [v])) (hg : (w.alloc o).grownBy w4 vg.ownBlock) (hv : v'.ownBlock = vg.ownBlock ∨ v'.ownBlock = some (w.heap.size + 1)) :
    LtM (w4.setCell ⟨tb, 0, none⟩ v') base tb L v v' vw ∧ Upd (fun k => k = tb ∨ vg.ownBlock = some k) w (w4.setCell ⟨tb, 0, none⟩ v') := by
  have hU : Upd (fun k => k = tb ∨ vg.ownBlock = some k) w (w4.setCell ⟨tb, 0, none⟩ v') := push_upd hg
  have hU4 : Upd (fun k => vg.ownBlock = some k) w w4 := ((Upd.refl (fun k => vg.ownBlock = some k) w).alloc o).grown hg (fun _ h _ => h)
  have hh := h.blk
  have n1 : vg.ownBlock ≠ some tb := h.got.not_at hh (by decide)
  have n2 : vw.ownBlock ≠ some tb := h.want.not_at hh (by decide)
  have h4 := (hU4.block tb (lt_of_block hh) n1).trans hh
  have n5 : v'.ownBlock ≠ some tb := hr.not_at h4 (by decide)
  refine ⟨⟨set_blk v' h4, h.tbge, hr.setCell_other n5 v', h.want.upd hU ?_, ?_, fun g hg => (h.gok g hg).upd hU ?_, fun g hg => (h.wok g hg).upd hU ?_⟩, hU⟩
  · rintro k hk (rfl | hb)
    · exact n2 hk
    · exact h.gw k hb hk
  · intro k hk hk2
    rcases hv with e | e
    · exact h.gw k (by rw [← e]; exact hk) hk2
    · rw [e] at hk; injection hk with hk
      have := (h.want.lt k hk2).2
      omega
  · rintro k hk (rfl | hb)
    · exact (h.gok g hg).not_at hh (by decide) hk
    · exact Own.ne_type h.got (h.gok g hg) (by decide) k hb hk
  · rintro k hk (rfl | hb)
    · exact (h.wok g hg).not_at hh (by decide) hk
    · exact Own.ne_type h.got (h.wok g hg) (by decide) k hb hk
theorem LtM.push2 (h : LtM w base tb L v vg vw) {o : Obj} {v' : Value} (g : Gt) (hv0 : v = g.val) (hgo : Own w base 5 1 g.val g.x.length (bys g.x)) (hwo : Own w base 5 1 g.wal g.x.length (bys g.x)) (hx : g.x.length ≤ 1000000000000)
    (hd : ∀ f ∈ L, ∀ k, g.at_ k → ¬ f.at_ k) (hgg : ∀ (i j : Nat), i ≠ j → ∀ (g h : Gt), L[i]? = some g → L[j]? = some h → ∀ k, g.at_ k → ¬ h.at_ k) (hxl : ∀ g ∈ L, g.x.length ≤ 1000000000000)
    (hpr : ∀ k, Pr k → k < w.heap.size ∧ ¬ LtF tb vg vw L k ∧ ¬ g.at_ k ∧ ¬ g.wat k)
    (hr : Own w4 base 74 1 v' (L.length + 1) (L.map Gt.wal ++ [g.wal])) (hg : (w.alloc o).grownBy w4 vw.ownBlock) (hv : v'.ownBlock = vw.ownBlock ∨ v'.ownBlock = some (w.heap.size + 1)) :
    Lt (w4.setCell ⟨tb, 1, none⟩ v') base Pr tb (L ++ [g]) vg v' ∧ Upd (fun k => k = tb ∨ vw.ownBlock = some k) w (w4.setCell ⟨tb, 1, none⟩ v') := by
  have hU : Upd (fun k => k = tb ∨ vw.ownBlock = some k) w (w4.setCell ⟨tb, 1, none⟩ v') := push_upd hg
  have hU4 : Upd (fun k => vw.ownBlock = some k) w w4 := ((Upd.refl (fun k => vw.ownBlock = some k) w).alloc o).grown hg (fun _ h _ => h)
  have hh := h.blk
  have n1 : vg.ownBlock ≠ some tb := h.got.not_at hh (by decide)
  have n2 : vw.ownBlock ≠ some tb := h.want.not_at hh (by decide)
  have h4 := (hU4.block tb (lt_of_block hh) n2).trans hh
  have n5 : v'.ownBlock ≠ some tb := hr.not_at h4 (by decide)
  have up : ∀ {e : TypeId} {u : Value} {n : Nat} {xs : List Value}, e = 5 → Own w base e 1 u n xs → Own (w4.setCell ⟨tb, 1, none⟩ v') base e 1 u n xs := by
    intro e u n xs he ho
    refine ho.upd hU ?_
    rintro k hk (rfl | hb)
    · exact ho.not_at hh (by rw [he]; decide) hk
    · exact Own.ne_type h.want ho (by rw [he]; decide) k hb hk
  refine ⟨⟨set_blk v' h4, h.tbge, ?_, ?_, ?_, ?_, ?_, ?_, ?_, ?_⟩, hU⟩
  · rw [List.length_append, List.map_append]
    refine Own.upd hU (by have := h.got; rw [hv0] at this; exact this) ?_
    rintro k hk (rfl | hb)
    · exact n1 hk
    · exact h.gw k hk hb
  · rw [List.length_append, List.map_append]
    exact hr.setCell_other n5 v'
  · intro k hk hk2
    rcases hv with e | e
    · exact h.gw k hk (by rw [← e]; exact hk2)
    · rw [e] at hk2; injection hk2 with hk2
      have := (h.got.lt k hk).2
      omega
  · intro f hf
    rcases List.mem_append.1 hf with hf | hf
    · exact up rfl (h.gok f hf)
    · rw [List.mem_singleton.1 hf]; exact up rfl hgo
  · intro f hf
    rcases List.mem_append.1 hf with hf | hf
    · exact up rfl (h.wok f hf)
    · rw [List.mem_singleton.1 hf]; exact up rfl hwo
  · intro i j hij a b ha hb k
    rcases get_snoc ha with ha' | ⟨ia, ea⟩
    · rcases get_snoc hb with hb' | ⟨ib, eb⟩
      · exact hgg i j hij a b ha' hb' k
      · rw [eb]; exact fun p q => hd a (List.mem_of_getElem? ha') k q p
    · rcases get_snoc hb with hb' | ⟨ib, eb⟩
      · rw [ea]; exact fun p q => hd b (List.mem_of_getElem? hb') k p q
      · omega
  · intro k hp
    obtain ⟨p1, p2, p3, p4⟩ := hpr k hp
    refine ⟨Nat.lt_of_lt_of_le p1 hU.size, ?_⟩
    rintro (e | e | e | ⟨f, hf, e⟩ | ⟨f, hf, e⟩)
    · exact p2 (.inl e)
    · exact p2 (.inr (.inl e))
    · rcases hv with q | q
      · exact p2 (.inr (.inr (.inl (by rw [← q]; exact e))))
      · rw [q] at e; injection e with e; omega
    · rcases List.mem_append.1 hf with hf | hf
      · exact p2 (.inr (.inr (.inr (.inl ⟨f, hf, e⟩))))
      · rw [List.mem_singleton.1 hf] at e; exact p3 e
    · rcases List.mem_append.1 hf with hf | hf
      · exact p2 (.inr (.inr (.inr (.inr ⟨f, hf, e⟩))))
      · rw [List.mem_singleton.1 hf] at e; exact p4 e
  · intro f hf
    rcases List.mem_append.1 hf with hf | hf
    · exact hxl f hf
    · rw [List.mem_singleton.1 hf]; exact hx
end
end Go.Proofs.YtnbpkignkfabkaaGreatDoor
/- posternlaw1.Late.Add: its walk. -/
namespace Go.Proofs.YtnbpkignkfabkaaGreatDoor
set_option linter.unusedVariables false
set_option linter.unusedSimpArgs false
open Go.RowKit
/-- What becomes of a Late that is handed an answer. -/
def AddP (w w' : World) (base : Nat) (Pr : Nat → Prop) (tb : Nat) (L : List Gt) (vg vw : Value) (v : Value) (x : List UInt8) : Prop :=
  ∃ (g : Gt) (vg' vw' : Value), Lt w' base Pr tb (L ++ [g]) vg' vw' ∧ g.val = v ∧ g.x = x ∧ (∀ k, LtF tb vg' vw' (L ++ [g]) k → LtF tb vg vw L k ∨ w.heap.size ≤ k ∨ v.ownBlock = some k) ∧ Upd (fun k => k = tb ∨ vg.ownBlock = some k ∨ vw.ownBlock = some k) w w'
theorem add_end {w w5 w6 : World} {base : Nat} {Pr : Nat → Prop} {tb : Nat} {L : List Gt} {vg vg' vw v6 : Value} {a : Option Addr} {c q : Nat} {x : List UInt8} {o o' : Obj} (H : Lt w base Pr tb L vg vw) (PM : LtM w5 base tb L (.slice a x.length c) vg' vw)
    (U5 : Upd (fun k => k = tb ∨ vg.ownBlock = some k) w w5) (V5 : vg'.ownBlock = vg.ownBlock ∨ vg'.ownBlock = some (w.heap.size + 1)) (HO : Own w base 5 1 (.slice a x.length c) x.length (bys x)) (HX : x.length ≤ 1000000000000)
    (D0 : ∀ k, (Value.slice a x.length c).ownBlock = some k → ¬ Pr k ∧ ¬ LtF tb vg vw L k) (W5 : Own (w5.alloc o) w5.heap.size 5 1 (.slice (some ⟨w5.heap.size, 0, none⟩) x.length q) x.length (bys x))
    (O6 : Own w6 base 74 1 v6 (L.length + 1) (L.map Gt.wal ++ [.slice (some ⟨w5.heap.size, 0, none⟩) x.length q])) (G6 : ((w5.alloc o).alloc o').drew.drew.grownBy w6 vw.ownBlock) (V6 : v6.ownBlock = vw.ownBlock ∨ v6.ownBlock = some (((w5.alloc o).alloc o').drew.drew.heap.size)) :
    AddP w (w6.setCell ⟨tb, 1, none⟩ v6) base Pr tb L vg vw (.slice a x.length c) x := by
  rw [show ((w5.alloc o).alloc o').drew.drew.heap.size = w5.heap.size + 1 + 1 by show ((w5.alloc o).alloc o').heap.size = _; rw [World.size_alloc, World.size_alloc]] at V6
  have UW : Upd (fun _ => False) w5 ((w5.alloc o).drew.drew) := (((Upd.refl (fun _ => False) w5).alloc o).drew).drew
  have sz : ((w5.alloc o).drew.drew).heap.size = w5.heap.size + 1 := World.size_alloc _ _
  have s5 := U5.size
  have tl := lt_of_block H.blk
  have HO5 : Own w5 base 5 1 (.slice a x.length c) x.length (bys x) := HO.upd U5 (by
    rintro k hk (rfl | e)
    · exact (D0 _ hk).2 (.inl rfl)
    · exact (D0 _ hk).2 (.inr (.inl e)))
  have tb5 := PM.tbge
  have P6 := LtM.push2 (w := (w5.alloc o).drew.drew) (Pr := Pr) (PM.upd UW (fun _ s => s.elim)) ⟨a, c, some ⟨w5.heap.size, 0, none⟩, q, x⟩ rfl (HO5.upd UW (fun _ _ s => s)) (show Own _ base 5 1 (.slice (some ⟨w5.heap.size, 0, none⟩) x.length q) x.length (bys x) from (Own.mono (show Own ((w5.alloc o).drew.drew) w5.heap.size 5 1 (.slice (some ⟨w5.heap.size, 0, none⟩) x.length q) x.length (bys x) from W5) (by have := H.tbge; omega))) HX
    (fun f hf k h1 h2 => (D0 k h1).2 (.inr (.inr (.inr (.inl ⟨f, hf, h2⟩))))) H.gg H.xl (fun k hp => by
      obtain ⟨p1, p2⟩ := H.pr k hp
      refine ⟨by rw [sz]; omega, ?_, fun h => (D0 k h).1 hp, fun h => by injection h with h; simp at h; omega⟩
      rintro (e | e | e | e)
      · exact p2 (.inl e)
      · rcases V5 with v | v
        · exact p2 (.inr (.inl (by rw [← v]; exact e)))
        · rw [v] at e; injection e with e; omega
      · exact p2 (.inr (.inr (.inl e)))
      · exact p2 (.inr (.inr (.inr e))))
    O6 (o := o') G6 (by rw [sz]; exact V6)
  refine ⟨⟨a, c, some ⟨w5.heap.size, 0, none⟩, q, x⟩, vg', v6, P6.1, rfl, rfl, ?_, ?_⟩
  · rintro k (e | e | e | ⟨f, hf, e⟩ | ⟨f, hf, e⟩)
    · exact .inl (.inl e)
    · rcases V5 with v | v
      · exact .inl (.inr (.inl (by rw [← v]; exact e)))
      · rw [v] at e; injection e with e; exact .inr (.inl (by omega))
    · rcases V6 with v | v
      · exact .inl (.inr (.inr (.inl (by rw [← v]; exact e))))
      · rw [v] at e; injection e with e; exact .inr (.inl (by omega))
    · rcases List.mem_append.1 hf with hf | hf
      · exact .inl (.inr (.inr (.inr (.inl ⟨f, hf, e⟩))))
      · rw [List.mem_singleton.1 hf] at e; exact .inr (.inr e)
    · rcases List.mem_append.1 hf with hf | hf
      · exact .inl (.inr (.inr (.inr (.inr ⟨f, hf, e⟩))))
      · rw [List.mem_singleton.1 hf] at e; injection e with e; exact .inr (.inl (by simp at e; omega))
  · refine (U5.trans UW (fun k h _ => ?_) (fun k h _ => h.elim)).trans P6.2 (fun k h _ => h) (fun k h _ => ?_)
    · rcases h with h | h
      · exact .inl h
      · exact .inr (.inl h)
    · rcases h with h | h
      · exact .inl h
      · exact .inr (.inr h)
theorem LtM.c6 {w5 w6 : World} {base tb : Nat} {L : List Gt} {v vg vw : Value} (h : LtM w5 base tb L v vg vw) {o o' : Obj} (hg : ((w5.alloc o).alloc o').drew.drew.grownBy w6 vw.ownBlock) : w6.cell? ⟨tb, 1, none⟩ = some vw ∧ w6.frozen? ⟨tb, 1, none⟩ = false := by
  have n2 : vw.ownBlock ≠ some tb := h.want.not_at h.blk (by decide)
  have hU : Upd (fun k => vw.ownBlock = some k) w5 w6 := (((((Upd.refl (fun k => vw.ownBlock = some k) w5).alloc o).alloc o').drew).drew).grown hg (fun _ h _ => h)
  have hb := (hU.block tb (lt_of_block h.blk) n2).trans h.blk
  exact ⟨by rw [cell_of_row' hb]; rfl, frozen_of_row hb 1⟩
set_option maxRecDepth 100000 in
set_option maxHeartbeats 2000000 in
theorem Add_calls (w : World) (base : Nat) (Pr : Nat → Prop) (tb : Nat) (L : List Gt) (vg vw : Value) (h : Lt w base Pr tb L vg vw) (hl : L.length ≤ 100000) (a : Option Addr) (c : Nat) (x : List UInt8)
    (ho : Own w base 5 1 (.slice a x.length c) x.length (bys x)) (hx : x.length ≤ 1000000000000) (hd : ∀ k, (Value.slice a x.length c).ownBlock = some k → ¬ Pr k ∧ ¬ LtF tb vg vw L k) (wa : Option Addr) (wc : Nat) (hw : Byt w wa x) (hwp : ∀ k, wa.map (·.block) = some k → ¬ LtF tb vg vw L k) :
    Calls Tryz.prog 24 #[.pointer (some ⟨tb, 0, none⟩), .slice a x.length c, .slice wa x.length wc] w fun r w' => r = .returned (.tuple #[]) ∧ AddP w w' base Pr tb L vg vw (.slice a x.length c) x := by
  have c0 := h.k0
  have f0 := h.froz 0
  have M1 : Hid (L.length + 1 ≤ maxLen) := by show _ ≤ _; unfold maxLen; omega
  have M2 : Hid ((L.length + 1) * 24 ≤ 140737488355328) := by show _ ≤ _; omega
  have B1 : Hid (base ≤ (w.alloc (.cells #[.slice a x.length c] 74)).heap.size) := by show base ≤ _; have h1 := h.tbge; have h2 := lt_of_block h.blk; rw [World.size_alloc]; omega
  have HX := Lib.hid hx; have D0 := Lib.hid hd; have DW := Lib.hid hwp; have HW := Lib.hid hw; have HO := Lib.hid ho
  have H := Lib.hid h
  clear h ho hx hd hw hwp
  go_enter Tryz.func24, Tryz.ntmps24
  go_wp2_with (at_builtin; refine wpList_append2 rfl (.tmp 10) (.tmp 12) 37 37 rfl base 74 (.slice none 0 0) 1 24 Tryz.underlying37 infoRow rfl (n := L.length) (xs := L.map Gt.val) (H.out.got.alloc _) rfl (xv := .slice (some ⟨w.heap.size, 0, none⟩) 1 1) (m := 1) (news := [.slice a x.length c]) (Src_new Tryz.underlying37 (e := 74) (heap_alloc_new w _) rfl) rfl M1.out M2.out B1.out ?_)
  intro v4 w4 ho4 hg4 hv4 _
  obtain ⟨g4, d4, rfl⟩ := ho4.shape (by omega)
  have P5 := H.out.push1 ho4 hg4 hv4
  have PM := Lib.hid P5.1
  have U5 := Lib.hid P5.2
  have V5 := Lib.hid hv4
  have U4 := Lib.hid (show Upd (fun k => vg.ownBlock = some k) w w4 from ((Upd.refl (fun k => vg.ownBlock = some k) w).alloc _).grown hg4 (fun _ h _ => h))
  have n1 : vg.ownBlock ≠ some tb := H.out.got.not_at H.out.blk (by decide)
  have c4 : w4.cell? ⟨tb, 0, none⟩ = some vg := U4.out.cell' c0 n1
  have f4 : w4.frozen? ⟨tb, 0, none⟩ = false := (U4.out.frozen (p := ⟨tb, 0, none⟩) (lt_of_block H.out.blk) n1).trans f0
  clear ho4 hg4 hv4 c0 f0 P5
  go_wp2_with fail
  generalize w4.setCell ⟨tb, 0, none⟩ (.slice (some ⟨g4, 0, none⟩) (L.length + 1) d4) = w5 at *
  clear c4 f4 U4 n1
  have k1 : w5.cell? ⟨tb, 1, none⟩ = some vw := by rw [cell_of_row' PM.out.blk]; rfl
  have f1 : w5.frozen? ⟨tb, 1, none⟩ = false := frozen_of_row PM.out.blk 1
  have HW5 := Lib.hid (HW.out.upd U5.out (by
    rintro ad rfl hne (e | e)
    · exact DW.out _ rfl (.inl e)
    · exact DW.out _ rfl (.inr (.inl e))))
  have x1 : (convert 74 9 (.slice wa x.length wc)).run Tryz.prog w5.drew = .ok (.string ⟨x.toArray⟩) w5.drew := conv_bytes Tryz.underlying74 Tryz.underlying5 Tryz.underlying9 HW5.out
  have cv := fun w' => run_strBytes w' x
  have B6 : Hid (∀ o o', base ≤ ((w5.alloc o).alloc o').drew.drew.heap.size) := by intro o o'; have h1 := PM.out.tbge; have h2 := lt_of_block PM.out.blk; show base ≤ ((w5.alloc o).alloc o').heap.size; rw [World.size_alloc, World.size_alloc]; omega
  have OW6 : Hid (∀ o o', Own ((w5.alloc o).alloc o').drew.drew base 74 1 vw L.length (L.map Gt.wal)) := fun o o' => (PM.out.want.alloc o).alloc o'
  have S6 : Hid (Src Tryz.prog 1 37 (.slice (some ⟨w5.heap.size + 1, 0, none⟩) 1 1) 1 [.slice (some ⟨w5.heap.size, 0, none⟩) x.length (scap w5.drew x)] ((w5.alloc (sobj w5.drew x)).alloc (.cells #[.slice (some ⟨w5.heap.size, 0, none⟩) x.length (scap w5.drew x)] 74)).drew.drew) := by
    have h := heap_alloc_new (w5.alloc (sobj w5.drew x)) (.cells #[.slice (some ⟨w5.heap.size, 0, none⟩) x.length (scap w5.drew x)] 74)
    rw [World.size_alloc] at h
    exact Src_new Tryz.underlying37 (e := 74) h rfl
  have W5 : Hid (Own (w5.alloc (sobj w5.drew x)) w5.heap.size 5 1 (.slice (some ⟨w5.heap.size, 0, none⟩) x.length (scap w5.drew x)) x.length (bys x)) := own_strBytes w5.drew x HX.out
  have e1 : ∀ o, (w5.alloc o).cell? ⟨tb, 1, none⟩ = some vw := fun o => (((Upd.refl (fun _ => False) w5).alloc o).cell (p := ⟨tb, 1, none⟩) (lt_of_block PM.out.blk) (fun h => h)).trans k1
  have e2 : ∀ o o', ((w5.alloc o).alloc o').cell? ⟨tb, 1, none⟩ = some vw := fun o o' => ((((Upd.refl (fun _ => False) w5).alloc o).alloc o').cell (p := ⟨tb, 1, none⟩) (lt_of_block PM.out.blk) (fun h => h)).trans k1
  go_region_law (refine step_append rfl (.tmp 20) (.tmp 24) 37 37 rfl base 74 (.slice none 0 0) 1 24 Tryz.underlying37 infoRow rfl (n := L.length) (xs := L.map Gt.wal) (OW6.out _ _) rfl (xv := .slice (some ⟨w5.heap.size + 1, 0, none⟩) 1 1) (m := 1) (news := [.slice (some ⟨w5.heap.size, 0, none⟩) x.length (scap w5.drew x)]) S6.out rfl M1.out M2.out (B6.out _ _) ?_; intro v6 w6 ho6 hg6 _ hv6; obtain ⟨g6, d6, rfl⟩ := ho6.shape (Nat.succ_pos _); obtain ⟨c6, f6⟩ := PM.out.c6 hg6; have O6 := Lib.hid ho6; have G6 := Lib.hid hg6; have V6 := Lib.hid hv6; clear ho6 hg6 hv6)
  all_goals
    go_wp2_with fail
    go_end0
    exact ⟨rfl, add_end H.out PM.out U5.out V5.out HO.out HX.out D0.out W5.out O6.out G6.out V6.out⟩
end Go.Proofs.YtnbpkignkfabkaaGreatDoor
/- posternlaw1.Late.Settle: answers go into the book. -/
namespace Go.Proofs.YtnbpkignkfabkaaGreatDoor
set_option linter.unusedVariables false
set_option linter.unusedSimpArgs false
open Go.RowKit
/-- A Late and a Book side by side. -/
structure LB (w : World) (base : Nat) (Pr : Nat → Prop) (tb bb : Nat) (L : List Gt) (vg vw : Value) (E : List Ent) (vb vo : Value) (bat : Nat) (tn dn : Int) (us : Nat) : Prop where
  lt : Lt w base Pr tb L vg vw
  bk : Bk w base Pr bb E E bat E.length vb vo bat tn dn us
  cnt : Cnt E.length bat us
  dis : ∀ k, LtF tb vg vw L k → ¬ BkF bb vb vo E k
def LBx (w : World) (base : Nat) (Pr : Nat → Prop) (tb bb n : Nat) : Prop := ∃ L vg vw E vb vo bat tn dn us, L.length ≤ n ∧ LB w base Pr tb bb L vg vw E vb vo bat tn dn us
/-- What such a pair may write. -/
def Free (base : Nat) (Pr : Nat → Prop) (k : Nat) : Prop := base ≤ k ∧ ¬ Pr k
section
variable {w w' : World} {base : Nat} {Pr : Nat → Prop} {tb bb : Nat} {L : List Gt} {vg vw : Value} {E : List Ent} {vb vo : Value} {bat : Nat} {tn dn : Int} {us : Nat}
theorem LB.upd {S : Nat → Prop} (h : LB w base Pr tb bb L vg vw E vb vo bat tn dn us) (hu : Upd S w w') (hs : ∀ k, S k → ¬ LtF tb vg vw L k ∧ ¬ BkF bb vb vo E k) : LB w' base Pr tb bb L vg vw E vb vo bat tn dn us :=
  ⟨h.lt.upd hu (fun k s => (hs k s).1), h.bk.upd hu (fun k s => (hs k s).2), h.cnt, h.dis⟩
theorem LB.foot (h : LB w base Pr tb bb L vg vw E vb vo bat tn dn us) : ∀ k, (LtF tb vg vw L k ∨ BkF bb vb vo E k) → base ≤ k ∧ k < w.heap.size ∧ ¬ Pr k := by
  rintro k (hk | hk)
  · exact h.lt.foot k hk
  · exact h.bk.foot k hk
end
theorem LBx.upd {S : Nat → Prop} {w w' : World} {base : Nat} {Pr : Nat → Prop} {tb bb n : Nat} (h : LBx w base Pr tb bb n) (hu : Upd S w w') (hs : ∀ k, S k → k < w.heap.size → Pr k ∨ k < base) : LBx w' base Pr tb bb n := by
  obtain ⟨L, vg, vw, E, vb, vo, bat, tn, dn, us, hl, hb⟩ := h
  refine ⟨L, vg, vw, E, vb, vo, bat, tn, dn, us, hl, hb.upd hu (fun k s => ?_)⟩
  have key : ∀ q : Prop, (LtF tb vg vw L k ∨ BkF bb vb vo E k) → q := by
    intro q hq
    obtain ⟨f1, f2, f3⟩ := hb.foot k hq
    rcases hs k s f2 with hp | hp
    · exact absurd hp f3
    · omega
  exact ⟨fun hq => key False (.inl hq), fun hq => key False (.inr hq)⟩
theorem LBx.mono {w : World} {base : Nat} {Pr : Nat → Prop} {tb bb n n' : Nat} (h : LBx w base Pr tb bb n) (hn : n ≤ n') : LBx w base Pr tb bb n' := by
  obtain ⟨L, vg, vw, E, vb, vo, bat, tn, dn, us, hl, hb⟩ := h
  exact ⟨L, vg, vw, E, vb, vo, bat, tn, dn, us, Nat.le_trans hl hn, hb⟩
/-- What is protected may be less. -/
theorem LBx.weak {w : World} {base : Nat} {Pr Pr' : Nat → Prop} {tb bb n : Nat} (h : LBx w base Pr tb bb n) (hp : ∀ k, Pr' k → Pr k) : LBx w base Pr' tb bb n := by
  obtain ⟨L, vg, vw, E, vb, vo, bat, tn, dn, us, hl, hb⟩ := h
  exact ⟨L, vg, vw, E, vb, vo, bat, tn, dn, us, hl, ⟨⟨hb.lt.blk, hb.lt.tbge, hb.lt.got, hb.lt.want, hb.lt.gw, hb.lt.gok, hb.lt.wok, hb.lt.gg, fun k q => hb.lt.pr k (hp k q), hb.lt.xl⟩,
    ⟨hb.bk.blk, hb.bk.bbge, hb.bk.rows, hb.bk.ofs, hb.bk.ent, hb.bk.ee, hb.bk.uq, fun k q => hb.bk.pr k (hp k q), hb.bk.en⟩, hb.cnt, hb.dis⟩⟩
/-- New blocks may be protected. -/
theorem LBx.guard {w w' : World} {base : Nat} {Pr Pr' : Nat → Prop} {tb bb n : Nat} (h : LBx w base Pr tb bb n) (hb : Below w.heap.size w w') (hp : ∀ k, Pr' k → Pr k ∨ w.heap.size ≤ k ∧ k < w'.heap.size) : LBx w' base Pr' tb bb n := by
  obtain ⟨L, vg, vw, E, vb, vo, bat, tn, dn, us, hl, hq⟩ := h
  have hw := hq.upd (Upd.ofBelow hb) (fun _ s => s.elim)
  have hf := hq.foot
  refine ⟨L, vg, vw, E, vb, vo, bat, tn, dn, us, hl, ⟨⟨hw.lt.blk, hw.lt.tbge, hw.lt.got, hw.lt.want, hw.lt.gw, hw.lt.gok, hw.lt.wok, hw.lt.gg, ?_, hw.lt.xl⟩,
    ⟨hw.bk.blk, hw.bk.bbge, hw.bk.rows, hw.bk.ofs, hw.bk.ent, hw.bk.ee, hw.bk.uq, ?_, hw.bk.en⟩, hw.cnt, hw.dis⟩⟩
  · intro k q
    rcases hp k q with q | ⟨q1, q2⟩
    · exact hw.lt.pr k q
    · exact ⟨q2, fun e => by have := (hf k (.inl e)).2.1; omega⟩
  · intro k q
    rcases hp k q with q | ⟨q1, q2⟩
    · exact hw.bk.pr k q
    · have nf : ¬ BkF bb vb vo E k := fun e => by have := (hf k (.inr e)).2.1; omega
      exact ⟨q2, fun e => nf (.inl e), fun e => nf (.inr (.inl e)), fun e => nf (.inr (.inr (.inl e))), fun f hf e => nf (.inr (.inr (.inr ⟨f, hf, e⟩)))⟩
/-- The answers from i on still stand beside the book. -/
structure SL (w0 w : World) (base : Nat) (Pr : Nat → Prop) (tb bb : Nat) (L : List Gt) (vg vw : Value) (i : Nat) (E : List Ent) (vb vo : Value) (bat : Nat) (tn dn : Int) (us : Nat) : Prop where
  bk : Bk w base Pr bb E E bat E.length vb vo bat tn dn us
  cnt : Cnt E.length bat us
  blk : w.heap[tb]? = some (.cells #[vg, vw] 66 (0, 0))
  got : Own w base 74 1 vg L.length (L.map Gt.val)
  rest : ∀ j, i ≤ j → ∀ g, L[j]? = some g → Own w base 5 1 g.val g.x.length (bys g.x) ∧ ∀ k, g.at_ k → ¬ BkF bb vb vo E k
  ng : ∀ k, vg.ownBlock = some k → ¬ BkF bb vb vo E k
  nt : ¬ BkF bb vb vo E tb
  pr : ∀ k, Pr k → k ≠ tb ∧ vg.ownBlock ≠ some k ∧ ∀ g ∈ L, ¬ g.at_ k
  gg : ∀ (i j : Nat), i ≠ j → ∀ (g h : Gt), L[i]? = some g → L[j]? = some h → ∀ k, g.at_ k → ¬ h.at_ k
  up : Upd (Free base Pr) w0 w
section
variable {w0 w w' : World} {base : Nat} {Pr : Nat → Prop} {tb bb : Nat} {L : List Gt} {vg vw : Value} {E : List Ent} {vb vo : Value} {bat : Nat} {tn dn : Int} {us i : Nat}
theorem SL.start (h : LB w base Pr tb bb L vg vw E vb vo bat tn dn us) (hw : Upd (fun _ => False) w w') : SL w w' base Pr tb bb L vg vw 0 E vb vo bat tn dn us :=
  have h' := h.upd hw (fun _ s => s.elim)
  ⟨h'.bk, h'.cnt, h'.lt.blk, h'.lt.got, fun j _ g hg => ⟨h'.lt.gok g (List.mem_of_getElem? hg), fun k hk => h.dis k (.inr (.inr (.inr (.inl ⟨g, List.mem_of_getElem? hg, hk⟩))))⟩, fun k hk => h.dis k (.inr (.inl hk)), h.dis tb (.inl rfl),
    fun k hp => ⟨fun e => (h.lt.pr k hp).2 (.inl e), fun e => (h.lt.pr k hp).2 (.inr (.inl e)), fun g hg e => (h.lt.pr k hp).2 (.inr (.inr (.inr (.inl ⟨g, hg, e⟩))))⟩, h.lt.gg, hw.mono (fun _ s _ => s.elim)⟩
theorem SL.step (h : SL w0 w base Pr tb bb L vg vw i E vb vo bat tn dn us) {g : Gt} (hg : L[i]? = some g) (hp : BytesP w w' base Pr bb E vb vo bat dn g.val) :
    ∃ E' vb' vo' tn' us', SL w0 w' base Pr tb bb L vg vw (i + 1) E' vb' vo' bat tn' dn us' := by
  obtain ⟨E', vb', vo', tn', us', b1, b2, b3, b4, b5⟩ := hp
  have gok := (h.rest i (Nat.le_refl _) g hg).1
  have gdis := (h.rest i (Nat.le_refl _) g hg).2
  have hS : ∀ k, (k = bb ∨ vb.ownBlock = some k ∨ vo.ownBlock = some k ∨ g.val.ownBlock = some k) → BkF bb vb vo E k ∨ g.at_ k := by
    rintro k (e | e | e | e)
    · exact .inl (.inl e)
    · exact .inl (.inr (.inl e))
    · exact .inl (.inr (.inr (.inl e)))
    · exact .inr e
  have ntb : ¬ g.at_ tb := gok.not_at h.blk (by decide)
  have tlt := lt_of_block h.blk
  have nvg : ∀ k, vg.ownBlock = some k → ¬ g.at_ k := fun k a b => Own.ne_type h.got gok (by decide) k a b
  refine ⟨E', vb', vo', tn', us', ⟨b1, b2, (b5.block tb tlt (fun s => (hS tb s).elim h.nt ntb)).trans h.blk, h.got.upd b5 (fun k a s => (hS k s).elim (h.ng k a) (nvg k a)), ?_, ?_, ?_, h.pr, h.gg, ?_⟩⟩
  · intro j hj f hf
    obtain ⟨f1, f2⟩ := h.rest j (by omega) f hf
    have fg : ∀ k, f.at_ k → ¬ g.at_ k := fun k a b => h.gg j i (by omega) f g hf hg k a b
    refine ⟨f1.upd b5 (fun k a s => (hS k s).elim (f2 k a) (fg k a)), fun k a hb => ?_⟩
    rcases b3 k hb with e | e | e
    · exact f2 k a e
    · have := (f1.lt k a).2; omega
    · exact fg k a e
  · intro k a hb
    rcases b3 k hb with e | e | e
    · exact h.ng k a e
    · have := (h.got.lt k a).2; omega
    · exact nvg k a e
  · intro hb
    rcases b3 tb hb with e | e | e
    · exact h.nt e
    · omega
    · exact ntb e
  · refine h.up.trans b5 (fun _ s _ => s) (fun k s _ => ?_)
    rcases hS k s with e | e
    · obtain ⟨f1, f2, f3⟩ := h.bk.foot k e
      exact ⟨f1, f3⟩
    · exact ⟨(gok.lt k e).1, fun hp => (h.pr k hp).2.2 g (List.mem_of_getElem? hg) e⟩
end
end Go.Proofs.YtnbpkignkfabkaaGreatDoor
/- posternlaw1.Late.Settle: its walk. -/
namespace Go.Proofs.YtnbpkignkfabkaaGreatDoor
set_option linter.unusedVariables false
set_option linter.unusedSimpArgs false
open Go.RowKit
theorem lt_nil {w : World} {base : Nat} {Pr : Nat → Prop} {tb : Nat} (hb : base ≤ tb) (h : w.heap[tb]? = some (.cells #[.slice none 0 0, .slice none 0 0] 66 (0, 0))) (hp : ∀ k, Pr k → k < w.heap.size ∧ k ≠ tb) : Lt w base Pr tb [] (.slice none 0 0) (.slice none 0 0) :=
  ⟨h, hb, Own.nil _ _ _ _, Own.nil _ _ _ _, (fun k e => by cases e), (fun g hg => by cases hg), (fun g hg => by cases hg), (fun i j _ g h hg => by cases hg), (fun k q => ⟨(hp k q).1, (by
    rintro (e | e | e | ⟨g, hg, _⟩ | ⟨g, hg, _⟩)
    · exact (hp k q).2 e
    · cases e
    · cases e
    · cases hg
    · cases hg)⟩), (fun g hg => by cases hg)⟩
set_option maxRecDepth 100000 in
set_option maxHeartbeats 2000000 in
theorem Settle_calls (w : World) (base : Nat) (Pr : Nat → Prop) (tb bb m n : Nat) (h : LBx w base Pr tb bb m) (hm : m ≤ 100000) (hn : n ≤ 1000) :
    Calls Tryz.prog 12 #[.pointer (some ⟨tb, 0, none⟩), .pointer (some ⟨bb, 0, none⟩), .int .i64 n] w fun r w' => r = .returned (.bool true) ∧ LBx w' base Pr tb bb (n - 1) ∧ Upd (Free base Pr) w w' := by
  obtain ⟨L, vg, vw, E, vb, vo, bat, tn, dn, us, hl, hb⟩ := h
  have c0 := hb.lt.k0
  have f0 := hb.lt.froz 0
  have c1 := hb.lt.k1
  have f1 := hb.lt.froz 1
  have hsame := same_calls w base Pr tb L vg vw hb.lt (by omega)
  have tlt := lt_of_block hb.lt.blk
  obtain ⟨av, cv, hvb, -, -, -⟩ := hb.lt.got.shape'
  subst hvb
  have HB := Lib.hid hb; have HS := Lib.hid hsame; clear hb hsame
  by_cases hln : L.length < n
  · have t1 : decide ((L.length : Int) < (n : Int)) = true := decide_eq_true (by omega)
    have t1' : decide (L.length < n) = true := decide_eq_true hln
    have HL : Hid (L.length ≤ n - 1) := by show _ ≤ _; omega
    clear hl
    go_enter Tryz.func12, Tryz.ntmps12
    go_wp2
    go_ret
    exact ⟨rfl, ⟨L, _, vw, E, vb, vo, bat, tn, dn, us, HL.out, HB.out⟩, Upd.refl _ _⟩
  · have t1 : decide ((L.length : Int) < (n : Int)) = false := decide_eq_false (by omega)
    have t1' : decide (L.length < n) = false := decide_eq_false hln
    go_enter Tryz.func12, Tryz.ntmps12
    go_wp2_with fail
    refine HS.out.mono ?_
    rintro r w1 ⟨q, rfl, rfl⟩
    have S0 := Lib.hid (SL.start HB.out ((Upd.refl (fun _ => False) w).drewN q))
    clear t1 t1' c0 c1
    go_wp2_with fail
    go_loopw [7] (fun vi wr => ∃ (i : Nat) (E : List Ent) (vb vo : Value) (tn : Int) (us : Nat), vi = .int .i64 i ∧ i ≤ L.length ∧ SL w wr base Pr tb bb L (.slice av L.length cv) vw i E vb vo bat tn dn us) (fun vi _ => L.length - (intOf vi).toNat)
    case atStart => exact ⟨0, E, vb, vo, tn, us, rfl, by omega, S0.out⟩
    case round =>
      clear S0
      obtain ⟨i, E, vb, vo, tn, us, rfl, hi, hs⟩ := hrel
      have SS := Lib.hid hs; clear hs
      have c0 : wr.cell? ⟨tb, 0, none⟩ = some (.slice av L.length cv) := by rw [cell_of_row' SS.out.blk]; rfl
      have lle : L.length ≤ 100000 := by omega
      by_cases hlt : i < L.length
      · have t1 : decide ((i : Int) < (L.length : Int)) = true := decide_eq_true (by omega)
        have t1' : decide (i < L.length) = true := decide_eq_true hlt
        obtain ⟨⟨ga, gc, gwa, gwc, gx⟩, hg⟩ : ∃ g, L[i]? = some g := ⟨_, List.getElem?_eq_getElem hlt⟩
        obtain ⟨g1, d1, hv1⟩ := SS.out.got.shape (by omega)
        cases hv1
        have q1 : wr.cell? ⟨g1, i, none⟩ = some (.slice ga gx.length gc) := by
          rw [SS.out.got.cellAt i (by omega)]
          simp [hg, Gt.val]
        have hr := SS.out.rest i (Nat.le_refl _) _ hg
        have hxl : gx.length ≤ 1000000000000 := HB.out.lt.xl _ (List.mem_of_getElem? hg)
        have BC := Lib.hid (BkBytes_calls wr base Pr bb E vb vo bat tn dn us SS.out.bk SS.out.cnt ga gx.length gc gx hr.1 hxl (fun k hk => ⟨fun hp => (SS.out.pr k hp).2.2 _ (List.mem_of_getElem? hg) hk, fun e he hk2 => hr.2 k hk (.inr (.inr (.inr ⟨e, he, hk2⟩)))⟩))
        have HG := Lib.hid hg
        clear hr hxl hg
        go_wp2_with fail
        refine BC.out.mono ?_
        rintro r w2 ⟨rfl, hp⟩
        obtain ⟨E', vb', vo', tn', us', hs'⟩ := SS.out.step HG.out hp
        have S2 := Lib.hid hs'; clear hs' hp
        clear c0 q1
        go_wp2
        go_roundw
        case rel => exact ⟨i + 1, E', vb', vo', tn', us', by go_num, by omega, S2.out⟩
        case measure => simp [intOf]; omega
      · have t1 : decide ((i : Int) < (L.length : Int)) = false := decide_eq_false (by omega)
        have t1' : decide (i < L.length) = false := decide_eq_false hlt
        have c1 : wr.cell? ⟨tb, 1, none⟩ = some vw := by rw [cell_of_row' SS.out.blk]; rfl
        have z0 := frozen_of_row SS.out.blk 0
        have z1 := frozen_of_row SS.out.blk 1
        have hblk : Hid (((wr.setCell ⟨tb, 0, none⟩ (.slice none 0 0)).setCell ⟨tb, 1, none⟩ (.slice none 0 0)).heap[tb]? = some (.cells #[.slice none 0 0, .slice none 0 0] 66 (0, 0))) := set_blk _ (set_blk _ SS.out.blk)
        have hU2 : Hid (Upd (fun k => k = tb) wr ((wr.setCell ⟨tb, 0, none⟩ (.slice none 0 0)).setCell ⟨tb, 1, none⟩ (.slice none 0 0))) := ((Upd.refl (fun k => k = tb) wr).setCell (p := ⟨tb, 0, none⟩) (fun _ => rfl) _).setCell (p := ⟨tb, 1, none⟩) (fun _ => rfl) _
        go_wp2_with fail
        generalize (wr.setCell ⟨tb, 0, none⟩ (.slice none 0 0)).setCell ⟨tb, 1, none⟩ (.slice none 0 0) = w2 at *
        have hbk := SS.out.bk.upd hU2.out (fun k s => by subst s; exact SS.out.nt)
        refine (Look_calls w2 base Pr bb E vb vo bat tn dn us hbk SS.out.cnt).mono ?_
        rintro r w3 ⟨rfl, E', vb', vo', bat', dn', p1, p2, p3, p4⟩
        have tb2 : tb < w2.heap.size := lt_of_block hblk.out
        have hb3 := (p4.block tb tb2 SS.out.nt).trans hblk.out
        have FU : Upd (Free base Pr) w w3 := (SS.out.up.trans hU2.out (fun k s _ => s) (fun k s _ => by
          subst s
          exact ⟨HB.out.lt.tbge, fun hp => (SS.out.pr _ hp).1 rfl⟩)).trans p4 (fun k s _ => s) (fun k s _ => by
          obtain ⟨f1, f2, f3⟩ := hbk.foot k s
          exact ⟨f1, f3⟩)
        have fin : LBx w3 base Pr tb bb (n - 1) := by
          refine ⟨[], _, _, E', vb', vo', bat', tn, dn', us, Nat.zero_le _, ⟨lt_nil HB.out.lt.tbge hb3 (fun k q => ⟨(p1.pr k q).1, (SS.out.pr k q).1⟩), p1, p2, ?_⟩⟩
          rintro k (e | e | e | ⟨g, hg, _⟩ | ⟨g, hg, _⟩)
          · subst e
            intro hq
            rcases p3 k hq with e | e
            · exact SS.out.nt e
            · omega
          · cases e
          · cases e
          · cases hg
          · cases hg
        have FUh := Lib.hid FU; have finh := Lib.hid fin
        clear FU fin hb3 p1 p2 p3 p4 hbk
        go_wp2
        go_ret
        exact ⟨rfl, finh.out, FUh.out⟩
end Go.Proofs.YtnbpkignkfabkaaGreatDoor
namespace Go.Proofs.YtnbpkignkfabkaaGreatDoor
set_option linter.unusedVariables false
set_option linter.unusedSimpArgs false
open Go.RowKit
section
variable {w w' : World} {base : Nat} {Pr : Nat → Prop} {tb bb : Nat} {L : List Gt} {vg vw : Value} {E : List Ent} {vb vo : Value} {bat : Nat} {tn dn : Int} {us : Nat}
theorem LB.add {w2 w3 : World} (h : LB w base Pr tb bb L vg vw E vb vo bat tn dn us) (hb : Below w.heap.size w w2) {v : Value} {x : List UInt8} (ha : AddP w2 w3 base Pr tb L vg vw v x) (hv : ∀ k, v.ownBlock = some k → w.heap.size ≤ k) :
    LBx w3 base Pr tb bb (L.length + 1) ∧ Upd (Free base Pr) w w3 := by
  obtain ⟨g, vg', vw', l3, gv, gx, fg, up⟩ := ha
  have h2 := h.upd (Upd.ofBelow hb) (fun _ s => s.elim)
  have hf := h.foot
  have s2 := hb.size
  have inl : ∀ k, (k = tb ∨ vg.ownBlock = some k ∨ vw.ownBlock = some k) → LtF tb vg vw L k := by
    rintro k (e | e | e)
    · exact .inl e
    · exact .inr (.inl e)
    · exact .inr (.inr (.inl e))
  refine ⟨⟨L ++ [g], vg', vw', E, vb, vo, bat, tn, dn, us, by simp, ⟨l3, h2.bk.upd up (fun k s => h.dis k (inl k s)), h.cnt, ?_⟩⟩, ?_⟩
  · intro k hk hq
    have := (hf k (.inr hq)).2.1
    rcases fg k hk with e | e | e
    · exact h.dis k e hq
    · omega
    · have := hv k e; omega
  · refine (Upd.ofBelowB hb).trans up (fun k s hk => by omega) (fun k s hk => ?_)
    obtain ⟨f1, f2, f3⟩ := hf k (.inl (inl k s))
    exact ⟨f1, f3⟩
end
theorem Byt.free {w w' : World} {base : Nat} {Pr : Nat → Prop} {a : Option Addr} {l : List UInt8} (h : Byt w a l) (hu : Upd (Free base Pr) w w') (hp : l ≠ [] → ∀ k, a.map (·.block) = some k → Pr k ∨ k < base) : Byt w' a l :=
  h.upd hu (fun ad ha hne s => by
    subst ha
    rcases hp hne _ rfl with h | h
    · exact s.2 h
    · exact absurd (show ad.block < base from h) (Nat.not_lt.2 s.1))
theorem Tab.free {w w' : World} {base : Nat} {Pr : Nat → Prop} (h : Tab w) (hu : Upd (Free base Pr) w w') (hg : 0 < base) : Tab w' := h.upd hu (fun s => by have := s.1; omega)
end Go.Proofs.YtnbpkignkfabkaaGreatDoor
