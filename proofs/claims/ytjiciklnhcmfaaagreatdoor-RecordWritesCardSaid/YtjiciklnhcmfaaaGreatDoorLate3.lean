/- posternlaw1.Late.Add: its walk. -/
import Derived.Test.YtjiciklnhcmfaaaGreatDoorLate2
namespace Go.Proofs.YtjiciklnhcmfaaaGreatDoor
set_option linter.unusedVariables false
set_option linter.unusedSimpArgs false
open Go.RowKit
/-- What becomes of a Late that is handed an answer. -/
def AddP (w w' : World) (base : Nat) (Pr : Nat → Prop) (tb : Nat) (L : List Gt) (vg vw : Value) (v : Value) (x : List UInt8) : Prop :=
  ∃ (g : Gt) (vg' vw' : Value), Lt w' base Pr tb (L ++ [g]) vg' vw' ∧ g.val = v ∧ g.x = x ∧ (∀ k, LtF tb vg' vw' (L ++ [g]) k → LtF tb vg vw L k ∨ w.heap.size ≤ k ∨ v.ownBlock = some k) ∧ Upd (fun k => k = tb ∨ vg.ownBlock = some k ∨ vw.ownBlock = some k) w w'
theorem add_end {w w5 w6 : World} {base : Nat} {Pr : Nat → Prop} {tb : Nat} {L : List Gt} {vg vg' vw v6 : Value} {a : Option Addr} {c q : Nat} {x : List UInt8} {o o' : Obj} (H : Lt w base Pr tb L vg vw) (PM : LtM w5 base tb L (.slice a x.length c) vg' vw)
    (U5 : Upd (fun k => k = tb ∨ vg.ownBlock = some k) w w5) (V5 : vg'.ownBlock = vg.ownBlock ∨ vg'.ownBlock = some (w.heap.size + 1)) (HO : Own w base 5 1 (.slice a x.length c) x.length (bys x)) (HX : x.length ≤ 1000000000000)
    (D0 : ∀ k, (Value.slice a x.length c).ownBlock = some k → ¬ Pr k ∧ ¬ LtF tb vg vw L k) (W5 : Own (w5.alloc o) w5.heap.size 5 1 (.slice (some ⟨w5.heap.size, 0, none⟩) x.length q) x.length (bys x))
    (O6 : Own w6 base 23 1 v6 (L.length + 1) (L.map Gt.wal ++ [.slice (some ⟨w5.heap.size, 0, none⟩) x.length q])) (G6 : ((w5.alloc o).alloc o').drew.drew.grownBy w6 vw.ownBlock) (V6 : v6.ownBlock = vw.ownBlock ∨ v6.ownBlock = some (((w5.alloc o).alloc o').drew.drew.heap.size)) :
    AddP w (w6.setCell ⟨tb, 1, none⟩ v6) base Pr tb L vg vw (.slice a x.length c) x := by
  rw [show ((w5.alloc o).alloc o').drew.drew.heap.size = w5.heap.size + 1 + 1 by show ((w5.alloc o).alloc o').heap.size = _; rw [World.size_alloc, World.size_alloc]] at V6
  have UW : Upd (fun _ => False) w5 ((w5.alloc o).drew.drew) := (((Upd.refl (fun _ => False) w5).alloc o).drew).drew
  have sz : ((w5.alloc o).drew.drew).heap.size = w5.heap.size + 1 := World.size_alloc _ _
  have s5 := U5.size
  have tl := lt_of_block H.blk
  have HO5 : Own w5 base 5 1 (.slice a x.length c) x.length (bys x) := HO.upd U5 (by
    rintro k hk (rfl | e)
    · exact (D0 _ hk).2 (.inl rfl)
    · exact (D0 _ hk).2 (.inr (.inl e)))
  have tb5 := PM.tbge
  have P6 := LtM.push2 (w := (w5.alloc o).drew.drew) (Pr := Pr) (PM.upd UW (fun _ s => s.elim)) ⟨a, c, some ⟨w5.heap.size, 0, none⟩, q, x⟩ rfl (HO5.upd UW (fun _ _ s => s)) (show Own _ base 5 1 (.slice (some ⟨w5.heap.size, 0, none⟩) x.length q) x.length (bys x) from (Own.mono (show Own ((w5.alloc o).drew.drew) w5.heap.size 5 1 (.slice (some ⟨w5.heap.size, 0, none⟩) x.length q) x.length (bys x) from W5) (by have := H.tbge; omega))) HX
    (fun f hf k h1 h2 => (D0 k h1).2 (.inr (.inr (.inr (.inl ⟨f, hf, h2⟩))))) H.gg H.xl (fun k hp => by
      obtain ⟨p1, p2⟩ := H.pr k hp
      refine ⟨by rw [sz]; omega, ?_, fun h => (D0 k h).1 hp, fun h => by injection h with h; simp at h; omega⟩
      rintro (e | e | e | e)
      · exact p2 (.inl e)
      · rcases V5 with v | v
        · exact p2 (.inr (.inl (by rw [← v]; exact e)))
        · rw [v] at e; injection e with e; omega
      · exact p2 (.inr (.inr (.inl e)))
      · exact p2 (.inr (.inr (.inr e))))
    O6 (o := o') G6 (by rw [sz]; exact V6)
  refine ⟨⟨a, c, some ⟨w5.heap.size, 0, none⟩, q, x⟩, vg', v6, P6.1, rfl, rfl, ?_, ?_⟩
  · rintro k (e | e | e | ⟨f, hf, e⟩ | ⟨f, hf, e⟩)
    · exact .inl (.inl e)
    · rcases V5 with v | v
      · exact .inl (.inr (.inl (by rw [← v]; exact e)))
      · rw [v] at e; injection e with e; exact .inr (.inl (by omega))
    · rcases V6 with v | v
      · exact .inl (.inr (.inr (.inl (by rw [← v]; exact e))))
      · rw [v] at e; injection e with e; exact .inr (.inl (by omega))
    · rcases List.mem_append.1 hf with hf | hf
      · exact .inl (.inr (.inr (.inr (.inl ⟨f, hf, e⟩))))
      · rw [List.mem_singleton.1 hf] at e; exact .inr (.inr e)
    · rcases List.mem_append.1 hf with hf | hf
      · exact .inl (.inr (.inr (.inr (.inr ⟨f, hf, e⟩))))
      · rw [List.mem_singleton.1 hf] at e; injection e with e; exact .inr (.inl (by simp at e; omega))
  · refine (U5.trans UW (fun k h _ => ?_) (fun k h _ => h.elim)).trans P6.2 (fun k h _ => h) (fun k h _ => ?_)
    · rcases h with h | h
      · exact .inl h
      · exact .inr (.inl h)
    · rcases h with h | h
      · exact .inl h
      · exact .inr (.inr h)
theorem LtM.c6 {w5 w6 : World} {base tb : Nat} {L : List Gt} {v vg vw : Value} (h : LtM w5 base tb L v vg vw) {o o' : Obj} (hg : ((w5.alloc o).alloc o').drew.drew.grownBy w6 vw.ownBlock) : w6.cell? ⟨tb, 1, none⟩ = some vw ∧ w6.frozen? ⟨tb, 1, none⟩ = false := by
  have n2 : vw.ownBlock ≠ some tb := h.want.not_at h.blk (by decide)
  have hU : Upd (fun k => vw.ownBlock = some k) w5 w6 := (((((Upd.refl (fun k => vw.ownBlock = some k) w5).alloc o).alloc o').drew).drew).grown hg (fun _ h _ => h)
  have hb := (hU.block tb (lt_of_block h.blk) n2).trans h.blk
  exact ⟨by rw [cell_of_row' hb]; rfl, frozen_of_row hb 1⟩
set_option maxRecDepth 100000 in
set_option maxHeartbeats 2000000 in
theorem Add_calls (w : World) (base : Nat) (Pr : Nat → Prop) (tb : Nat) (L : List Gt) (vg vw : Value) (h : Lt w base Pr tb L vg vw) (hl : L.length ≤ 100000) (a : Option Addr) (c : Nat) (x : List UInt8)
    (ho : Own w base 5 1 (.slice a x.length c) x.length (bys x)) (hx : x.length ≤ 1000000000000) (hd : ∀ k, (Value.slice a x.length c).ownBlock = some k → ¬ Pr k ∧ ¬ LtF tb vg vw L k) (wa : Option Addr) (wc : Nat) (hw : Byt w wa x) (hwp : ∀ k, wa.map (·.block) = some k → ¬ LtF tb vg vw L k) :
    Calls Tryz.prog 26 #[.pointer (some ⟨tb, 0, none⟩), .slice a x.length c, .slice wa x.length wc] w fun r w' => r = .returned (.tuple #[]) ∧ AddP w w' base Pr tb L vg vw (.slice a x.length c) x := by
  have c0 := h.k0
  have f0 := h.froz 0
  have M1 : Hid (L.length + 1 ≤ maxLen) := by show _ ≤ _; unfold maxLen; omega
  have M2 : Hid ((L.length + 1) * 24 ≤ 140737488355328) := by show _ ≤ _; omega
  have B1 : Hid (base ≤ (w.alloc (.cells #[.slice a x.length c] 23)).heap.size) := by show base ≤ _; have h1 := h.tbge; have h2 := lt_of_block h.blk; rw [World.size_alloc]; omega
  have HX := Lib.hid hx; have D0 := Lib.hid hd; have DW := Lib.hid hwp; have HW := Lib.hid hw; have HO := Lib.hid ho
  have H := Lib.hid h
  clear h ho hx hd hw hwp
  go_enter Tryz.func26, Tryz.ntmps26
  go_wp2_with (at_builtin; refine wpList_append2 rfl (.tmp 10) (.tmp 12) 32 32 rfl base 23 (.slice none 0 0) 1 24 Tryz.underlying32 infoRow rfl (n := L.length) (xs := L.map Gt.val) (H.out.got.alloc _) rfl (xv := .slice (some ⟨w.heap.size, 0, none⟩) 1 1) (m := 1) (news := [.slice a x.length c]) (Src_new Tryz.underlying32 (e := 23) (heap_alloc_new w _) rfl) rfl M1.out M2.out B1.out ?_)
  intro v4 w4 ho4 hg4 hv4 _
  obtain ⟨g4, d4, rfl⟩ := ho4.shape (by omega)
  have P5 := H.out.push1 ho4 hg4 hv4
  have PM := Lib.hid P5.1
  have U5 := Lib.hid P5.2
  have V5 := Lib.hid hv4
  have U4 := Lib.hid (show Upd (fun k => vg.ownBlock = some k) w w4 from ((Upd.refl (fun k => vg.ownBlock = some k) w).alloc _).grown hg4 (fun _ h _ => h))
  have n1 : vg.ownBlock ≠ some tb := H.out.got.not_at H.out.blk (by decide)
  have c4 : w4.cell? ⟨tb, 0, none⟩ = some vg := U4.out.cell' c0 n1
  have f4 : w4.frozen? ⟨tb, 0, none⟩ = false := (U4.out.frozen (p := ⟨tb, 0, none⟩) (lt_of_block H.out.blk) n1).trans f0
  clear ho4 hg4 hv4 c0 f0 P5
  go_wp2_with fail
  generalize w4.setCell ⟨tb, 0, none⟩ (.slice (some ⟨g4, 0, none⟩) (L.length + 1) d4) = w5 at *
  clear c4 f4 U4 n1
  have k1 : w5.cell? ⟨tb, 1, none⟩ = some vw := by rw [cell_of_row' PM.out.blk]; rfl
  have f1 : w5.frozen? ⟨tb, 1, none⟩ = false := frozen_of_row PM.out.blk 1
  have HW5 := Lib.hid (HW.out.upd U5.out (by
    rintro ad rfl hne (e | e)
    · exact DW.out _ rfl (.inl e)
    · exact DW.out _ rfl (.inr (.inl e))))
  have x1 : (convert 23 9 (.slice wa x.length wc)).run Tryz.prog w5.drew = .ok (.string ⟨x.toArray⟩) w5.drew := conv_bytes Tryz.underlying23 Tryz.underlying5 Tryz.underlying9 HW5.out
  have cv := fun w' => run_strBytes w' x
  have B6 : Hid (∀ o o', base ≤ ((w5.alloc o).alloc o').drew.drew.heap.size) := by intro o o'; have h1 := PM.out.tbge; have h2 := lt_of_block PM.out.blk; show base ≤ ((w5.alloc o).alloc o').heap.size; rw [World.size_alloc, World.size_alloc]; omega
  have OW6 : Hid (∀ o o', Own ((w5.alloc o).alloc o').drew.drew base 23 1 vw L.length (L.map Gt.wal)) := fun o o' => (PM.out.want.alloc o).alloc o'
  have S6 : Hid (Src Tryz.prog 1 32 (.slice (some ⟨w5.heap.size + 1, 0, none⟩) 1 1) 1 [.slice (some ⟨w5.heap.size, 0, none⟩) x.length (scap w5.drew x)] ((w5.alloc (sobj w5.drew x)).alloc (.cells #[.slice (some ⟨w5.heap.size, 0, none⟩) x.length (scap w5.drew x)] 23)).drew.drew) := by
    have h := heap_alloc_new (w5.alloc (sobj w5.drew x)) (.cells #[.slice (some ⟨w5.heap.size, 0, none⟩) x.length (scap w5.drew x)] 23)
    rw [World.size_alloc] at h
    exact Src_new Tryz.underlying32 (e := 23) h rfl
  have W5 : Hid (Own (w5.alloc (sobj w5.drew x)) w5.heap.size 5 1 (.slice (some ⟨w5.heap.size, 0, none⟩) x.length (scap w5.drew x)) x.length (bys x)) := own_strBytes w5.drew x HX.out
  have e1 : ∀ o, (w5.alloc o).cell? ⟨tb, 1, none⟩ = some vw := fun o => (((Upd.refl (fun _ => False) w5).alloc o).cell (p := ⟨tb, 1, none⟩) (lt_of_block PM.out.blk) (fun h => h)).trans k1
  have e2 : ∀ o o', ((w5.alloc o).alloc o').cell? ⟨tb, 1, none⟩ = some vw := fun o o' => ((((Upd.refl (fun _ => False) w5).alloc o).alloc o').cell (p := ⟨tb, 1, none⟩) (lt_of_block PM.out.blk) (fun h => h)).trans k1
  go_region_law (refine step_append rfl (.tmp 20) (.tmp 24) 32 32 rfl base 23 (.slice none 0 0) 1 24 Tryz.underlying32 infoRow rfl (n := L.length) (xs := L.map Gt.wal) (OW6.out _ _) rfl (xv := .slice (some ⟨w5.heap.size + 1, 0, none⟩) 1 1) (m := 1) (news := [.slice (some ⟨w5.heap.size, 0, none⟩) x.length (scap w5.drew x)]) S6.out rfl M1.out M2.out (B6.out _ _) ?_; intro v6 w6 ho6 hg6 _ hv6; obtain ⟨g6, d6, rfl⟩ := ho6.shape (Nat.succ_pos _); obtain ⟨c6, f6⟩ := PM.out.c6 hg6; have O6 := Lib.hid ho6; have G6 := Lib.hid hg6; have V6 := Lib.hid hv6; clear ho6 hg6 hv6)
  all_goals
    go_wp2_with fail
    go_end0
    exact ⟨rfl, add_end H.out PM.out U5.out V5.out HO.out HX.out D0.out W5.out O6.out G6.out V6.out⟩
end Go.Proofs.YtjiciklnhcmfaaaGreatDoor
