/- (*disk.Disk).Append. -/
import Derived.Test.YtnbpkignkfabkaaGreatDoorDsk
import Derived.Deep.RegionHeld3
import Derived.Test.YtnbpkignkfabkaaGreatDoorDsW
import Derived.Conc.MuLone
import Derived.Defers
/- disk.Append's closures: bytes laid behind a file. -/
namespace Go.Proofs.YtnbpkignkfabkaaGreatDoor
set_option linter.unusedVariables false
set_option linter.unusedSimpArgs false
open Go.RowKit Go.Maps
theorem Own.not_ty {w : World} {base : Nat} {e e' : TypeId} {size n : Nat} {v : Value} {xs : List Value} (h : Own w base e size v n xs) {b : Nat} {cur : Array Value} {fr : Nat × Nat} (hb : w.heap[b]? = some (.cells cur e' fr)) (hne : e' ≠ e) : v.ownBlock ≠ some b := by
  intro hk
  rcases h.2 with ⟨rfl, _⟩ | ⟨g, cap, cur', fr', rfl, _, hg, _⟩
  · cases hk
  · simp [Value.ownBlock] at hk
    subst hk
    rw [hb] at hg
    injection hg with hg
    injection hg with _ hg
    exact hne hg
theorem set_blk9 {w : World} {b j : Nat} {cur : Array Value} {e : TypeId} {fr : Nat × Nat} (u : Value) (h : w.heap[b]? = some (.cells cur e fr)) : (w.setCell ⟨b, j, none⟩ u).heap[b]? = some (.cells (cur.setIfInBounds j u) e fr) := by
  have hg : b < w.heap.size := lt_of_block h
  have hv : w.heap[b] = .cells cur e fr := (Array.getElem?_eq_some_iff.1 h).2
  show (w.heap.modify b _)[b]? = _
  rw [Array.getElem?_eq_getElem (by simpa using hg), Array.getElem_modify_self, hv]
  rfl
/-- One number of a disk is set. -/
theorem Dsk.set {w : World} {base db mb : Nat} {m : Int} {k : DkV} {L : List Fl} {D : DataW Value} (j : Nat) (u : Value) (m' : Int) (k' : DkV) (hk : (dcells m k mb).setIfInBounds j u = dcells m' k' mb) (hb : w.heap[db]? = some (.cells (dcells m k mb) 114 (0, 0))) (hd : base ≤ db) (hf : Fls w base mb L D) :
    Dsk (w.setCell ⟨db, j, none⟩ u) base db mb m' k' L D := by
  refine ⟨?_, hd, hf.upd ((Upd.refl (fun i => i = db) w).setCell (p := ⟨db, j, none⟩) (fun _ => rfl) u) ?_⟩
  · rw [set_blk9 u hb, hk]
  · rintro i rfl (s | ⟨f, hf', s⟩)
    · obtain ⟨es, c, hb2, _⟩ := hf.map
      rw [← s, hb] at hb2
      cases hb2
    · exact (hf.own f hf').not_ty hb (by decide) s
/-- What becomes of a disk where bytes are laid behind a file. -/
def LayF (w w' : World) (base db mb : Nat) (m : Int) (k : DkV) (L : List Fl) (D : DataW Value) (nm b : List UInt8) : Prop :=
  ∃ (a : Option Addr) (c : Nat), Dsk w' base db mb m { k with used := k.used + b.length } (putF L ⟨nm, bytF L nm ++ b, a, c⟩) (D.put (key nm) (.held (Fl.val ⟨nm, bytF L nm ++ b, a, c⟩))) ∧
    Upd (fun i => i = db ∨ i = mb ∨ (valF L nm).ownBlock = some i) w w' ∧ ∀ i, Fl.at_ ⟨nm, bytF L nm ++ b, a, c⟩ i → (valF L nm).ownBlock = some i ∨ w.heap.size ≤ i
theorem infoByte9 : (Tryz.prog.info? 5).map (fun i => (i.zero, i.size, i.bytes)) = some (some (.int .u8 0), 1, 1) := by kernel_rfl
set_option maxRecDepth 100000 in
set_option maxHeartbeats 2000000 in
theorem layC_calls (base db mb : Nat) (m : Int) (k : DkV) (L : List Fl) (D : DataW Value) (nm b : List UInt8) (ba : Option Addr) (bc wa da na : Nat) (w : World) (h : Dsk w base db mb m k L D) (hb : Byt w ba b)
    (hw : w.cell? ⟨wa, 0, none⟩ = some (valF L nm)) (hd : w.cell? ⟨da, 0, none⟩ = some (.pointer (some ⟨db, 0, none⟩))) (hna : w.cell? ⟨na, 0, none⟩ = some (.string ⟨nm.toArray⟩)) (hda : ¬ DkF db mb L da) (hnna : ¬ DkF db mb L na) (hwwa : ¬ DkF db mb L wa)
    (hnm : nm.length ≤ 140737488351232) (hL : L.length ≤ 1000) (hlen : (bytF L nm).length + b.length ≤ 140737488355328) (hu : -4611686018427387904 ≤ k.used ∧ k.used ≤ 4611686018427387904) :
    Calls Tryz.prog 109 #[.slice ba b.length bc, .pointer (some ⟨wa, 0, none⟩), .pointer (some ⟨da, 0, none⟩), .pointer (some ⟨na, 0, none⟩)] w fun r w' => r = .returned (.tuple #[]) ∧ LayF w w' base db mb m k L D nm b := by
  obtain ⟨VO, VS, VF⟩ := h.fls.val_own nm
  have c4 : w.cell? ⟨db, 4, none⟩ = some (.map (some mb)) := h.cell 4
  have H := Lib.hid h
  obtain ⟨v, hv⟩ : ∃ v, valF L nm = v := ⟨_, rfl⟩
  obtain ⟨ob, hob⟩ : ∃ l, bytF L nm = l := ⟨_, rfl⟩
  rw [hv] at hw VO VS VF
  rw [hob] at VO hlen
  have HV := Lib.hid hv; have HOB := Lib.hid hob
  have O0 := Lib.hid VO; have VSH := Lib.hid VS; have VFH := Lib.hid VF
  have M1 : Hid (ob.length + b.length ≤ maxLen) := by show _ ≤ _; unfold maxLen; omega
  have M2 : Hid ((ob.length + b.length) * 1 ≤ 140737488355328) := by show _ ≤ _; omega
  have M3 : Hid (base ≤ w.heap.size) := by show _ ≤ _; have := h.dge; have := h.lt; omega
  have SB := Lib.hid (fun w1 (h1 : Byt w1 ba b) => Src_byt (P := Tryz.prog) (tx := 74) Tryz.underlying74 h1 (c := bc) (fun _ => .inr trivial))
  have YB := Lib.hid hb
  have VDB : Hid (v.ownBlock ≠ some db) := VO.not_ty h.blk (by decide)
  have NDA : Hid (v.ownBlock ≠ some da) := fun s => hda (.inr (VF da s))
  have NNA : Hid (v.ownBlock ≠ some na) := fun s => hnna (.inr (VF na s))
  have NWA : Hid (v.ownBlock ≠ some wa) := fun s => hwwa (.inr (VF wa s))
  have HL := Lib.hid (h.fls.lt)
  -- behind the append: what the store into the map leaves
  have PUT := Lib.hid (fun (w1 : World) (a1 : Option Addr) (c1 : Nat) (ho : Own w1 base 5 1 (.slice a1 (ob.length + b.length) c1) (ob.length + b.length) (bys ob ++ bys b)) (hu1 : Upd (fun i => v.ownBlock = some i) w w1) (hv1 : (Value.slice a1 (ob.length + b.length) c1).ownBlock = v.ownBlock ∨ (Value.slice a1 (ob.length + b.length) c1).ownBlock = some w.heap.size) =>
    show ∃ w2, (Instr.mapUpdate 105 (.map (some mb)) (.string ⟨nm.toArray⟩) (.slice a1 (ob.length + b.length) c1)).run Tryz.prog w1 = .ok () w2 ∧ Fls w2 base mb (putF L ⟨nm, ob ++ b, a1, c1⟩) (D.put (key nm) (.held (Fl.val ⟨nm, ob ++ b, a1, c1⟩))) ∧ Upd (fun i => i = mb) w1 w2 from by
      have e : (ob ++ b).length = ob.length + b.length := List.length_append
      have hlt := h.fls.lt
      have P := h.fls.put2 hu1 ⟨nm, ob ++ b, a1, c1⟩ VS (by show nm.length ≤ maxLen; unfold maxLen; omega) (by unfold maxLen; omega) (by
          show Own w1 base 5 1 (.slice a1 (ob ++ b).length c1) (ob ++ b).length (bys (ob ++ b))
          rw [e, bys_append]
          exact ho) (fun g hg hne i hi hgi => by
          have hi' : (Value.slice a1 (ob ++ b).length c1).ownBlock = some i := hi
          rw [e] at hi'
          rcases hv1 with c | c
          · rw [c] at hi'; exact (VS i hi').2 g hg hne hgi
          · rw [c] at hi'
            injection hi' with hi'
            have := (hlt i (.inr ⟨g, hg, hgi⟩)).2
            omega)
      obtain ⟨w2, hr, hf, hu2⟩ := P
      refine ⟨w2, ?_, hf, hu2⟩
      have hr' := hr
      show (Instr.mapUpdate 105 (.map (some mb)) (.string ⟨nm.toArray⟩) (.slice a1 (ob.length + b.length) c1)).run Tryz.prog w1 = .ok () w2
      rw [← e]
      exact hr')
  have BLK := Lib.hid h.blk
  have MDA : Hid (¬ da = mb) := fun s => hda (.inr (.inl s))
  have MNA : Hid (¬ na = mb) := fun s => hnna (.inr (.inl s))
  have MWA : Hid (¬ wa = mb) := fun s => hwwa (.inr (.inl s))
  have MDB : Hid (¬ db = mb) := fun s => by
    obtain ⟨es, c, hb2, _⟩ := h.fls.map
    have h1 := h.blk
    rw [s, hb2] at h1
    cases h1
  have DGE := Lib.hid h.dge
  clear hv hob VO VS VF h hb hda hnna hwwa
  go_enter Tryz.func109, Tryz.ntmps109
  go_wp2_with fail
  go_region_held3 (fun w' => w'.cell? ⟨da, 0, none⟩ = some (.pointer (some ⟨db, 0, none⟩)) ∧ w'.cell? ⟨na, 0, none⟩ = some (.string ⟨nm.toArray⟩) ∧ w'.cell? ⟨wa, 0, none⟩ = some v ∧ w'.cell? ⟨db, 4, none⟩ = some (.map (some mb)))
    (first
      | go_keep)
    ((refine step_append (by rfl) (.tmp 10) (.tmp 11) 74 74 (by rfl) base 5 (.int .u8 0) 1 1 Tryz.underlying74 infoByte9 rfl (n := ob.length) (xs := bys ob) O0.out.drew (by rfl) (xv := .slice ba b.length bc) (m := b.length) (news := bys b) (SB.out _ YB.out) (by rfl) M1.out M2.out M3.out ?_; intro v1 w1 ho1 hg1 hn1 hv1; obtain ⟨a1, c1, rfl, -, -, -⟩ := ho1.shape'; have hu1 : Upd (fun i => v.ownBlock = some i) w w1 := ((Upd.refl (fun i => v.ownBlock = some i) w).drew).grown hg1 (fun _ s _ => s); have y1 := hu1.cell' hd NDA.out; have y2 := hu1.cell' hna NNA.out; have y3 := hu1.cell' hw NWA.out; have y4 := hu1.cell' c4 VDB.out; have U1 := Lib.hid hu1; have V1 := Lib.hid hv1; obtain ⟨w2, hr2, hf2, hu2⟩ := PUT.out w1 a1 c1 ho1 hu1 hv1; have F2 := Lib.hid hf2; have x1 := hu2.cell' y1 MDA.out; have x2 := hu2.cell' y2 MNA.out; have x3 := hu2.cell' y3 MWA.out; have x4 := hu2.cell' y4 MDB.out; have U2 := Lib.hid hu2; have O1 := Lib.hid ho1; clear hf2 hu2 ho1 hg1 hn1 hv1 hu1))
  have hblk : w2.heap[db]? = some (.cells (dcells m k mb) 114 (0, 0)) := (U2.out.block db (Nat.lt_of_lt_of_le (lt_of_block BLK.out) U1.out.size) MDB.out).trans ((U1.out.block db (lt_of_block BLK.out) VDB.out).trans BLK.out)
  have x5 : w2.cell? ⟨db, 3, none⟩ = some (.int .i64 k.used) := cell_of_row' hblk
  have x6 : w2.frozen? ⟨db, 3, none⟩ = false := by simp only [World.frozen?, hblk]; simp
  have HB := Lib.hid hblk
  obtain ⟨hu1, hu2⟩ := hu
  clear hr2 y1 y2 y3 y4 hblk
  go_wp2
  go_end0
  have DS := Dsk.set (m := m) (k := k) (mb := mb) 3 (.int .i64 (k.used + b.length)) m { k with used := k.used + b.length } rfl HB.out DGE.out F2.out
  refine ⟨rfl, a1, c1, ?_, ?_, ?_⟩
  · rw [HOB.out]; exact DS
  · rw [HV.out]
    refine ((U1.out.trans U2.out (S := fun i => i = db ∨ i = mb ∨ v.ownBlock = some i) (fun _ s _ => .inr (.inr s)) (fun _ s _ => .inr (.inl s)))).setCell (fun _ => .inl rfl) _
  · intro i hi
    rw [HOB.out] at hi
    have hi' : (Value.slice a1 (ob ++ b).length c1).ownBlock = some i := hi
    rw [List.length_append] at hi'
    rw [HV.out]
    rcases V1.out with c | c
    · rw [c] at hi'; exact .inl hi'
    · rw [c] at hi'
      injection hi' with hi'
      exact .inr (Nat.le_of_eq hi')
end Go.Proofs.YtnbpkignkfabkaaGreatDoor
/- disk.Append's closures: all of it, a part of it. -/
namespace Go.Proofs.YtnbpkignkfabkaaGreatDoor
set_option linter.unusedVariables false
set_option linter.unusedSimpArgs false
open Go.RowKit Go.Maps
/-- The variables that Append's closures have captured. -/
structure Cap (w : World) (db mb : Nat) (L : List Fl) (nm : List UInt8) (wa da na : Nat) : Prop where
  hw : w.cell? ⟨wa, 0, none⟩ = some (valF L nm)
  hd : w.cell? ⟨da, 0, none⟩ = some (.pointer (some ⟨db, 0, none⟩))
  hn : w.cell? ⟨na, 0, none⟩ = some (.string ⟨nm.toArray⟩)
  nd : ¬ DkF db mb L da
  nn : ¬ DkF db mb L na
  nw : ¬ DkF db mb L wa
def layV (wa da na : Nat) : Value := .func (.func 109) #[] #[.pointer (some ⟨wa, 0, none⟩), .pointer (some ⟨da, 0, none⟩), .pointer (some ⟨na, 0, none⟩)]
set_option maxRecDepth 100000 in
set_option maxHeartbeats 2000000 in
theorem all_calls (base db mb : Nat) (m : Int) (k : DkV) (L : List Fl) (D : DataW Value) (nm b : List UInt8) (ba : Option Addr) (bc wa da na la bp : Nat) (w : World) (h : Dsk w base db mb m k L D) (hc : Cap w db mb L nm wa da na) (hb : Byt w ba b)
    (hla : w.cell? ⟨la, 0, none⟩ = some (layV wa da na)) (hbp : w.cell? ⟨bp, 0, none⟩ = some (.slice ba b.length bc))
    (hnm : nm.length ≤ 140737488351232) (hL : L.length ≤ 1000) (hlen : (bytF L nm).length + b.length ≤ 140737488355328) (hu : -4611686018427387904 ≤ k.used ∧ k.used ≤ 4611686018427387904) :
    Calls Tryz.prog 111 #[.pointer (some ⟨la, 0, none⟩), .pointer (some ⟨bp, 0, none⟩)] w fun r w' => r = .returned (.tuple #[]) ∧ LayF w w' base db mb m k L D nm b := by
  have LC := Lib.hid (layC_calls base db mb m k L D nm b ba bc wa da na w h hb hc.hw hc.hd hc.hn hc.nd hc.nn hc.nw hnm hL hlen hu)
  unfold layV at hla
  clear h hc hb hnm hL hlen hu
  go_enter Tryz.func111, Tryz.ntmps111
  go_wp2_with fail
  refine LC.out.mono ?_
  rintro r w1 ⟨rfl, hq⟩
  have HQ := Lib.hid hq
  clear hq
  go_wp2
  go_end0
  exact ⟨rfl, HQ.out⟩
/-- A call of a function value with one argument, as a step of a region. -/
theorem step_callv1 {P : Program} {ops : Array Oper} {o : Oper} {a : Act} {w : World} {K : Act → World → Prop} {Q : Exit → Act → World → Prop} {E : Prop} (hgd : Region.wanted o (yielded ops a.tmps) = true) {f : FuncId} {cap : Array Value} {fo x : Operand} {ts : Array TypeId}
    (hop : o.op = Op.call { callee := Callee.value fo, args := #[x], argTypes := ts }) (hf : a.eval fo = .func (.func f) #[] cap) {v : Value} (hv : a.eval x = v) {vals : Array Value} (hvals : #[v] ++ cap = vals) (hen : ∀ w' : World, (callFunc f vals).run P w' = .ok (.enter f vals) w')
    {R : Ending → World → Prop} (hc : Calls P f vals w R) (h : ∀ e w', R e w' → ∃ v, e = .returned v ∧ K (a.put o.dst v) w') :
    if Region.wanted o (yielded ops a.tmps) = true then Oper.wp P o a w K Q else E := by
  rw [if_pos hgd]
  have e1 : (execOp a.eval o).run P w = .ok (.enter f vals) w := by
    unfold execOp
    simp [hop, resolve, hf, hv, Deferred.ofValue, invoke, hvals, hen, Result.andThen]
  unfold Oper.wp
  rw [e1]
  show Calls P f vals w _
  refine hc.mono fun e w' hr => ?_
  obtain ⟨v, rfl, hk⟩ := h e w' hr
  exact hk
/-- So many bytes are kept. -/
def kept (b : List UInt8) (keep : Int) : List UInt8 := b.take (max 0 (min keep b.length)).toNat
theorem LayF.drewN {w w' : World} {n base db mb : Nat} {m : Int} {k : DkV} {L : List Fl} {D : DataW Value} {nm b : List UInt8} (h : LayF (w.drewN n) w' base db mb m k L D nm b) : LayF w w' base db mb m k L D nm b := by
  obtain ⟨a, c, h1, h2, h3⟩ := h
  exact ⟨a, c, h1, ⟨h2.os, h2.tape, h2.output, h2.size, h2.block⟩, h3⟩
theorem LayF.drew {w w' : World} {base db mb : Nat} {m : Int} {k : DkV} {L : List Fl} {D : DataW Value} {nm b : List UInt8} (h : LayF w.drew w' base db mb m k L D nm b) : LayF w w' base db mb m k L D nm b := by
  obtain ⟨a, c, h1, h2, h3⟩ := h
  exact ⟨a, c, h1, ⟨h2.os, h2.tape, h2.output, h2.size, h2.block⟩, h3⟩
set_option maxRecDepth 100000 in
set_option maxHeartbeats 2000000 in
theorem part_no (keep : Int) (la bp tp : Nat) (w : World) (htp : w.cell? ⟨tp, 0, none⟩ = some (.bool false)) (hk : ¬ 0 < keep) :
    Calls Tryz.prog 112 #[.int .i64 keep, .pointer (some ⟨tp, 0, none⟩), .pointer (some ⟨la, 0, none⟩), .pointer (some ⟨bp, 0, none⟩)] w fun r w' => r = .returned (.tuple #[]) ∧ w = w' := by
  have t1 : decide (0 < keep) = false := decide_eq_false hk
  go_enter Tryz.func112, Tryz.ntmps112
  go_wp2
  go_end0
  exact ⟨rfl, rfl⟩
set_option maxRecDepth 100000 in
set_option maxHeartbeats 2000000 in
theorem part_yes (base db mb : Nat) (m : Int) (k : DkV) (L : List Fl) (D : DataW Value) (nm b : List UInt8) (keep : Int) (ba : Option Addr) (bc wa da na la bp tp : Nat) (there : Bool) (w : World) (h : Dsk w base db mb m k L D) (hc : Cap w db mb L nm wa da na) (hb : Byt w ba b)
    (hla : w.cell? ⟨la, 0, none⟩ = some (layV wa da na)) (hbp : w.cell? ⟨bp, 0, none⟩ = some (.slice ba b.length bc)) (htp : w.cell? ⟨tp, 0, none⟩ = some (.bool there)) (hbc : b.length ≤ bc) (hb63 : b.length ≤ 140737488355328) (hor : there = true ∨ 0 < keep) (nla : ¬ DkF db mb L la) (nbp : ¬ DkF db mb L bp)
    (hnm : nm.length ≤ 140737488351232) (hL : L.length ≤ 1000) (hlen : (bytF L nm).length + b.length ≤ 140737488355328) (hu : -4611686018427387904 ≤ k.used ∧ k.used ≤ 4611686018427387904) :
    Calls Tryz.prog 112 #[.int .i64 keep, .pointer (some ⟨tp, 0, none⟩), .pointer (some ⟨la, 0, none⟩), .pointer (some ⟨bp, 0, none⟩)] w fun r w' => r = .returned (.tuple #[]) ∧ LayF w w' base db mb m k L D nm (kept b keep) := by
  obtain ⟨x, hx⟩ : ∃ x : Int, max 0 (min keep b.length) = x := ⟨_, rfl⟩
  have hx0 : 0 ≤ x := by omega
  have hx1 : x ≤ b.length := by omega
  have LC := fun (w0 : World) (hw0 : Below w.heap.size w w0) => layC_calls base db mb m k L D nm (b.take x.toNat) ba bc wa da na w0 (h.below hw0) ((hb.below hw0).take x.toNat) ((hw0.cell (World.block_lt_of_cell? _ _ hc.hw)).trans hc.hw) ((hw0.cell (World.block_lt_of_cell? _ _ hc.hd)).trans hc.hd) ((hw0.cell (World.block_lt_of_cell? _ _ hc.hn)).trans hc.hn) hc.nd hc.nn hc.nw hnm hL (by rw [List.length_take]; omega) hu
  have e1 : (b.take x.toNat).length = x.toNat := by rw [List.length_take]; omega
  rw [e1, ← hx] at LC
  have LCH := Lib.hid LC
  have VF := (h.fls.val_own nm).2.2
  have KEEP := Lib.hid (fun (w0 w4 : World) (hb0 : Below w.heap.size w w0) (bb : List UInt8) (hq : LayF w0 w4 base db mb m k L D nm bb) (p : Nat) (y : Value) (hp : w.cell? ⟨p, 0, none⟩ = some y) (np : ¬ DkF db mb L p) => show w4.cell? ⟨p, 0, none⟩ = some y from by
    obtain ⟨_, _, _, hu, _⟩ := hq
    have h0 := (hb0.cell (p := ⟨p, 0, none⟩) (World.block_lt_of_cell? _ _ hp)).trans hp
    exact hu.cell' h0 (fun s => np (by
      rcases s with s | s | s
      · exact .inl s
      · exact .inr (.inl s)
      · exact .inr (VF p s))))
  have NLA := Lib.hid nla; have NBP := Lib.hid nbp
  have bx0 : 0 ≤ max 0 (min keep (b.length : Int)) := by omega
  have bx1 : max 0 (min keep (b.length : Int)) ≤ (b.length : Int) := by omega
  have bx2 : max 0 (min keep (b.length : Int)) ≤ (bc : Int) := by omega
  have KX : Hid (kept b keep = b.take x.toNat) := by show _ = _; unfold kept; rw [hx]
  rw [KX.out]
  have HX := Lib.hid hx
  have c2 : w.cell? ⟨la, 0, none⟩ = some (layV wa da na) := hla
  unfold layV at c2
  rw [← hx] at KX ⊢
  clear h hc hla hnm hL hlen hu LC e1 hx hx0 hx1 VF nla nbp
  clear x HX hb
  have hbcI : (b.length : Int) ≤ (bc : Int) := by omega
  cases there with
  | true =>
    clear hor
    go_enter Tryz.func112, Tryz.ntmps112
    go_wp2_with fail
    go_region_held3 (fun w' => w'.cell? ⟨la, 0, none⟩ = some (.func (.func 109) #[] #[.pointer (some ⟨wa, 0, none⟩), .pointer (some ⟨da, 0, none⟩), .pointer (some ⟨na, 0, none⟩)]) ∧ w'.cell? ⟨bp, 0, none⟩ = some (.slice ba b.length bc))
      (first
        | go_keep)
      ((refine step_callv1 (by rfl) (f := 109) (by rfl) (by rfl) (v := .slice ba (max 0 (min keep (b.length : Int))).toNat bc) (by rfl) (by rfl) (Tryz.call109 _) (LCH.out _ (bel_drewN (Below.refl _ _) 1)) ?_; rintro e4 w4 ⟨rfl, hq4⟩; refine ⟨_, rfl, ?_⟩; have y1 := KEEP.out _ w4 (bel_drewN (Below.refl _ _) 1) _ hq4 la _ c2 NLA.out; have y2 := KEEP.out _ w4 (bel_drewN (Below.refl _ _) 1) _ hq4 bp _ hbp NBP.out; have Q4 := Lib.hid hq4; clear hq4))
    all_goals
      go_wp2
      go_end0
      exact ⟨rfl, by first | exact Q4.out.drewN | exact Q4.out.drew⟩
  | false =>
    have hk : 0 < keep := by rcases hor with h | h; cases h; exact h
    have t1 : decide (0 < keep) = true := decide_eq_true hk
    clear hor
    go_enter Tryz.func112, Tryz.ntmps112
    go_wp2_with fail
    go_region_held3 (fun w' => w'.cell? ⟨la, 0, none⟩ = some (.func (.func 109) #[] #[.pointer (some ⟨wa, 0, none⟩), .pointer (some ⟨da, 0, none⟩), .pointer (some ⟨na, 0, none⟩)]) ∧ w'.cell? ⟨bp, 0, none⟩ = some (.slice ba b.length bc))
      (first
        | go_keep)
      ((refine step_callv1 (by rfl) (f := 109) (by rfl) (by rfl) (v := .slice ba (max 0 (min keep (b.length : Int))).toNat bc) (by rfl) (by rfl) (Tryz.call109 _) (LCH.out _ (bel_drewN (Below.refl _ _) 1)) ?_; rintro e4 w4 ⟨rfl, hq4⟩; refine ⟨_, rfl, ?_⟩; have y1 := KEEP.out _ w4 (bel_drewN (Below.refl _ _) 1) _ hq4 la _ c2 NLA.out; have y2 := KEEP.out _ w4 (bel_drewN (Below.refl _ _) 1) _ hq4 bp _ hbp NBP.out; have Q4 := Lib.hid hq4; clear hq4))
    all_goals
      go_wp2
      go_end0
      exact ⟨rfl, by first | exact Q4.out.drewN | exact Q4.out.drew⟩
end Go.Proofs.YtnbpkignkfabkaaGreatDoor
/- disk.write: a write that is carried out, unless it is torn. -/
namespace Go.Proofs.YtnbpkignkfabkaaGreatDoor
set_option linter.unusedVariables false
set_option linter.unusedSimpArgs false
open Go.RowKit Go.Maps
/-- A disk's numbers behind a write's beginning. -/
def wrK (k : DkV) : DkV := { k with writes := k.writes + 1, armed := if 0 < k.armed then k.armed - 1 else k.armed, off := k.off || decide (k.armed = 1) }
def WrP (w w' : World) (base db mb : Nat) (m : Int) (k : DkV) (L : List Fl) (D : DataW Value) (QA QP : World → World → Prop) (r : Ending) : Prop :=
  r = .returned (.int .i64 (if k.armed = 1 then 94 else 0)) ∧ ∃ w1, Upd (fun i => i = db) w w1 ∧ Dsk w1 base db mb m (wrK k) L D ∧ (if k.armed = 1 then QP w1 w' else QA w1 w')
set_option maxRecDepth 100000 in
set_option maxHeartbeats 2000000 in
theorem write_calls (base db mb : Nat) (m : Int) (k : DkV) (L : List Fl) (D : DataW Value) (fa fp : FuncId) (capA capP : Array Value) (QA QP : World → World → Prop) (w : World) (h : Dsk w base db mb m k L D)
    (hb : k.writes ≤ 4611686018427387904 ∧ -4611686018427387904 ≤ k.writes) (hb2 : k.armed ≤ 9223372036854775807 ∧ -9223372036854775808 ≤ k.armed)
    (hfa : ∀ (xs : Array Value) (w' : World), (callFunc fa xs).run Tryz.prog w' = .ok (.enter fa xs) w') (hfp : ∀ (xs : Array Value) (w' : World), (callFunc fp xs).run Tryz.prog w' = .ok (.enter fp xs) w')
    (hA : k.armed ≠ 1 → ∀ w1, Dsk w1 base db mb m (wrK k) L D → Upd (fun i => i = db) w w1 → Calls Tryz.prog fa capA w1 fun r w' => r = .returned (.tuple #[]) ∧ QA w1 w')
    (hP : k.armed = 1 → ∀ w1, Dsk w1 base db mb m (wrK k) L D → Upd (fun i => i = db) w w1 → Calls Tryz.prog fp (#[.int .i64 k.keep] ++ capP) w1 fun r w' => r = .returned (.tuple #[]) ∧ QP w1 w') :
    Calls Tryz.prog 110 #[.pointer (some ⟨db, 0, none⟩), .func (.func fa) #[] capA, .func (.func fp) #[] capP] w fun r w' => WrP w w' base db mb m k L D QA QP r := by
  have c5 : w.cell? ⟨db, 5, none⟩ = some (.int .i64 k.armed) := h.cell 5
  have c6 : w.cell? ⟨db, 6, none⟩ = some (.int .i64 k.keep) := h.cell 6
  have c7 : w.cell? ⟨db, 7, none⟩ = some (.bool k.off) := h.cell 7
  have c8 : w.cell? ⟨db, 8, none⟩ = some (.int .i64 k.writes) := h.cell 8
  have f5 := h.froz 5
  have f7 := h.froz 7
  have f8 := h.froz 8
  obtain ⟨b1, b2⟩ := hb
  obtain ⟨b3, b4⟩ := hb2
  have U1 := (Upd.refl (fun i => i = db) w).setCell (p := ⟨db, 8, none⟩) (fun _ => rfl) (.int .i64 (k.writes + 1))
  have D1 := Dsk.set (m := m) (k := k) (mb := mb) 8 (.int .i64 (k.writes + 1)) m { k with writes := k.writes + 1 } rfl h.blk h.dge h.fls
  by_cases h1 : 0 < k.armed
  · have t1 : decide (0 < k.armed) = true := decide_eq_true h1
    have U2 := U1.setCell (p := ⟨db, 5, none⟩) (fun _ => rfl) (.int .i64 (k.armed - 1))
    have D2 := Dsk.set (m := m) (k := { k with writes := k.writes + 1 }) (mb := mb) 5 (.int .i64 (k.armed - 1)) m { k with writes := k.writes + 1, armed := k.armed - 1 } rfl D1.blk D1.dge D1.fls
    by_cases h2 : k.armed = 1
    · have t2 : (k.armed - 1 == 0) = true := beq_iff_eq.2 (by omega)
      have U3 := U2.setCell (p := ⟨db, 7, none⟩) (fun _ => rfl) (.bool true)
      have D3 := Dsk.set (m := m) (k := { k with writes := k.writes + 1, armed := k.armed - 1 }) (mb := mb) 7 (.bool true) m { k with writes := k.writes + 1, armed := k.armed - 1, off := true } rfl D2.blk D2.dge D2.fls
      have e : ({ k with writes := k.writes + 1, armed := k.armed - 1, off := true } : DkV) = wrK k := by unfold wrK; rw [if_pos h1]; simp [h2]
      rw [e] at D3
      have PC := Lib.hid (hP h2 _ D3 U3)
      have D3H := Lib.hid D3; have U3H := Lib.hid U3
      have F1 : Hid ((if k.armed = 1 then (94 : Int) else 0) = 94) := if_pos h2
      have F2 : Hid (∀ a b, (if k.armed = 1 then QP a b else QA a b) = QP a b) := fun a b => if_pos h2
      clear hA hP h D1 D2 D3 U1 U2 U3 e h2
      go_enter Tryz.func110, Tryz.ntmps110
      go_wp2_with fail
      refine PC.out.mono ?_
      rintro r w1 ⟨rfl, hq⟩
      have HQ := Lib.hid hq; clear hq
      go_wp2
      go_ret
      unfold WrP
      rw [F1.out]
      refine ⟨rfl, _, U3H.out, D3H.out, ?_⟩
      rw [F2.out]
      exact HQ.out
    · have t2 : (k.armed - 1 == 0) = false := beq_eq_false_iff_ne.2 (by omega)
      have e : ({ k with writes := k.writes + 1, armed := k.armed - 1 } : DkV) = wrK k := by unfold wrK; rw [if_pos h1]; simp [h2]
      rw [e] at D2
      have PC := Lib.hid (hA h2 _ D2 U2)
      have D3H := Lib.hid D2; have U3H := Lib.hid U2
      have F1 : Hid ((if k.armed = 1 then (94 : Int) else 0) = 0) := if_neg h2
      have F2 : Hid (∀ a b, (if k.armed = 1 then QP a b else QA a b) = QA a b) := fun a b => if_neg h2
      clear hA hP h D1 D2 U1 U2 e h2
      go_enter Tryz.func110, Tryz.ntmps110
      go_wp2_with fail
      refine PC.out.mono ?_
      rintro r w1 ⟨rfl, hq⟩
      have HQ := Lib.hid hq; clear hq
      go_wp2
      go_ret
      unfold WrP
      rw [F1.out]
      refine ⟨rfl, _, U3H.out, D3H.out, ?_⟩
      rw [F2.out]
      exact HQ.out
  · have t1 : decide (0 < k.armed) = false := decide_eq_false h1
    have h2 : k.armed ≠ 1 := by omega
    have e : ({ k with writes := k.writes + 1 } : DkV) = wrK k := by unfold wrK; rw [if_neg h1]; simp [h2]
    rw [e] at D1
    have PC := Lib.hid (hA h2 _ D1 U1)
    have D3H := Lib.hid D1; have U3H := Lib.hid U1
    have F1 : Hid ((if k.armed = 1 then (94 : Int) else 0) = 0) := if_neg h2
    have F2 : Hid (∀ a b, (if k.armed = 1 then QP a b else QA a b) = QA a b) := fun a b => if_neg h2
    clear hA hP h D1 U1 e h2
    go_enter Tryz.func110, Tryz.ntmps110
    go_wp2_with fail
    refine PC.out.mono ?_
    rintro r w1 ⟨rfl, hq⟩
    have HQ := Lib.hid hq; clear hq
    go_wp2
    go_ret
    unfold WrP
    rw [F1.out]
    refine ⟨rfl, _, U3H.out, D3H.out, ?_⟩
    rw [F2.out]
    exact HQ.out
end Go.Proofs.YtnbpkignkfabkaaGreatDoor
namespace Go.Proofs.YtnbpkignkfabkaaGreatDoor
set_option linter.unusedVariables false
set_option linter.unusedSimpArgs false
open Go.RowKit Go.Maps Go.MuLone
/-- Why an Append is refused; 0: it is not. -/
def appE (k : DkV) (L : List Fl) (nm b : List UInt8) : Int :=
  if mayR k.off L false [nm] ≠ 0 then mayR k.off L false [nm] else if (hasF L nm = false ∧ 64 ≤ L.length) ∨ k.room - k.used < b.length then 93 else 0
/-- The lock is taken, or let go. -/
theorem Dsk.lock {w : World} {base db mb : Nat} {m : Int} {k : DkV} {L : List Fl} {D : DataW Value} (h : Dsk w base db mb m k L D) (m' : Int) : Dsk (w.setCell ⟨db, 0, none⟩ (.int .i32 m')) base db mb m' k L D :=
  Dsk.set (m := m) (k := k) (mb := mb) 0 (.int .i32 m') m' k rfl h.blk h.dge h.fls
theorem upd_lock {w w' : World} {db : Nat} (h : Below w.heap.size w w') (u : Value) : Upd (fun i => i = db) w (w'.setCell ⟨db, 0, none⟩ u) :=
  (Upd.mono (S' := fun i => i = db) (Upd.ofBelow h) (fun _ s _ => s.elim)).setCell (p := ⟨db, 0, none⟩) (fun _ => rfl) u
set_option maxRecDepth 100000 in
set_option maxHeartbeats 4000000 in
theorem Append_off (base db mb : Nat) (k : DkV) (L : List Fl) (D : DataW Value) (nm b : List UInt8) (ba : Option Addr) (bc : Nat) (w : World) (h : Dsk w base db mb 0 k L D) (hnm : nm.length ≤ 140737488351232) (he : mayR k.off L false [nm] ≠ 0) :
    Calls Tryz.prog 53 #[.pointer (some ⟨db, 0, none⟩), .string ⟨nm.toArray⟩, .slice ba b.length bc] w fun r w' => r = .returned (.int .i64 (mayR k.off L false [nm])) ∧ Dsk w' base db mb 0 k L D ∧ Upd (fun i => i = db) w w' := by
  have hlt := h.lt
  obtain ⟨w0, hw0⟩ : ∃ q, ((w.alloc (.cells #[.pointer (some ⟨db, 0, none⟩)] 26)).alloc (.cells #[.string ⟨nm.toArray⟩] 9)).alloc (.cells #[.slice ba b.length bc] 74) = q := ⟨_, rfl⟩
  have b0 : Below w.heap.size w w0 := by rw [← hw0]; exact (((Below.refl _ w).alloc (Nat.le_refl _) _).alloc (by simp) _).alloc (by simp; omega) _
  have s0 : w0.heap.size = w.heap.size + 1 + 1 + 1 := by rw [← hw0, World.size_alloc, World.size_alloc, World.size_alloc]
  have h0 := h.below b0
  have q0 : w0.cell? ⟨w.heap.size, 0, none⟩ = some (.pointer (some ⟨db, 0, none⟩)) := by
    rw [← hw0, cell_of_row' ((Below.heap_alloc _ _ _ (by rw [World.size_alloc, World.size_alloc]; omega)).trans ((Below.heap_alloc _ _ _ (by rw [World.size_alloc]; omega)).trans (heap_alloc_new w _)))]; rfl
  have q1 : w0.cell? ⟨w.heap.size + 1, 0, none⟩ = some (.string ⟨nm.toArray⟩) := by
    have hh := heap_alloc_new (w.alloc (.cells #[.pointer (some ⟨db, 0, none⟩)] 26)) (.cells #[.string ⟨nm.toArray⟩] 9)
    rw [World.size_alloc] at hh
    rw [← hw0, cell_of_row' ((Below.heap_alloc _ _ _ (by rw [World.size_alloc, World.size_alloc]; omega)).trans hh)]; rfl
  have q2 : w0.cell? ⟨w.heap.size + 1 + 1, 0, none⟩ = some (.slice ba b.length bc) := by
    have hh := heap_alloc_new ((w.alloc (.cells #[.pointer (some ⟨db, 0, none⟩)] 26)).alloc (.cells #[.string ⟨nm.toArray⟩] 9)) (.cells #[.slice ba b.length bc] 74)
    rw [World.size_alloc, World.size_alloc] at hh
    rw [← hw0, cell_of_row' hh]; rfl
  have n0 : ¬ db = w.heap.size := by omega
  have n1 : ¬ db = w.heap.size + 1 := by omega
  have n2 : ¬ db = w.heap.size + 1 + 1 := by omega
  have SZ0 : Hid (w0.heap.size = w.heap.size + 1 + 1 + 1) := s0
  have h1 := h0.lock 1
  have z0 : (w0.setCell ⟨db, 0, none⟩ (.int .i32 1)).heap.size = w0.heap.size := by simp [World.setCell]
  have h2 := h1.below ((Below.refl _ _).alloc (Nat.le_refl _) (.cells #[.string ⟨nm.toArray⟩] 9))
  have MC := may_calls base db mb 1 k L D false w0.heap.size 1 [nm] _ h2 (fun i hi => by
    have hi' : i = 0 := by simp at hi; exact hi
    subst hi'
    have hh := heap_alloc_new (w0.setCell ⟨db, 0, none⟩ (.int .i32 1)) (.cells #[.string ⟨nm.toArray⟩] 9)
    rw [z0] at hh
    rw [cell_of_row' hh]; rfl) (by simp) (by simp) (fun x hx => by rw [List.mem_singleton] at hx; rw [hx]; exact hnm)
  rw [show [nm].length = 1 from rfl] at MC
  have MCH := Lib.hid MC
  have H0 := Lib.hid h0; have H2 := Lib.hid h2; have B0 := Lib.hid b0; have W0 := Lib.hid hw0
  have U2 := Lib.hid ((upd_lock (db := db) b0 (.int .i32 1)).alloc (.cells #[.string ⟨nm.toArray⟩] 9))
  have te : (mayR k.off L false [nm] != 0) = true := by rw [bne_iff_ne]; exact he
  generalize mayR k.off L false [nm] = e at *
  clear hnm he MC h0 h1 h2 b0 s0 hw0 h z0
  go_enter_defers Tryz.func53, Tryz.ntmps53
  go_wp2_with fail
  rw [W0.out]
  refine (lock_free muLib ⟨db, 0, none⟩ _ (H0.out.cell 0) (H0.out.froz 0)).mono ?_
  rintro r w1 ⟨rfl, rfl⟩
  go_wp2_with fail
  refine MCH.out.mono ?_
  rintro r w3 ⟨rfl, hb3⟩
  have H3 := Lib.hid (H2.out.below hb3)
  have U3 := Lib.hid (U2.out.same ((Upd.ofBelow hb3).mono (fun _ s _ => s.elim)))
  clear hb3
  go_wp2
  refine leaves_cons (f := 55) (args := #[.pointer (some ⟨db, 0, none⟩)]) (by simp) (by simp [go_sem]) ?_
  refine (unlock_deferred muLib ⟨db, 0, none⟩ .returning _ (H3.out.cell 0) (H3.out.froz 0)).mono ?_
  rintro r u' w4 ⟨rfl, rfl, rfl⟩
  exact ⟨_, results_tmp rfl _ _ _, rfl, H3.out.lock 0, U3.out.setCell (fun _ => rfl) _⟩
end Go.Proofs.YtnbpkignkfabkaaGreatDoor
