/- disk.Append's closures: bytes laid behind a file. -/
import Derived.Test.YtcmllfnhdodbdaaGreatDoorDsk
import Derived.Deep.RegionHeld3
namespace Go.Proofs.YtcmllfnhdodbdaaGreatDoor
set_option linter.unusedVariables false
set_option linter.unusedSimpArgs false
open Go.RowKit Go.Maps
theorem Own.not_ty {w : World} {base : Nat} {e e' : TypeId} {size n : Nat} {v : Value} {xs : List Value} (h : Own w base e size v n xs) {b : Nat} {cur : Array Value} {fr : Nat × Nat} (hb : w.heap[b]? = some (.cells cur e' fr)) (hne : e' ≠ e) : v.ownBlock ≠ some b := by
  intro hk
  rcases h.2 with ⟨rfl, _⟩ | ⟨g, cap, cur', fr', rfl, _, hg, _⟩
  · cases hk
  · simp [Value.ownBlock] at hk
    subst hk
    rw [hb] at hg
    injection hg with hg
    injection hg with _ hg
    exact hne hg
theorem set_blk9 {w : World} {b j : Nat} {cur : Array Value} {e : TypeId} {fr : Nat × Nat} (u : Value) (h : w.heap[b]? = some (.cells cur e fr)) : (w.setCell ⟨b, j, none⟩ u).heap[b]? = some (.cells (cur.setIfInBounds j u) e fr) := by
  have hg : b < w.heap.size := lt_of_block h
  have hv : w.heap[b] = .cells cur e fr := (Array.getElem?_eq_some_iff.1 h).2
  show (w.heap.modify b _)[b]? = _
  rw [Array.getElem?_eq_getElem (by simpa using hg), Array.getElem_modify_self, hv]
  rfl
/-- One number of a disk is set. -/
theorem Dsk.set {w : World} {base db mb : Nat} {m : Int} {k : DkV} {L : List Fl} {D : DataW Value} (j : Nat) (u : Value) (m' : Int) (k' : DkV) (hk : (dcells m k mb).setIfInBounds j u = dcells m' k' mb) (hb : w.heap[db]? = some (.cells (dcells m k mb) 69 (0, 0))) (hd : base ≤ db) (hf : Fls w base mb L D) :
    Dsk (w.setCell ⟨db, j, none⟩ u) base db mb m' k' L D := by
  refine ⟨?_, hd, hf.upd ((Upd.refl (fun i => i = db) w).setCell (p := ⟨db, j, none⟩) (fun _ => rfl) u) ?_⟩
  · rw [set_blk9 u hb, hk]
  · rintro i rfl (s | ⟨f, hf', s⟩)
    · obtain ⟨es, c, hb2, _⟩ := hf.map
      rw [← s, hb] at hb2
      cases hb2
    · exact (hf.own f hf').not_ty hb (by decide) s
/-- What becomes of a disk where bytes are laid behind a file. -/
def LayF (w w' : World) (base db mb : Nat) (m : Int) (k : DkV) (L : List Fl) (D : DataW Value) (nm b : List UInt8) : Prop :=
  ∃ (a : Option Addr) (c : Nat), Dsk w' base db mb m { k with used := k.used + b.length } (putF L ⟨nm, bytF L nm ++ b, a, c⟩) (D.put (key nm) (.held (Fl.val ⟨nm, bytF L nm ++ b, a, c⟩))) ∧
    Upd (fun i => i = db ∨ i = mb ∨ (valF L nm).ownBlock = some i) w w' ∧ ∀ i, Fl.at_ ⟨nm, bytF L nm ++ b, a, c⟩ i → (valF L nm).ownBlock = some i ∨ w.heap.size ≤ i
theorem infoByte9 : (Tryz.prog.info? 5).map (fun i => (i.zero, i.size, i.bytes)) = some (some (.int .u8 0), 1, 1) := by kernel_rfl
set_option maxRecDepth 100000 in
set_option maxHeartbeats 2000000 in
theorem layC_calls (base db mb : Nat) (m : Int) (k : DkV) (L : List Fl) (D : DataW Value) (nm b : List UInt8) (ba : Option Addr) (bc wa da na : Nat) (w : World) (h : Dsk w base db mb m k L D) (hb : Byt w ba b)
    (hw : w.cell? ⟨wa, 0, none⟩ = some (valF L nm)) (hd : w.cell? ⟨da, 0, none⟩ = some (.pointer (some ⟨db, 0, none⟩))) (hna : w.cell? ⟨na, 0, none⟩ = some (.string ⟨nm.toArray⟩)) (hda : ¬ DkF db mb L da) (hnna : ¬ DkF db mb L na) (hwwa : ¬ DkF db mb L wa)
    (hnm : nm.length ≤ 140737488351232) (hL : L.length ≤ 1000) (hlen : (bytF L nm).length + b.length ≤ 140737488355328) (hu : -4611686018427387904 ≤ k.used ∧ k.used ≤ 4611686018427387904) :
    Calls Tryz.prog 46 #[.slice ba b.length bc, .pointer (some ⟨wa, 0, none⟩), .pointer (some ⟨da, 0, none⟩), .pointer (some ⟨na, 0, none⟩)] w fun r w' => r = .returned (.tuple #[]) ∧ LayF w w' base db mb m k L D nm b := by
  obtain ⟨VO, VS, VF⟩ := h.fls.val_own nm
  have c4 : w.cell? ⟨db, 4, none⟩ = some (.map (some mb)) := h.cell 4
  have H := Lib.hid h
  obtain ⟨v, hv⟩ : ∃ v, valF L nm = v := ⟨_, rfl⟩
  obtain ⟨ob, hob⟩ : ∃ l, bytF L nm = l := ⟨_, rfl⟩
  rw [hv] at hw VO VS VF
  rw [hob] at VO hlen
  have HV := Lib.hid hv; have HOB := Lib.hid hob
  have O0 := Lib.hid VO; have VSH := Lib.hid VS; have VFH := Lib.hid VF
  have M1 : Hid (ob.length + b.length ≤ maxLen) := by show _ ≤ _; unfold maxLen; omega
  have M2 : Hid ((ob.length + b.length) * 1 ≤ 140737488355328) := by show _ ≤ _; omega
  have M3 : Hid (base ≤ w.heap.size) := by show _ ≤ _; have := h.dge; have := h.lt; omega
  have SB := Lib.hid (fun w1 (h1 : Byt w1 ba b) => Src_byt (P := Tryz.prog) (tx := 33) Tryz.underlying33 h1 (c := bc) (fun _ => .inr trivial))
  have YB := Lib.hid hb
  have VDB : Hid (v.ownBlock ≠ some db) := VO.not_ty h.blk (by decide)
  have NDA : Hid (v.ownBlock ≠ some da) := fun s => hda (.inr (VF da s))
  have NNA : Hid (v.ownBlock ≠ some na) := fun s => hnna (.inr (VF na s))
  have NWA : Hid (v.ownBlock ≠ some wa) := fun s => hwwa (.inr (VF wa s))
  have HL := Lib.hid (h.fls.lt)
  -- behind the append: what the store into the map leaves
  have PUT := Lib.hid (fun (w1 : World) (a1 : Option Addr) (c1 : Nat) (ho : Own w1 base 5 1 (.slice a1 (ob.length + b.length) c1) (ob.length + b.length) (bys ob ++ bys b)) (hu1 : Upd (fun i => v.ownBlock = some i) w w1) (hv1 : (Value.slice a1 (ob.length + b.length) c1).ownBlock = v.ownBlock ∨ (Value.slice a1 (ob.length + b.length) c1).ownBlock = some w.heap.size) =>
    show ∃ w2, (Instr.mapUpdate 67 (.map (some mb)) (.string ⟨nm.toArray⟩) (.slice a1 (ob.length + b.length) c1)).run Tryz.prog w1 = .ok () w2 ∧ Fls w2 base mb (putF L ⟨nm, ob ++ b, a1, c1⟩) (D.put (key nm) (.held (Fl.val ⟨nm, ob ++ b, a1, c1⟩))) ∧ Upd (fun i => i = mb) w1 w2 from by
      have e : (ob ++ b).length = ob.length + b.length := List.length_append
      have hlt := h.fls.lt
      have P := h.fls.put2 hu1 ⟨nm, ob ++ b, a1, c1⟩ VS (by show nm.length ≤ maxLen; unfold maxLen; omega) (by unfold maxLen; omega) (by
          show Own w1 base 5 1 (.slice a1 (ob ++ b).length c1) (ob ++ b).length (bys (ob ++ b))
          rw [e, bys_append]
          exact ho) (fun g hg hne i hi hgi => by
          have hi' : (Value.slice a1 (ob ++ b).length c1).ownBlock = some i := hi
          rw [e] at hi'
          rcases hv1 with c | c
          · rw [c] at hi'; exact (VS i hi').2 g hg hne hgi
          · rw [c] at hi'
            injection hi' with hi'
            have := (hlt i (.inr ⟨g, hg, hgi⟩)).2
            omega)
      obtain ⟨w2, hr, hf, hu2⟩ := P
      refine ⟨w2, ?_, hf, hu2⟩
      have hr' := hr
      show (Instr.mapUpdate 67 (.map (some mb)) (.string ⟨nm.toArray⟩) (.slice a1 (ob.length + b.length) c1)).run Tryz.prog w1 = .ok () w2
      rw [← e]
      exact hr')
  have BLK := Lib.hid h.blk
  have MDA : Hid (¬ da = mb) := fun s => hda (.inr (.inl s))
  have MNA : Hid (¬ na = mb) := fun s => hnna (.inr (.inl s))
  have MWA : Hid (¬ wa = mb) := fun s => hwwa (.inr (.inl s))
  have MDB : Hid (¬ db = mb) := fun s => by
    obtain ⟨es, c, hb2, _⟩ := h.fls.map
    have h1 := h.blk
    rw [s, hb2] at h1
    cases h1
  have DGE := Lib.hid h.dge
  clear hv hob VO VS VF h hb hda hnna hwwa
  go_enter Tryz.func46, Tryz.ntmps46
  go_wp2_with fail
  go_region_held3 (fun w' => w'.cell? ⟨da, 0, none⟩ = some (.pointer (some ⟨db, 0, none⟩)) ∧ w'.cell? ⟨na, 0, none⟩ = some (.string ⟨nm.toArray⟩) ∧ w'.cell? ⟨wa, 0, none⟩ = some v ∧ w'.cell? ⟨db, 4, none⟩ = some (.map (some mb)))
    (first
      | go_keep)
    ((refine step_append (by rfl) (.tmp 10) (.tmp 11) 33 33 (by rfl) base 5 (.int .u8 0) 1 1 Tryz.underlying33 infoByte9 rfl (n := ob.length) (xs := bys ob) O0.out.drew (by rfl) (xv := .slice ba b.length bc) (m := b.length) (news := bys b) (SB.out _ YB.out) (by rfl) M1.out M2.out M3.out ?_; intro v1 w1 ho1 hg1 hn1 hv1; obtain ⟨a1, c1, rfl, -, -, -⟩ := ho1.shape'; have hu1 : Upd (fun i => v.ownBlock = some i) w w1 := ((Upd.refl (fun i => v.ownBlock = some i) w).drew).grown hg1 (fun _ s _ => s); have y1 := hu1.cell' hd NDA.out; have y2 := hu1.cell' hna NNA.out; have y3 := hu1.cell' hw NWA.out; have y4 := hu1.cell' c4 VDB.out; have U1 := Lib.hid hu1; have V1 := Lib.hid hv1; obtain ⟨w2, hr2, hf2, hu2⟩ := PUT.out w1 a1 c1 ho1 hu1 hv1; have F2 := Lib.hid hf2; have x1 := hu2.cell' y1 MDA.out; have x2 := hu2.cell' y2 MNA.out; have x3 := hu2.cell' y3 MWA.out; have x4 := hu2.cell' y4 MDB.out; have U2 := Lib.hid hu2; have O1 := Lib.hid ho1; clear hf2 hu2 ho1 hg1 hn1 hv1 hu1))
  have hblk : w2.heap[db]? = some (.cells (dcells m k mb) 69 (0, 0)) := (U2.out.block db (Nat.lt_of_lt_of_le (lt_of_block BLK.out) U1.out.size) MDB.out).trans ((U1.out.block db (lt_of_block BLK.out) VDB.out).trans BLK.out)
  have x5 : w2.cell? ⟨db, 3, none⟩ = some (.int .i64 k.used) := cell_of_row' hblk
  have x6 : w2.frozen? ⟨db, 3, none⟩ = false := by simp only [World.frozen?, hblk]; simp
  have HB := Lib.hid hblk
  obtain ⟨hu1, hu2⟩ := hu
  clear hr2 y1 y2 y3 y4 hblk
  go_wp2
  go_end0
  have DS := Dsk.set (m := m) (k := k) (mb := mb) 3 (.int .i64 (k.used + b.length)) m { k with used := k.used + b.length } rfl HB.out DGE.out F2.out
  refine ⟨rfl, a1, c1, ?_, ?_, ?_⟩
  · rw [HOB.out]; exact DS
  · rw [HV.out]
    refine ((U1.out.trans U2.out (S := fun i => i = db ∨ i = mb ∨ v.ownBlock = some i) (fun _ s _ => .inr (.inr s)) (fun _ s _ => .inr (.inl s)))).setCell (fun _ => .inl rfl) _
  · intro i hi
    rw [HOB.out] at hi
    have hi' : (Value.slice a1 (ob ++ b).length c1).ownBlock = some i := hi
    rw [List.length_append] at hi'
    rw [HV.out]
    rcases V1.out with c | c
    · rw [c] at hi'; exact .inl hi'
    · rw [c] at hi'
      injection hi' with hi'
      exact .inr (Nat.le_of_eq hi')
end Go.Proofs.YtcmllfnhdodbdaaGreatDoor
