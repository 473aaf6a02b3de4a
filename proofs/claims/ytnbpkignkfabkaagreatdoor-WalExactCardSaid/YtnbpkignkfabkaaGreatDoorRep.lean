/- A disk in memory and what it is in plain words. -/
import Derived.Test.YtnbpkignkfabkaaGreatDoorDsW
import Derived.Test.YtnbpkignkfabkaaGreatDoorAppend
namespace Go.Proofs.YtnbpkignkfabkaaGreatDoor
set_option linter.unusedVariables false
set_option linter.unusedSimpArgs false
open Go.RowKit Go.Maps
def conF (L : List Fl) : Con := L.map fun f => (f.nm, f.by_)
structure Rep (L : List Fl) (C : Con) : Prop where
  so : SortedC C
  perm : (conF L).Perm C
theorem Rep.nil : Rep [] [] := ⟨List.Pairwise.nil, List.Perm.refl _⟩
theorem Rep.len {L : List Fl} {C : Con} (h : Rep L C) : L.length = C.length := by rw [← h.perm.length_eq]; simp [conF]
theorem any_perm {α : Type} (p : α → Bool) {l l' : List α} (h : l.Perm l') : l.any p = l'.any p := by
  rw [Bool.eq_iff_iff, List.any_eq_true, List.any_eq_true]
  constructor
  · rintro ⟨x, hx, hp⟩; exact ⟨x, h.mem_iff.1 hx, hp⟩
  · rintro ⟨x, hx, hp⟩; exact ⟨x, h.mem_iff.2 hx, hp⟩
theorem Rep.has {L : List Fl} {C : Con} (h : Rep L C) (nm : List UInt8) : hasF L nm = hasC C nm := by
  unfold hasC
  rw [← any_perm _ h.perm, conF, List.any_map]
  rfl
theorem Rep.mem {L : List Fl} {C : Con} (h : Rep L C) {f : Fl} (hf : f ∈ L) : (f.nm, f.by_) ∈ C := h.perm.mem_iff.1 (List.mem_map.2 ⟨f, hf, rfl⟩)
theorem Rep.byt {L : List Fl} {C : Con} (h : Rep L C) (nm : List UInt8) : bytF L nm = bytC C nm := by
  unfold bytF
  cases e : fndF L nm with
  | none =>
    have h1 := fndF_none.1 e
    rw [h.has] at h1
    rw [bytC_no h1]
    rfl
  | some f =>
    obtain ⟨h1, h2⟩ := fndF_some e
    have := bytC_mem h.so (h.mem h1)
    rw [← h2]
    exact this.symm
theorem conF_del (L : List Fl) (nm : List UInt8) : conF (delF L nm) = delC (conF L) nm := by
  unfold conF delF delC
  rw [List.filter_map]
  rfl
theorem Rep.del {L : List Fl} {C : Con} (h : Rep L C) (nm : List UInt8) : Rep (delF L nm) (delC C nm) :=
  ⟨sorted_delC nm h.so, by rw [conF_del]; exact h.perm.filter _⟩
theorem Rep.put {L : List Fl} {C : Con} (h : Rep L C) (f : Fl) : Rep (putF L f) (setC C f.nm f.by_) := by
  refine ⟨sorted_setC _ _ h.so, ?_⟩
  have e : conF (putF L f) = conF (delF L f.nm) ++ [(f.nm, f.by_)] := by simp [conF, putF]
  rw [e]
  exact (List.perm_append_comm.trans (List.Perm.cons _ (h.del f.nm).perm)).trans (insC_perm _ _).symm
def DS.k (s : DS) : DkV := ⟨s.room, sumC s.C, s.armed, s.keep, s.off, s.writes⟩
/-- A disk stands at db; what it is made of lies in F. -/
def Dk (w : World) (base : Nat) (F : Nat → Prop) (db : Nat) (s : DS) : Prop :=
  ∃ (mb : Nat) (L : List Fl) (D : DataW Value), Dsk w base db mb 0 s.k L D ∧ Rep L s.C ∧ s.ok ∧ (∀ i, DkF db mb L i → F i)
/-- What becomes of a disk. -/
def DkTo (w w' : World) (base db : Nat) (F : Nat → Prop) (s : DS) : Prop := ∃ F', Dk w' base F' db s ∧ Upd F w w' ∧ ∀ i, F' i → F i ∨ w.heap.size ≤ i
section
variable {w w' : World} {base db : Nat} {F F' : Nat → Prop} {s s' : DS}
theorem Dk.ok (h : Dk w base F db s) : s.ok := by obtain ⟨_, _, _, _, _, h, _⟩ := h; exact h
theorem Dk.upd {S : Nat → Prop} (h : Dk w base F db s) (hu : Upd S w w') (hs : ∀ i, S i → ¬ F i) : Dk w' base F db s := by
  obtain ⟨mb, L, D, h1, h2, h3, h4⟩ := h
  exact ⟨mb, L, D, h1.upd hu (fun i hi hf => hs i hi (h4 i hf)), h2, h3, h4⟩
theorem Dk.below (h : Dk w base F db s) (hb : Below w.heap.size w w') : Dk w' base F db s := h.upd (Upd.ofBelow hb) (fun _ s _ => s)
theorem Dk.lt (h : Dk w base F db s) : db < w.heap.size := by obtain ⟨_, _, _, h, _⟩ := h; exact h.lt
theorem Dk.at_ (h : Dk w base F db s) : F db := by obtain ⟨_, _, _, _, _, _, h⟩ := h; exact h db (.inl rfl)
/-- Only what is there is needed. -/
theorem Dk.cut (h : Dk w base F db s) : Dk w base (fun i => F i ∧ base ≤ i ∧ i < w.heap.size) db s := by
  obtain ⟨mb, L, D, h1, h2, h3, h4⟩ := h
  refine ⟨mb, L, D, h1, h2, h3, fun i hi => ⟨h4 i hi, ?_⟩⟩
  rcases hi with rfl | hi
  · exact ⟨h1.dge, h1.lt⟩
  · exact h1.fls.lt i hi
theorem Dk.mono (h : Dk w base F db s) (hf : ∀ i, F i → F' i) : Dk w base F' db s := by
  obtain ⟨mb, L, D, h1, h2, h3, h4⟩ := h
  exact ⟨mb, L, D, h1, h2, h3, fun i hi => hf i (h4 i hi)⟩
theorem kmay {L : List Fl} (hr : Rep L s.C) (there : Bool) (Ns : List (List UInt8)) : mayR s.k.off L there Ns = s.may there Ns := by
  unfold mayR DS.may
  rw [hr.has]
  rfl
theorem kwr (s : DS) : wrK s.k = s.wr.k := by
  unfold wrK DS.wr DS.k
  simp
end
end Go.Proofs.YtnbpkignkfabkaaGreatDoor
