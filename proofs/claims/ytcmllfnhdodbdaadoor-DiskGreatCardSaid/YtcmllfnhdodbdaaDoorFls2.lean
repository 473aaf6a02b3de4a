/- The files of a disk: one is laid, one is taken away. -/
import Derived.Test.YtcmllfnhdodbdaaDoorFls
namespace Go.Proofs.YtcmllfnhdodbdaaDoor
set_option linter.unusedVariables false
set_option linter.unusedSimpArgs false
open Go.RowKit Go.Maps
theorem length_delF : ∀ (L : List Fl) (nm : List UInt8), (L.map Fl.nm).Nodup → (delF L nm).length + (if hasF L nm then 1 else 0) = L.length
  | [], nm, _ => rfl
  | f :: L, nm, hd => by
    rw [List.map_cons, List.nodup_cons] at hd
    have ih := length_delF L nm hd.2
    by_cases h : f.nm = nm
    · have hn : hasF L nm = false := by
        cases e : hasF L nm with
        | false => rfl
        | true =>
          obtain ⟨g, hg, hgn⟩ := hasF_iff.1 e
          exact absurd (List.mem_map.2 ⟨g, hg, hgn.trans h.symm⟩) hd.1
      have h1 : hasF (f :: L) nm = true := hasF_iff.2 ⟨f, by simp, h⟩
      have h2 : delF (f :: L) nm = delF L nm := by simp [delF, h]
      rw [hn] at ih
      rw [h1, h2, List.length_cons]
      simpa using ih
    · have h1 : hasF (f :: L) nm = hasF L nm := by simp [hasF, h]
      have h2 : delF (f :: L) nm = f :: delF L nm := by simp [delF, h]
      rw [h1, h2, List.length_cons, List.length_cons]
      omega
theorem nodup_delF {L : List Fl} (nm : List UInt8) (h : (L.map Fl.nm).Nodup) : ((delF L nm).map Fl.nm).Nodup := h.sublist (List.Sublist.map _ List.filter_sublist)
theorem nodup_putF {L : List Fl} (f : Fl) (h : (L.map Fl.nm).Nodup) : ((putF L f).map Fl.nm).Nodup := by
  unfold putF
  rw [List.map_append, List.nodup_append]
  refine ⟨nodup_delF f.nm h, by simp, ?_⟩
  intro x hx y hy e
  obtain ⟨g, hg, rfl⟩ := List.mem_map.1 hx
  simp at hy
  exact (mem_delF.1 hg).2 (e.trans hy)
theorem mem_putF {L : List Fl} {f g : Fl} : g ∈ putF L f ↔ (g ∈ L ∧ g.nm ≠ f.nm) ∨ g = f := by
  unfold putF
  rw [List.mem_append, mem_delF, List.mem_singleton]
section
variable {w w' : World} {base mb : Nat} {L : List Fl} {D : DataW Value}
theorem Own.not_map {e : TypeId} {size n : Nat} {v : Value} {xs : List Value} (h : Own w base e size v n xs) {b : Nat} {es : Array MapEntry} {c : Nat} (hb : w.heap[b]? = some (.map es c)) : ∀ k, v.ownBlock = some k → k ≠ b := by
  intro k hk e
  subst e
  rcases h.2 with ⟨rfl, _⟩ | ⟨g, cap, cur, fr, rfl, _, hg, _⟩
  · cases hk
  · simp [Value.ownBlock] at hk
    subst hk
    rw [hb] at hg
    cases hg
theorem mapTurned_upd {b : Nat} (h : w.mapTurned w' b) : Upd (fun k => k = b) w w' :=
  have g := h.grown
  ⟨g.os, g.tape, g.output, g.size, fun k hk hn => g.block k hk (fun e => hn (Option.some.inj e))⟩
theorem Fls.notMap (h : Fls w base mb L D) {f : Fl} (ho : Own w base 5 1 f.val f.by_.length (bys f.by_)) : ∀ k, f.at_ k → k ≠ mb := by
  obtain ⟨es, c, hb, _⟩ := h.map
  exact ho.not_map hb
/-- 'm[k] = v', where the file of that name, and it alone, may have been written since. -/
theorem Fls.put2 {w0 : World} {S : Nat → Prop} (h : Fls w0 base mb L D) (hu0 : Upd S w0 w) (f : Fl) (hS : ∀ k, S k → k ≠ mb ∧ ∀ g ∈ L, g.nm ≠ f.nm → ¬ g.at_ k) (hn : f.nm.length ≤ maxLen) (hl : L.length < maxLen) (ho : Own w base 5 1 f.val f.by_.length (bys f.by_)) (hs : ∀ g ∈ L, g.nm ≠ f.nm → ∀ k, f.at_ k → ¬ g.at_ k) :
    ∃ w', (Instr.mapUpdate 71 (.map (some mb)) (.string ⟨f.nm.toArray⟩) f.val).run Tryd.prog w = .ok () w' ∧ Fls w' base mb (putF L f) (D.put (key f.nm) (.held f.val)) ∧ Upd (fun k => k = mb) w w' := by
  have hmap : w.ownsMap Tryd.prog 9 RV mb L.length D := by
    obtain ⟨es, clock, hb, F, hn, hD⟩ := h.map
    exact ⟨es, clock, (hu0.block mb (Array.getElem?_eq_some_iff.1 hb).1 (fun s => (hS mb s).1 rfl)).trans hb, F, hn, hD⟩
  have hown : ∀ g ∈ L, g.nm ≠ f.nm → Own w base 5 1 g.val g.by_.length (bys g.by_) := fun g hg hne => (h.own g hg).upd hu0 (fun k hk s => (hS k s).2 g hg hne hk)
  have hnm : ∀ g : Fl, Own w base 5 1 g.val g.by_.length (bys g.by_) → ∀ k, g.at_ k → k ≠ mb := by
    intro g hg
    obtain ⟨es, c, hb, _⟩ := hmap
    exact hg.not_map hb
  obtain ⟨w', hr, hm, ht⟩ := hmap.store strKeyed Tryd.underlying71 hl (key_of f.nm hn) (val := f.val) (d := .held f.val) (ps := []) rfl
  have hu := mapTurned_upd ht
  have hsz : Maps.size (D.put (key f.nm) (.held f.val)) = (putF L f).length := by
    rw [size_put (h.map.tidy strKeyed), h.has, h.size]
    have := length_delF L f.nm h.nd
    unfold putF
    rw [List.length_append, List.length_singleton]
    split at this <;> rename_i hh
    · rw [if_pos hh]; omega
    · rw [if_neg hh]; omega
  refine ⟨w', hr, ⟨?_, h.bge, ?_, ?_, hsz, nodup_putF f h.nd, ?_, ?_⟩, hu⟩
  · rw [← hsz]; exact tight hm
  · intro nm
    rw [hasF_putF]
    by_cases e : nm = f.nm
    · subst e
      rw [has_put_same h.map.isMap (show WideAt.IsKeyLit (key f.nm) from trivial)]; simp
    · rw [has_put_other (key_ne e), h.has]
      have : (nm == f.nm) = false := by simpa using e
      rw [this]; rfl
  · intro g hg z
    rcases mem_putF.1 hg with ⟨h1, h2⟩ | rfl
    · rw [atKey_put_other (key_ne h2)]; exact h.get g h1 z
    · rw [atKey_put_same h.map.isMap (show WideAt.IsKeyLit (key g.nm) from trivial)]
  · intro g hg
    rcases mem_putF.1 hg with ⟨h1, h2⟩ | rfl
    · exact (hown g h1 h2).upd hu (hnm g (hown g h1 h2))
    · exact ho.upd hu (hnm g ho)
  · intro g hg g' hg' hne k hk hk'
    rcases mem_putF.1 hg with ⟨h1, h2⟩ | rfl
    · rcases mem_putF.1 hg' with ⟨h3, h4⟩ | rfl
      · exact h.sep g h1 g' h3 hne k hk hk'
      · exact hs g h1 h2 k hk' hk
    · rcases mem_putF.1 hg' with ⟨h3, h4⟩ | rfl
      · exact hs g' h3 h4 k hk hk'
      · exact hne rfl
/-- 'm[k] = v'. -/
theorem Fls.put (h : Fls w base mb L D) (f : Fl) (hn : f.nm.length ≤ maxLen) (hl : L.length < maxLen) (ho : Own w base 5 1 f.val f.by_.length (bys f.by_)) (hs : ∀ g ∈ L, g.nm ≠ f.nm → ∀ k, f.at_ k → ¬ g.at_ k) :
    ∃ w', (Instr.mapUpdate 71 (.map (some mb)) (.string ⟨f.nm.toArray⟩) f.val).run Tryd.prog w = .ok () w' ∧ Fls w' base mb (putF L f) (D.put (key f.nm) (.held f.val)) ∧ Upd (fun k => k = mb) w w' :=
  h.put2 (Upd.refl (fun _ => False) w) f (fun _ s => s.elim) hn hl ho hs
def bytF (L : List Fl) (nm : List UInt8) : List UInt8 := ((fndF L nm).map Fl.by_).getD []
/-- What stands under a name owns its bytes; under another name nothing of it. -/
theorem Fls.val_own (h : Fls w base mb L D) (nm : List UInt8) : Own w base 5 1 (valF L nm) (bytF L nm).length (bys (bytF L nm)) ∧ (∀ k, (valF L nm).ownBlock = some k → k ≠ mb ∧ ∀ g ∈ L, g.nm ≠ nm → ¬ g.at_ k) ∧ (∀ k, (valF L nm).ownBlock = some k → FlF mb L k) := by
  unfold valF bytF
  cases e : fndF L nm with
  | none => exact ⟨Own.nil _ _ _ _, (fun k hk => by cases hk), (fun k hk => by cases hk)⟩
  | some f =>
    obtain ⟨h1, h2⟩ := fndF_some e
    refine ⟨h.own f h1, fun k hk => ⟨h.notMap (h.own f h1) k hk, fun g hg hne hk' => h.sep f h1 g hg (by rw [h2]; exact fun e => hne e.symm) k hk hk'⟩, fun k hk => .inr ⟨f, h1, hk⟩⟩
/-- 'delete(m, k)'. -/
theorem Fls.del (h : Fls w base mb L D) (nm : List UInt8) (hn : nm.length ≤ maxLen) (ty : TypeId) :
    ∃ w', (Builtin.delete_ #[71, 9] ty #[.map (some mb), .string ⟨nm.toArray⟩]).run Tryd.prog w = .ok (.tuple #[]) w' ∧ Fls w' base mb (delF L nm) (D.del (key nm)) ∧ Upd (fun k => k = mb) w w' := by
  obtain ⟨w', hr, hm, ht⟩ := h.map.drop strKeyed Tryd.underlying71 (key_of nm hn) ty
  have hu := mapTurned_upd ht
  have hsz : Maps.size (D.del (key nm)) = (delF L nm).length := by
    have h1 := size_del (k := key nm) (h.map.tidy strKeyed)
    rw [h.has, h.size] at h1
    have := length_delF L nm h.nd
    split at this <;> rename_i hh
    · rw [if_pos hh] at h1; omega
    · rw [if_neg hh] at h1; omega
  refine ⟨w', hr, ⟨?_, h.bge, ?_, ?_, hsz, nodup_delF nm h.nd, ?_, ?_⟩, hu⟩
  · rw [← hsz]; exact tight hm
  · intro m
    rw [hasF_delF]
    by_cases e : m = nm
    · subst e
      rw [has_del_same]; simp
    · rw [has_del_other (key_ne e), h.has]
      have : (m == nm) = false := by simpa using e
      rw [this]; simp
  · intro g hg z
    obtain ⟨h1, h2⟩ := mem_delF.1 hg
    rw [atKey_del_other (key_ne h2)]; exact h.get g h1 z
  · intro g hg
    obtain ⟨h1, h2⟩ := mem_delF.1 hg
    exact (h.own g h1).upd hu (h.notMap (h.own g h1))
  · intro g hg g' hg' hne k hk hk'
    exact h.sep g (mem_delF.1 hg).1 g' (mem_delF.1 hg').1 hne k hk hk'
end
end Go.Proofs.YtcmllfnhdodbdaaDoor
