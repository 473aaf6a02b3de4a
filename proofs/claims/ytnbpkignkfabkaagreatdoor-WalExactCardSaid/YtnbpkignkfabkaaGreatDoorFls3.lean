/- The files of a disk: a file is cut, a file is moved. -/
import Derived.Test.YtnbpkignkfabkaaGreatDoorAppend
namespace Go.Proofs.YtnbpkignkfabkaaGreatDoor
set_option linter.unusedVariables false
set_option linter.unusedSimpArgs false
open Go.RowKit Go.Maps
theorem ownBlock_len (a : Option Addr) (n m c c' : Nat) : (Value.slice a n c).ownBlock = (Value.slice a m c').ownBlock := by cases a <;> rfl
/-- A beginning of a row is owned too. -/
theorem Own.pre {w : World} {base : Nat} {e : TypeId} {a : Option Addr} {c : Nat} {l : List UInt8} (n : Nat) (hn : n ≤ l.length) (h : Own w base e 1 (.slice a l.length c) l.length (bys l)) : Own w base e 1 (.slice a (l.take n).length c) (l.take n).length (bys (l.take n)) := by
  have hl : (l.take n).length = n := by rw [List.length_take]; omega
  rw [hl]
  refine ⟨by rw [bys_length, hl, Nat.mul_one], ?_⟩
  rcases h.2 with ⟨hv, h0⟩ | ⟨g, cap, cur, fr, hv, hb, hg, hf, hnc, hcm, hcs, ht⟩
  · obtain ⟨rfl, -, rfl⟩ : a = none ∧ l.length = 0 ∧ c = 0 := by injection hv with e1 e2 e3; exact ⟨e1, e2, e3⟩
    have : n = 0 := by omega
    subst this
    exact .inl ⟨rfl, rfl⟩
  · obtain ⟨rfl, rfl⟩ : a = some ⟨g, 0, none⟩ ∧ c = cap := by injection hv with e1 e2 e3; exact ⟨e1, e3⟩
    refine .inr ⟨g, c, cur, fr, rfl, hb, hg, hf, by omega, hcm, hcs, ?_⟩
    have := congrArg (List.take n) ht
    rw [List.take_take] at this
    rw [Nat.mul_one] at this ⊢
    rw [show min n l.length = n by omega] at this
    rw [this]
    unfold bys
    rw [List.map_take]
/-- What stands under a name, written out. -/
theorem Fls.val_shape {w : World} {base mb : Nat} {L : List Fl} {D : DataW Value} (h : Fls w base mb L D) (nm : List UInt8) :
    ∃ a c, valF L nm = .slice a (bytF L nm).length c ∧ (bytF L nm).length ≤ c ∧ Byt w a (bytF L nm) ∧ Own w base 5 1 (.slice a (bytF L nm).length c) (bytF L nm).length (bys (bytF L nm)) ∧
      (∀ k, (Value.slice a (bytF L nm).length c).ownBlock = some k → k ≠ mb ∧ (∀ g ∈ L, g.nm ≠ nm → ¬ g.at_ k) ∧ FlF mb L k) := by
  obtain ⟨h1, h2, h3⟩ := h.val_own nm
  obtain ⟨a, c, hv, _, hc, hy, _, _⟩ := own_val h1
  rw [hv] at h1 h2 h3
  exact ⟨a, c, hv, hc, hy, h1, fun k hk => ⟨(h2 k hk).1, (h2 k hk).2, h3 k hk⟩⟩
/-- A file is made shorter. -/
theorem Fls.cutTo {w : World} {base mb : Nat} {L : List Fl} {D : DataW Value} (h : Fls w base mb L D) (nm : List UInt8) (n : Nat) (hn : nm.length ≤ maxLen) (hl : L.length < maxLen) (hle : n ≤ (bytF L nm).length) {a : Option Addr} {c : Nat} (hv : valF L nm = .slice a (bytF L nm).length c) :
    ∃ w', (Instr.mapUpdate 105 (.map (some mb)) (.string ⟨nm.toArray⟩) (.slice a n c)).run Tryz.prog w = .ok () w' ∧ Fls w' base mb (putF L ⟨nm, (bytF L nm).take n, a, c⟩) (D.put (key nm) (.held (Fl.val ⟨nm, (bytF L nm).take n, a, c⟩))) ∧ Upd (fun k => k = mb) w w' := by
  obtain ⟨h1, h2, h3⟩ := h.val_own nm
  rw [hv] at h1 h2
  have e : ((bytF L nm).take n).length = n := by rw [List.length_take]; omega
  have P := h.put ⟨nm, (bytF L nm).take n, a, c⟩ hn hl (h1.pre n hle) (fun g hg hne k hk => (h2 k ((ownBlock_len ..).trans hk)).2 g hg hne)
  obtain ⟨w', hr, hf, hu⟩ := P
  refine ⟨w', ?_, hf, hu⟩
  have hr' := hr
  unfold Fl.val at hr'
  simp only [e] at hr'
  exact hr'
/-- A move's first half: the file stands under the other name too. -/
structure Mov (w : World) (base mb : Nat) (L : List Fl) (D : DataW Value) (a b : List UInt8) : Prop where
  map : w.ownsMap Tryz.prog 9 RV mb (L.length + 1) (D.put (key b) (.held (valF L a)))
  own : ∀ f ∈ L, Own w base 5 1 f.val f.by_.length (bys f.by_)
theorem Mov.upd {S : Nat → Prop} {w w' : World} {base mb : Nat} {L : List Fl} {D : DataW Value} {a b : List UInt8} (h : Mov w base mb L D a b) (hu : Upd S w w') (hs : ∀ k, S k → ¬ FlF mb L k) : Mov w' base mb L D a b := by
  refine ⟨?_, fun f hf => (h.own f hf).upd hu (fun k hk s => hs k s (.inr ⟨f, hf, hk⟩))⟩
  obtain ⟨es, clock, hb, F, hn, hD⟩ := h.map
  exact ⟨es, clock, (hu.block mb (Array.getElem?_eq_some_iff.1 hb).1 (fun s => hs mb s (.inl rfl))).trans hb, F, hn, hD⟩
theorem Fls.move1 {w : World} {base mb : Nat} {L : List Fl} {D : DataW Value} (h : Fls w base mb L D) (a b : List UInt8) (hb : b.length ≤ maxLen) (hl : L.length < maxLen) :
    ∃ w', (Instr.mapUpdate 105 (.map (some mb)) (.string ⟨b.toArray⟩) (valF L a)).run Tryz.prog w = .ok () w' ∧ Mov w' base mb L D a b ∧ Upd (fun k => k = mb) w w' := by
  obtain ⟨w', hr, hm, ht⟩ := h.map.store strKeyed Tryz.underlying105 hl (key_of b hb) (val := valF L a) (d := .held (valF L a)) (ps := []) rfl
  have hu := mapTurned_upd ht
  exact ⟨w', hr, ⟨hm, fun f hf => (h.own f hf).upd hu (h.notMap (h.own f hf))⟩, hu⟩
theorem Mov.move2 {w0 w : World} {base mb : Nat} {L : List Fl} {D : DataW Value} {a b : List UInt8} (h0 : Fls w0 base mb L D) (h : Mov w base mb L D a b) (hne : a ≠ b) (ha : hasF L a = true) (hal : a.length ≤ maxLen) (ty : TypeId) :
    ∃ w', (Builtin.delete_ #[105, 9] ty #[.map (some mb), .string ⟨a.toArray⟩]).run Tryz.prog w = .ok (.tuple #[]) w' ∧
      (∃ f D', f.nm = b ∧ f.by_ = bytF L a ∧ f.val = valF L a ∧ Fls w' base mb (putF (delF L a) f) D') ∧ Upd (fun k => k = mb) w w' := by
  obtain ⟨w', hr, hm, ht⟩ := h.map.drop strKeyed Tryz.underlying105 (key_of a hal) ty
  have hu := mapTurned_upd ht
  obtain ⟨fa, hfa⟩ := hasF_fnd ha
  obtain ⟨hfm, hfn⟩ := fndF_some hfa
  have hv : valF L a = fa.val := by unfold valF; rw [hfa]; rfl
  have hy : bytF L a = fa.by_ := by unfold bytF; rw [hfa]; rfl
  have hk : key a ≠ key b := key_ne hne
  have hk' : key b ≠ key a := key_ne (fun e => hne e.symm)
  have hnot : ∀ f ∈ L, ∀ k, f.at_ k → k ≠ mb := by
    intro f hf
    obtain ⟨es, c, hb, _⟩ := h.map
    exact (h.own f hf).not_map hb
  have own' : ∀ f ∈ L, Own w' base 5 1 f.val f.by_.length (bys f.by_) := fun f hf => (h.own f hf).upd hu (hnot f hf)
  refine ⟨w', hr, ⟨⟨b, fa.by_, fa.a, fa.c⟩, (D.put (key b) (.held (valF L a))).del (key a), rfl, hy.symm, hv.symm, ⟨?_, h0.bge, ?_, ?_, ?_, nodup_putF _ (nodup_delF a h0.nd), ?_, ?_⟩⟩, hu⟩
  · exact (tight hm).mono (by
      have h1 := size_del (k := key a) (h.map.tidy strKeyed)
      have h2 := size_put (k := key b) (d := .held (valF L a)) (h0.map.tidy strKeyed)
      rw [has_put_other hk, h0.has, ha, if_pos rfl] at h1
      rw [h0.has, h0.size] at h2
      have h3 := length_delF L a h0.nd
      rw [ha, if_pos rfl] at h3
      have h4 := length_delF (delF L a) b (nodup_delF a h0.nd)
      rw [hasF_delF] at h4
      have e : (b == a) = false := by simpa using fun e => hne e.symm
      rw [e] at h4
      simp only [Bool.not_false, Bool.and_true] at h4
      show _ ≤ (putF (delF L a) _).length
      unfold putF
      rw [List.length_append, List.length_singleton, show (Fl.nm ⟨b, fa.by_, fa.a, fa.c⟩) = b from rfl]
      by_cases hb : hasF L b = true
      · rw [if_pos hb] at h2 h4; omega
      · rw [if_neg hb] at h2 h4; omega)
  · intro nm
    rw [hasF_putF, hasF_delF]
    by_cases e : nm = a
    · subst e
      rw [has_del_same]
      have : (nm == b) = false := by simpa using hne
      show false = ((nm == b) || _)
      rw [this]; simp
    · rw [has_del_other (key_ne e)]
      have e1 : (nm == a) = false := by simpa using e
      rw [e1]
      by_cases e2 : nm = b
      · subst e2
        rw [has_put_same h0.map.isMap (show WideAt.IsKeyLit (key nm) from trivial)]; simp
      · rw [has_put_other (key_ne e2), h0.has]
        have : (nm == b) = false := by simpa using e2
        show hasF L nm = ((nm == b) || _)
        rw [this]; simp
  · intro g hg z
    rcases mem_putF.1 hg with ⟨h1, h2⟩ | rfl
    · obtain ⟨h3, h4⟩ := mem_delF.1 h1
      rw [atKey_del_other (key_ne h4), atKey_put_other (key_ne h2)]; exact h0.get g h3 z
    · rw [atKey_del_other hk', atKey_put_same h0.map.isMap (show WideAt.IsKeyLit (key b) from trivial), hv]
      rfl
  · have h1 := size_del (k := key a) (h.map.tidy strKeyed)
    have h2 := size_put (k := key b) (d := .held (valF L a)) (h0.map.tidy strKeyed)
    rw [has_put_other hk, h0.has, ha, if_pos rfl] at h1
    rw [h0.has, h0.size] at h2
    have h3 := length_delF L a h0.nd
    rw [ha, if_pos rfl] at h3
    have h4 := length_delF (delF L a) b (nodup_delF a h0.nd)
    rw [hasF_delF] at h4
    have e : (b == a) = false := by simpa using fun e => hne e.symm
    rw [e] at h4
    simp only [Bool.not_false, Bool.and_true] at h4
    show _ = (putF (delF L a) _).length
    unfold putF
    rw [List.length_append, List.length_singleton, show (Fl.nm ⟨b, fa.by_, fa.a, fa.c⟩) = b from rfl]
    by_cases hb : hasF L b = true
    · rw [if_pos hb] at h2 h4; omega
    · rw [if_neg hb] at h2 h4; omega
  · intro g hg
    rcases mem_putF.1 hg with ⟨h1, h2⟩ | rfl
    · exact own' g (mem_delF.1 h1).1
    · exact own' fa hfm
  · intro g hg g' hg' hne' k hk1 hk2
    rcases mem_putF.1 hg with ⟨h1, h2⟩ | rfl
    · obtain ⟨h3, h4⟩ := mem_delF.1 h1
      rcases mem_putF.1 hg' with ⟨h5, h6⟩ | rfl
      · exact h0.sep g h3 g' (mem_delF.1 h5).1 hne' k hk1 hk2
      · exact h0.sep g h3 fa hfm (by rw [hfn]; exact h4) k hk1 hk2
    · rcases mem_putF.1 hg' with ⟨h5, h6⟩ | rfl
      · obtain ⟨h7, h8⟩ := mem_delF.1 h5
        exact h0.sep fa hfm g' h7 (by rw [hfn]; exact fun e => h8 e.symm) k hk1 hk2
      · exact hne' rfl
end Go.Proofs.YtnbpkignkfabkaaGreatDoor
