/- disk.Disk: what stands at a disk; may. -/
import Derived.Test.YtnbpkignkfabkaaGreatDoorText
import Derived.Maps.OwnSet
import Derived.Maps.Ext
import Derived.Test.YtnbpkignkfabkaaGreatDoorDsW
import Derived.Deep.QuietTactic
import Derived.BigQuiet
/- The files of a disk: one is laid, one is taken away. -/
/- The files of a disk: a map from names to slices, each of which owns its bytes. -/
namespace Go.Proofs.YtnbpkignkfabkaaGreatDoor
set_option linter.unusedVariables false
set_option linter.unusedSimpArgs false
open Go.RowKit Go.Maps
structure Fl where
  nm : List UInt8
  by_ : List UInt8
  a : Option Addr
  c : Nat
def Fl.val (f : Fl) : Value := .slice f.a f.by_.length f.c
def Fl.at_ (f : Fl) (k : Nat) : Prop := f.val.ownBlock = some k
/-- An element reads as the very value. -/
def RV (v : Value) : Option (DataW Value × List MemPlace) := some (.held v, [])
def key (nm : List UInt8) : Lit := .string nm
def hasF (L : List Fl) (nm : List UInt8) : Bool := L.any fun f => f.nm == nm
def fndF (L : List Fl) (nm : List UInt8) : Option Fl := L.find? fun f => f.nm == nm
def valF (L : List Fl) (nm : List UInt8) : Value := ((fndF L nm).map Fl.val).getD (.slice none 0 0)
def delF (L : List Fl) (nm : List UInt8) : List Fl := L.filter fun f => !(f.nm == nm)
def putF (L : List Fl) (f : Fl) : List Fl := delF L f.nm ++ [f]
theorem hasF_iff {L : List Fl} {nm : List UInt8} : hasF L nm = true ↔ ∃ f ∈ L, f.nm = nm := by simp [hasF]
theorem fndF_some {L : List Fl} {nm : List UInt8} {f : Fl} (h : fndF L nm = some f) : f ∈ L ∧ f.nm = nm := by
  refine ⟨List.mem_of_find?_eq_some h, ?_⟩
  have := List.find?_some h
  simpa using this
theorem fndF_none {L : List Fl} {nm : List UInt8} : fndF L nm = none ↔ hasF L nm = false := by
  simp [fndF, hasF]
theorem hasF_fnd {L : List Fl} {nm : List UInt8} (h : hasF L nm = true) : ∃ f, fndF L nm = some f := by
  cases e : fndF L nm with
  | some f => exact ⟨f, rfl⟩
  | none => rw [fndF_none.1 e] at h; cases h
theorem mem_delF {L : List Fl} {nm : List UInt8} {f : Fl} : f ∈ delF L nm ↔ f ∈ L ∧ f.nm ≠ nm := by simp [delF]
theorem hasF_delF (L : List Fl) (nm nm' : List UInt8) : hasF (delF L nm) nm' = (hasF L nm' && !(nm' == nm)) := by
  rw [Bool.eq_iff_iff, Bool.and_eq_true, hasF_iff, hasF_iff]
  constructor
  · rintro ⟨f, hf, rfl⟩
    obtain ⟨h1, h2⟩ := mem_delF.1 hf
    exact ⟨⟨f, h1, rfl⟩, by simpa using h2⟩
  · rintro ⟨⟨f, hf, rfl⟩, h⟩
    exact ⟨f, mem_delF.2 ⟨hf, by simpa using h⟩, rfl⟩
theorem hasF_putF (L : List Fl) (f : Fl) (nm : List UInt8) : hasF (putF L f) nm = (nm == f.nm || hasF L nm) := by
  have e : hasF (putF L f) nm = (hasF (delF L f.nm) nm || f.nm == nm) := by simp [putF, hasF]
  rw [e, hasF_delF]
  by_cases h : nm = f.nm
  · subst h; simp
  · have h1 : (nm == f.nm) = false := by simpa using h
    have h2 : (f.nm == nm) = false := by simpa using fun e => h e.symm
    rw [h1, h2]; simp
structure Fls (w : World) (base mb : Nat) (L : List Fl) (D : DataW Value) : Prop where
  map : w.ownsMap Tryz.prog 9 RV mb L.length D
  bge : base ≤ mb
  has : ∀ nm, Maps.has D (key nm) = hasF L nm
  get : ∀ f ∈ L, ∀ z, D.atKey (key f.nm) z = .held f.val
  size : Maps.size D = L.length
  nd : (L.map Fl.nm).Nodup
  own : ∀ f ∈ L, Own w base 5 1 f.val f.by_.length (bys f.by_)
  sep : ∀ f ∈ L, ∀ g ∈ L, f.nm ≠ g.nm → ∀ k, f.at_ k → ¬ g.at_ k
/-- The blocks of the files. -/
def FlF (mb : Nat) (L : List Fl) (k : Nat) : Prop := k = mb ∨ ∃ f ∈ L, f.at_ k
theorem strKeyed : Keyed Tryz.prog 9 := string_keyed Tryz.underlying9
theorem key_of (nm : List UInt8) (h : nm.length ≤ maxLen) : keyOf Tryz.prog 9 (.string ⟨nm.toArray⟩) = some (key nm) := by
  have e := Go.WideMaps.keyOf_string_mk (P := Tryz.prog) (k := 9) Tryz.underlying9 (s := ⟨nm.toArray⟩) (by show nm.toArray.size ≤ _; rw [List.size_toArray]; exact h)
  rw [e]
  rfl
theorem key_ne {a b : List UInt8} (h : a ≠ b) : key a ≠ key b := fun e => h (by unfold key at e; injection e)
theorem zeroRow (w : World) : (zeroValue 74).run Tryz.prog w = .ok (.slice none 0 0) w := Tryz.zeroValue74 w
section
variable {w w' : World} {base mb : Nat} {L : List Fl} {D : DataW Value}
/-- How many entries there are is the bound. -/
theorem tight {P : Program} {k : TypeId} {R : Value → Option (DataW Value × List MemPlace)} {b n : Nat} (h : w.ownsMap P k R b n D) : w.ownsMap P k R b (Maps.size D) D := by
  obtain ⟨es, clock, hb, F, hs, rfl⟩ := h
  exact ⟨es, clock, hb, F, by simp [Maps.size, length_sorted], rfl⟩
theorem Fls.upd {S : Nat → Prop} (h : Fls w base mb L D) (hu : Upd S w w') (hs : ∀ k, S k → ¬ FlF mb L k) : Fls w' base mb L D := by
  refine ⟨?_, h.bge, h.has, h.get, h.size, h.nd, fun f hf => (h.own f hf).upd hu (fun k hk s => hs k s (.inr ⟨f, hf, hk⟩)), h.sep⟩
  obtain ⟨es, clock, hb, F, hn, hD⟩ := h.map
  exact ⟨es, clock, (hu.block mb (Array.getElem?_eq_some_iff.1 hb).1 (fun s => hs mb s (.inl rfl))).trans hb, F, hn, hD⟩
theorem Fls.lt (h : Fls w base mb L D) : ∀ k, FlF mb L k → base ≤ k ∧ k < w.heap.size := by
  rintro k (rfl | ⟨f, hf, hk⟩)
  · exact ⟨h.bge, h.map.lt⟩
  · exact (h.own f hf).lt k hk
theorem Fls.val_of (h : Fls w base mb L D) (nm : List UInt8) : D.atKey (key nm) (.held (.slice none 0 0)) = .held (valF L nm) := by
  unfold valF
  cases e : fndF L nm with
  | some f =>
    obtain ⟨h1, rfl⟩ := fndF_some e
    exact h.get f h1 _
  | none =>
    have h1 := h.has nm
    rw [fndF_none.1 e] at h1
    exact atKey_of_not_has h1 _
set_option maxRecDepth 100000 in
/-- 'v, ok := m[k]'. -/
theorem Fls.look_ok (h : Fls w base mb L D) (nm : List UInt8) (hn : nm.length ≤ maxLen) : (Instr.lookup 105 (.map (some mb)) (.string ⟨nm.toArray⟩) true).run Tryz.prog w = .ok (.tuple #[valF L nm, .bool (hasF L nm)]) w := by
  obtain ⟨v, ps, hr, hv⟩ := h.map.look_ok strKeyed Tryz.underlying105 (zeroRow w) (zd := .held (.slice none 0 0)) (zp := []) rfl (key_of nm hn)
  rw [hr, h.has]
  unfold RV at hv
  simp only [Option.some.injEq, Prod.mk.injEq] at hv
  have := hv.1
  rw [h.val_of] at this
  injection this with this
  rw [this]
set_option maxRecDepth 100000 in
theorem Fls.look (h : Fls w base mb L D) (nm : List UInt8) (hn : nm.length ≤ maxLen) : (Instr.lookup 105 (.map (some mb)) (.string ⟨nm.toArray⟩) false).run Tryz.prog w = .ok (valF L nm) w := by
  obtain ⟨v, ps, hr, hv⟩ := h.map.lookup strKeyed Tryz.underlying105 (zeroRow w) (zd := .held (.slice none 0 0)) (zp := []) rfl (key_of nm hn)
  rw [hr]
  unfold RV at hv
  simp only [Option.some.injEq, Prod.mk.injEq] at hv
  have := hv.1
  rw [h.val_of] at this
  injection this with this
  rw [this]
set_option maxRecDepth 100000 in
theorem Fls.len (h : Fls w base mb L D) (ty : TypeId) : (Builtin.len_ #[105] ty #[.map (some mb)]).run Tryz.prog w = .ok (.int .i64 L.length) w := by
  rw [h.map.len Tryz.underlying105 ty, h.size]
end
/-- 'make(map[string][]byte)'. -/
theorem Fls.made (w : World) (base : Nat) (hb : base ≤ w.heap.size) : Fls (w.alloc (.map #[] 0)) base w.heap.size [] (.map []) :=
  ⟨World.ownsMap_made w Tryz.prog 9 RV, hb, fun _ => rfl, (fun _ h => by cases h), rfl, List.nodup_nil, (fun _ h => by cases h), (fun _ h => by cases h)⟩
end Go.Proofs.YtnbpkignkfabkaaGreatDoor
namespace Go.Proofs.YtnbpkignkfabkaaGreatDoor
set_option linter.unusedVariables false
set_option linter.unusedSimpArgs false
open Go.RowKit Go.Maps
theorem length_delF : ∀ (L : List Fl) (nm : List UInt8), (L.map Fl.nm).Nodup → (delF L nm).length + (if hasF L nm then 1 else 0) = L.length
  | [], nm, _ => rfl
  | f :: L, nm, hd => by
    rw [List.map_cons, List.nodup_cons] at hd
    have ih := length_delF L nm hd.2
    by_cases h : f.nm = nm
    · have hn : hasF L nm = false := by
        cases e : hasF L nm with
        | false => rfl
        | true =>
          obtain ⟨g, hg, hgn⟩ := hasF_iff.1 e
          exact absurd (List.mem_map.2 ⟨g, hg, hgn.trans h.symm⟩) hd.1
      have h1 : hasF (f :: L) nm = true := hasF_iff.2 ⟨f, by simp, h⟩
      have h2 : delF (f :: L) nm = delF L nm := by simp [delF, h]
      rw [hn] at ih
      rw [h1, h2, List.length_cons]
      simpa using ih
    · have h1 : hasF (f :: L) nm = hasF L nm := by simp [hasF, h]
      have h2 : delF (f :: L) nm = f :: delF L nm := by simp [delF, h]
      rw [h1, h2, List.length_cons, List.length_cons]
      omega
theorem nodup_delF {L : List Fl} (nm : List UInt8) (h : (L.map Fl.nm).Nodup) : ((delF L nm).map Fl.nm).Nodup := h.sublist (List.Sublist.map _ List.filter_sublist)
theorem nodup_putF {L : List Fl} (f : Fl) (h : (L.map Fl.nm).Nodup) : ((putF L f).map Fl.nm).Nodup := by
  unfold putF
  rw [List.map_append, List.nodup_append]
  refine ⟨nodup_delF f.nm h, by simp, ?_⟩
  intro x hx y hy e
  obtain ⟨g, hg, rfl⟩ := List.mem_map.1 hx
  simp at hy
  exact (mem_delF.1 hg).2 (e.trans hy)
theorem mem_putF {L : List Fl} {f g : Fl} : g ∈ putF L f ↔ (g ∈ L ∧ g.nm ≠ f.nm) ∨ g = f := by
  unfold putF
  rw [List.mem_append, mem_delF, List.mem_singleton]
section
variable {w w' : World} {base mb : Nat} {L : List Fl} {D : DataW Value}
theorem Own.not_map {e : TypeId} {size n : Nat} {v : Value} {xs : List Value} (h : Own w base e size v n xs) {b : Nat} {es : Array MapEntry} {c : Nat} (hb : w.heap[b]? = some (.map es c)) : ∀ k, v.ownBlock = some k → k ≠ b := by
  intro k hk e
  subst e
  rcases h.2 with ⟨rfl, _⟩ | ⟨g, cap, cur, fr, rfl, _, hg, _⟩
  · cases hk
  · simp [Value.ownBlock] at hk
    subst hk
    rw [hb] at hg
    cases hg
theorem mapTurned_upd {b : Nat} (h : w.mapTurned w' b) : Upd (fun k => k = b) w w' :=
  have g := h.grown
  ⟨g.os, g.tape, g.output, g.size, fun k hk hn => g.block k hk (fun e => hn (Option.some.inj e))⟩
theorem Fls.notMap (h : Fls w base mb L D) {f : Fl} (ho : Own w base 5 1 f.val f.by_.length (bys f.by_)) : ∀ k, f.at_ k → k ≠ mb := by
  obtain ⟨es, c, hb, _⟩ := h.map
  exact ho.not_map hb
/-- 'm[k] = v', where the file of that name, and it alone, may have been written since. -/
theorem Fls.put2 {w0 : World} {S : Nat → Prop} (h : Fls w0 base mb L D) (hu0 : Upd S w0 w) (f : Fl) (hS : ∀ k, S k → k ≠ mb ∧ ∀ g ∈ L, g.nm ≠ f.nm → ¬ g.at_ k) (hn : f.nm.length ≤ maxLen) (hl : L.length < maxLen) (ho : Own w base 5 1 f.val f.by_.length (bys f.by_)) (hs : ∀ g ∈ L, g.nm ≠ f.nm → ∀ k, f.at_ k → ¬ g.at_ k) :
    ∃ w', (Instr.mapUpdate 105 (.map (some mb)) (.string ⟨f.nm.toArray⟩) f.val).run Tryz.prog w = .ok () w' ∧ Fls w' base mb (putF L f) (D.put (key f.nm) (.held f.val)) ∧ Upd (fun k => k = mb) w w' := by
  have hmap : w.ownsMap Tryz.prog 9 RV mb L.length D := by
    obtain ⟨es, clock, hb, F, hn, hD⟩ := h.map
    exact ⟨es, clock, (hu0.block mb (Array.getElem?_eq_some_iff.1 hb).1 (fun s => (hS mb s).1 rfl)).trans hb, F, hn, hD⟩
  have hown : ∀ g ∈ L, g.nm ≠ f.nm → Own w base 5 1 g.val g.by_.length (bys g.by_) := fun g hg hne => (h.own g hg).upd hu0 (fun k hk s => (hS k s).2 g hg hne hk)
  have hnm : ∀ g : Fl, Own w base 5 1 g.val g.by_.length (bys g.by_) → ∀ k, g.at_ k → k ≠ mb := by
    intro g hg
    obtain ⟨es, c, hb, _⟩ := hmap
    exact hg.not_map hb
  obtain ⟨w', hr, hm, ht⟩ := hmap.store strKeyed Tryz.underlying105 hl (key_of f.nm hn) (val := f.val) (d := .held f.val) (ps := []) rfl
  have hu := mapTurned_upd ht
  have hsz : Maps.size (D.put (key f.nm) (.held f.val)) = (putF L f).length := by
    rw [size_put (h.map.tidy strKeyed), h.has, h.size]
    have := length_delF L f.nm h.nd
    unfold putF
    rw [List.length_append, List.length_singleton]
    split at this <;> rename_i hh
    · rw [if_pos hh]; omega
    · rw [if_neg hh]; omega
  refine ⟨w', hr, ⟨?_, h.bge, ?_, ?_, hsz, nodup_putF f h.nd, ?_, ?_⟩, hu⟩
  · rw [← hsz]; exact tight hm
  · intro nm
    rw [hasF_putF]
    by_cases e : nm = f.nm
    · subst e
      rw [has_put_same h.map.isMap (show WideAt.IsKeyLit (key f.nm) from trivial)]; simp
    · rw [has_put_other (key_ne e), h.has]
      have : (nm == f.nm) = false := by simpa using e
      rw [this]; rfl
  · intro g hg z
    rcases mem_putF.1 hg with ⟨h1, h2⟩ | rfl
    · rw [atKey_put_other (key_ne h2)]; exact h.get g h1 z
    · rw [atKey_put_same h.map.isMap (show WideAt.IsKeyLit (key g.nm) from trivial)]
  · intro g hg
    rcases mem_putF.1 hg with ⟨h1, h2⟩ | rfl
    · exact (hown g h1 h2).upd hu (hnm g (hown g h1 h2))
    · exact ho.upd hu (hnm g ho)
  · intro g hg g' hg' hne k hk hk'
    rcases mem_putF.1 hg with ⟨h1, h2⟩ | rfl
    · rcases mem_putF.1 hg' with ⟨h3, h4⟩ | rfl
      · exact h.sep g h1 g' h3 hne k hk hk'
      · exact hs g h1 h2 k hk' hk
    · rcases mem_putF.1 hg' with ⟨h3, h4⟩ | rfl
      · exact hs g' h3 h4 k hk hk'
      · exact hne rfl
/-- 'm[k] = v'. -/
theorem Fls.put (h : Fls w base mb L D) (f : Fl) (hn : f.nm.length ≤ maxLen) (hl : L.length < maxLen) (ho : Own w base 5 1 f.val f.by_.length (bys f.by_)) (hs : ∀ g ∈ L, g.nm ≠ f.nm → ∀ k, f.at_ k → ¬ g.at_ k) :
    ∃ w', (Instr.mapUpdate 105 (.map (some mb)) (.string ⟨f.nm.toArray⟩) f.val).run Tryz.prog w = .ok () w' ∧ Fls w' base mb (putF L f) (D.put (key f.nm) (.held f.val)) ∧ Upd (fun k => k = mb) w w' :=
  h.put2 (Upd.refl (fun _ => False) w) f (fun _ s => s.elim) hn hl ho hs
def bytF (L : List Fl) (nm : List UInt8) : List UInt8 := ((fndF L nm).map Fl.by_).getD []
/-- What stands under a name owns its bytes; under another name nothing of it. -/
theorem Fls.val_own (h : Fls w base mb L D) (nm : List UInt8) : Own w base 5 1 (valF L nm) (bytF L nm).length (bys (bytF L nm)) ∧ (∀ k, (valF L nm).ownBlock = some k → k ≠ mb ∧ ∀ g ∈ L, g.nm ≠ nm → ¬ g.at_ k) ∧ (∀ k, (valF L nm).ownBlock = some k → FlF mb L k) := by
  unfold valF bytF
  cases e : fndF L nm with
  | none => exact ⟨Own.nil _ _ _ _, (fun k hk => by cases hk), (fun k hk => by cases hk)⟩
  | some f =>
    obtain ⟨h1, h2⟩ := fndF_some e
    refine ⟨h.own f h1, fun k hk => ⟨h.notMap (h.own f h1) k hk, fun g hg hne hk' => h.sep f h1 g hg (by rw [h2]; exact fun e => hne e.symm) k hk hk'⟩, fun k hk => .inr ⟨f, h1, hk⟩⟩
/-- 'delete(m, k)'. -/
theorem Fls.del (h : Fls w base mb L D) (nm : List UInt8) (hn : nm.length ≤ maxLen) (ty : TypeId) :
    ∃ w', (Builtin.delete_ #[105, 9] ty #[.map (some mb), .string ⟨nm.toArray⟩]).run Tryz.prog w = .ok (.tuple #[]) w' ∧ Fls w' base mb (delF L nm) (D.del (key nm)) ∧ Upd (fun k => k = mb) w w' := by
  obtain ⟨w', hr, hm, ht⟩ := h.map.drop strKeyed Tryz.underlying105 (key_of nm hn) ty
  have hu := mapTurned_upd ht
  have hsz : Maps.size (D.del (key nm)) = (delF L nm).length := by
    have h1 := size_del (k := key nm) (h.map.tidy strKeyed)
    rw [h.has, h.size] at h1
    have := length_delF L nm h.nd
    split at this <;> rename_i hh
    · rw [if_pos hh] at h1; omega
    · rw [if_neg hh] at h1; omega
  refine ⟨w', hr, ⟨?_, h.bge, ?_, ?_, hsz, nodup_delF nm h.nd, ?_, ?_⟩, hu⟩
  · rw [← hsz]; exact tight hm
  · intro m
    rw [hasF_delF]
    by_cases e : m = nm
    · subst e
      rw [has_del_same]; simp
    · rw [has_del_other (key_ne e), h.has]
      have : (m == nm) = false := by simpa using e
      rw [this]; simp
  · intro g hg z
    obtain ⟨h1, h2⟩ := mem_delF.1 hg
    rw [atKey_del_other (key_ne h2)]; exact h.get g h1 z
  · intro g hg
    obtain ⟨h1, h2⟩ := mem_delF.1 hg
    exact (h.own g h1).upd hu (h.notMap (h.own g h1))
  · intro g hg g' hg' hne k hk hk'
    exact h.sep g (mem_delF.1 hg).1 g' (mem_delF.1 hg').1 hne k hk hk'
end
end Go.Proofs.YtnbpkignkfabkaaGreatDoor
namespace Go.Proofs.YtnbpkignkfabkaaGreatDoor
set_option linter.unusedVariables false
set_option linter.unusedSimpArgs false
open Go.RowKit Go.Maps
/-- A disk's numbers. -/
structure DkV where
  room : Int
  used : Int
  armed : Int
  keep : Int
  off : Bool
  writes : Int
def dcells (m : Int) (k : DkV) (mb : Nat) : Array Value := #[.int .i32 m, .int .u32 0, .int .i64 k.room, .int .i64 k.used, .map (some mb), .int .i64 k.armed, .int .i64 k.keep, .bool k.off, .int .i64 k.writes]
/-- A disk stands at db, its files' map at mb; m: its lock's word. -/
structure Dsk (w : World) (base db mb : Nat) (m : Int) (k : DkV) (L : List Fl) (D : DataW Value) : Prop where
  blk : w.heap[db]? = some (.cells (dcells m k mb) 114 (0, 0))
  dge : base ≤ db
  fls : Fls w base mb L D
def DkF (db mb : Nat) (L : List Fl) (k : Nat) : Prop := k = db ∨ FlF mb L k
section
variable {w w' : World} {base db mb : Nat} {m : Int} {k : DkV} {L : List Fl} {D : DataW Value}
theorem Dsk.upd {S : Nat → Prop} (h : Dsk w base db mb m k L D) (hu : Upd S w w') (hs : ∀ i, S i → ¬ DkF db mb L i) : Dsk w' base db mb m k L D :=
  ⟨(hu.block db (lt_of_block h.blk) (fun s => hs db s (.inl rfl))).trans h.blk, h.dge, h.fls.upd hu (fun i s f => hs i s (.inr f))⟩
theorem Dsk.below (h : Dsk w base db mb m k L D) (hb : Below w.heap.size w w') : Dsk w' base db mb m k L D := h.upd (Upd.ofBelow hb) (fun _ s => s.elim)
theorem Dsk.drewN (h : Dsk w base db mb m k L D) (n : Nat) : Dsk (w.drewN n) base db mb m k L D := h.below (bel_drewN (Below.refl _ _) n)
theorem Dsk.cell (h : Dsk w base db mb m k L D) (j : Nat) : w.cell? ⟨db, j, none⟩ = (dcells m k mb)[j]? := cell_of_row' h.blk
theorem Dsk.froz (h : Dsk w base db mb m k L D) (j : Nat) : w.frozen? ⟨db, j, none⟩ = false := by
  have := h.blk
  simp only [World.frozen?, this]
  simp
theorem Dsk.lt (h : Dsk w base db mb m k L D) : db < w.heap.size := lt_of_block h.blk
end
/-- Names that stand in a row. -/
def Nms (w : World) (nb : Nat) (Ns : List (List UInt8)) : Prop := ∀ i (h : i < Ns.length), w.cell? ⟨nb, i, none⟩ = some (.string ⟨(Ns[i]).toArray⟩)
/-- Why a call about these names is refused. -/
def mayR (off : Bool) (L : List Fl) (there : Bool) (Ns : List (List UInt8)) : Int :=
  if off = true then 94 else if Ns.all nmOk = false then 91 else if there = true ∧ hasF L (Ns.headD []) = false then 92 else 0
set_option maxRecDepth 100000 in
set_option maxHeartbeats 2000000 in
theorem may_calls (base db mb : Nat) (m : Int) (k : DkV) (L : List Fl) (D : DataW Value) (there : Bool) (nb cap : Nat) (Ns : List (List UInt8)) (w : World) (h : Dsk w base db mb m k L D) (hn : Nms w nb Ns) (h0 : 0 < Ns.length) (h3 : Ns.length ≤ 1000) (hl : ∀ x ∈ Ns, x.length ≤ 140737488351232) :
    Calls Tryz.prog 103 #[.pointer (some ⟨db, 0, none⟩), .bool there, .slice (some ⟨nb, 0, none⟩) Ns.length cap] w fun r w' => r = .returned (.int .i64 (mayR k.off L there Ns)) ∧ Below w.heap.size w w' := by
  have c7 : w.cell? ⟨db, 7, none⟩ = some (.bool k.off) := h.cell 7
  have H := Lib.hid h; have HN := Lib.hid hn; have HL := Lib.hid hl
  clear h hn hl
  by_cases ho : k.off = true
  · rw [show mayR k.off L there Ns = 94 from if_pos ho]
    rw [ho] at c7
    clear ho
    go_enter Tryz.func103, Tryz.ntmps103
    go_wp2
    go_ret
    exact ⟨rfl, Below.refl _ _⟩
  · have ho' : k.off = false := by simpa using ho
    rw [ho'] at c7
    have MR : Hid (mayR k.off L there Ns = if Ns.all nmOk = false then 91 else if there = true ∧ hasF L (Ns.headD []) = false then 92 else 0) := if_neg ho
    rw [MR.out]
    clear ho ho' MR
    obtain ⟨q, hq⟩ : ∃ q : Int, (if Ns.all nmOk = false then 91 else if there = true ∧ hasF L (Ns.headD []) = false then 92 else 0) = q := ⟨_, rfl⟩
    rw [hq]
    have HQ := Lib.hid hq
    clear hq
    go_enter Tryz.func103, Tryz.ntmps103
    go_wp2
    go_loopw [17] (fun vi wr => ∃ i : Nat, vi = .int .i64 i ∧ i ≤ Ns.length ∧ (∀ j (hj : j < Ns.length), j < i → nmOk Ns[j] = true) ∧ Below w.heap.size w wr) (fun vi _ => Ns.length - (intOf vi).toNat)
    case atStart => exact ⟨0, rfl, Nat.zero_le _, fun _ _ h => absurd h (Nat.not_lt_zero _), Below.refl _ _⟩
    case round =>
      obtain ⟨i, rfl, hi, hall, hb⟩ := hrel
      have BW := Lib.hid hb; have AL := Lib.hid hall
      clear hb hall
      by_cases c1 : i < Ns.length
      · have t1 : decide ((i : Int) < (Ns.length : Int)) = true := decide_eq_true (by omega)
        have t1' : decide (i < Ns.length) = true := decide_eq_true c1
        have q1 : wr.cell? ⟨nb, i, none⟩ = some (.string ⟨(Ns[i]).toArray⟩) := (BW.out.cell (p := ⟨nb, i, none⟩) (World.block_lt_of_cell? _ _ (HN.out i c1))).trans (HN.out i c1)
        have NC := Lib.hid (named_calls Ns[i] wr (by have := HL.out Ns[i] (List.getElem_mem c1); omega))
        obtain ⟨x, hx⟩ : ∃ x, Ns[i] = x := ⟨_, rfl⟩
        rw [hx] at q1 NC
        have HX := Lib.hid hx
        clear hx
        cases hb : nmOk x with
        | false =>
          rw [hb] at NC
          have F1 : Hid (q = 91) := by
            show q = 91
            rw [← HQ.out, if_pos]
            rw [List.all_eq_false]
            exact ⟨Ns[i], List.getElem_mem c1, by rw [HX.out, hb]; simp⟩
          clear hb
          go_wp2_with fail
          refine NC.out.mono ?_
          rintro r w1 ⟨rfl, hb1⟩
          have B1 := Lib.hid (BW.out.trans (hb1.mono BW.out.size))
          clear hb1
          go_wp2
          go_ret
          exact ⟨by rw [F1.out]; rfl, B1.out⟩
        | true =>
          rw [hb] at NC
          have AL2 := Lib.hid (show ∀ j (hj : j < Ns.length), j < i + 1 → nmOk Ns[j] = true from fun j hj hji => by
            by_cases e : j = i
            · subst e; rw [HX.out]; exact hb
            · exact AL.out j hj (by omega))
          clear hb
          go_wp2_with fail
          refine NC.out.mono ?_
          rintro r w1 ⟨rfl, hb1⟩
          have B1 := Lib.hid (BW.out.trans (hb1.mono BW.out.size))
          clear hb1
          go_wp2
          go_roundw
          case rel => exact ⟨i + 1, by go_num, by omega, AL2.out, B1.out⟩
          case measure => simp [intOf]; omega
      · have t1 : decide ((i : Int) < (Ns.length : Int)) = false := decide_eq_false (by omega)
        have t1' : decide (i < Ns.length) = false := decide_eq_false c1
        have hall : Ns.all nmOk = true := by
          rw [List.all_eq_true]
          intro x hx
          obtain ⟨j, hj, rfl⟩ := List.getElem_of_mem hx
          exact AL.out j hj (by omega)
        have q0 : wr.cell? ⟨nb, 0, none⟩ = some (.string ⟨(Ns[0]).toArray⟩) := (BW.out.cell (p := ⟨nb, 0, none⟩) (World.block_lt_of_cell? _ _ (HN.out 0 h0))).trans (HN.out 0 h0)
        have DW := Lib.hid (H.out.below BW.out)
        have c4 : wr.cell? ⟨db, 4, none⟩ = some (.map (some mb)) := DW.out.cell 4
        have lk := fun nq => (DW.out.drewN nq).fls.look_ok Ns[0] (by have := HL.out Ns[0] (List.getElem_mem h0); unfold maxLen; omega)
        have hd : Ns.headD [] = Ns[0] := by cases Ns with | nil => simp at h0 | cons a b => rfl
        have HQ2 : Hid ((if there = true ∧ hasF L Ns[0] = false then 92 else 0) = q) := by
          show _ = _
          have e := HQ.out
          rw [if_neg (by rw [hall]; simp), hd] at e
          exact e
        clear hall hd HQ
        generalize Ns[0] = x at *
        generalize valF L x = vx at *
        generalize hasF L x = hx at *
        cases there with
        | false =>
          have F1 : Hid (q = 0) := by show q = 0; rw [← HQ2.out]; rfl
          go_wp2
          go_quiet (fail)
          go_wp2
          go_ret
          exact ⟨by rw [F1.out]; rfl, bel_drewN BW.out _⟩
        | true =>
          cases hx with
          | false =>
            have F1 : Hid (q = 92) := by show q = 92; rw [← HQ2.out]; rfl
            go_wp2
            go_quiet (fail)
            go_wp2
            go_ret
            exact ⟨by rw [F1.out]; rfl, bel_drewN BW.out _⟩
          | true =>
            have F1 : Hid (q = 0) := by show q = 0; rw [← HQ2.out]; rfl
            go_wp2
            go_quiet (fail)
            go_wp2
            go_ret
            exact ⟨by rw [F1.out]; rfl, bel_drewN BW.out _⟩
end Go.Proofs.YtnbpkignkfabkaaGreatDoor
