/- The files of a disk: a map from names to slices, each of which owns its bytes. -/
import Derived.Test.YtcmllfnhdodbdaaDoorWri
import Derived.Maps.OwnSet
import Derived.Maps.Ext
namespace Go.Proofs.YtcmllfnhdodbdaaDoor
set_option linter.unusedVariables false
set_option linter.unusedSimpArgs false
open Go.RowKit Go.Maps
structure Fl where
  nm : List UInt8
  by_ : List UInt8
  a : Option Addr
  c : Nat
def Fl.val (f : Fl) : Value := .slice f.a f.by_.length f.c
def Fl.at_ (f : Fl) (k : Nat) : Prop := f.val.ownBlock = some k
/-- An element reads as the very value. -/
def RV (v : Value) : Option (DataW Value × List MemPlace) := some (.held v, [])
def key (nm : List UInt8) : Lit := .string nm
def hasF (L : List Fl) (nm : List UInt8) : Bool := L.any fun f => f.nm == nm
def fndF (L : List Fl) (nm : List UInt8) : Option Fl := L.find? fun f => f.nm == nm
def valF (L : List Fl) (nm : List UInt8) : Value := ((fndF L nm).map Fl.val).getD (.slice none 0 0)
def delF (L : List Fl) (nm : List UInt8) : List Fl := L.filter fun f => !(f.nm == nm)
def putF (L : List Fl) (f : Fl) : List Fl := delF L f.nm ++ [f]
theorem hasF_iff {L : List Fl} {nm : List UInt8} : hasF L nm = true ↔ ∃ f ∈ L, f.nm = nm := by simp [hasF]
theorem fndF_some {L : List Fl} {nm : List UInt8} {f : Fl} (h : fndF L nm = some f) : f ∈ L ∧ f.nm = nm := by
  refine ⟨List.mem_of_find?_eq_some h, ?_⟩
  have := List.find?_some h
  simpa using this
theorem fndF_none {L : List Fl} {nm : List UInt8} : fndF L nm = none ↔ hasF L nm = false := by
  simp [fndF, hasF]
theorem hasF_fnd {L : List Fl} {nm : List UInt8} (h : hasF L nm = true) : ∃ f, fndF L nm = some f := by
  cases e : fndF L nm with
  | some f => exact ⟨f, rfl⟩
  | none => rw [fndF_none.1 e] at h; cases h
theorem mem_delF {L : List Fl} {nm : List UInt8} {f : Fl} : f ∈ delF L nm ↔ f ∈ L ∧ f.nm ≠ nm := by simp [delF]
theorem hasF_delF (L : List Fl) (nm nm' : List UInt8) : hasF (delF L nm) nm' = (hasF L nm' && !(nm' == nm)) := by
  rw [Bool.eq_iff_iff, Bool.and_eq_true, hasF_iff, hasF_iff]
  constructor
  · rintro ⟨f, hf, rfl⟩
    obtain ⟨h1, h2⟩ := mem_delF.1 hf
    exact ⟨⟨f, h1, rfl⟩, by simpa using h2⟩
  · rintro ⟨⟨f, hf, rfl⟩, h⟩
    exact ⟨f, mem_delF.2 ⟨hf, by simpa using h⟩, rfl⟩
theorem hasF_putF (L : List Fl) (f : Fl) (nm : List UInt8) : hasF (putF L f) nm = (nm == f.nm || hasF L nm) := by
  have e : hasF (putF L f) nm = (hasF (delF L f.nm) nm || f.nm == nm) := by simp [putF, hasF]
  rw [e, hasF_delF]
  by_cases h : nm = f.nm
  · subst h; simp
  · have h1 : (nm == f.nm) = false := by simpa using h
    have h2 : (f.nm == nm) = false := by simpa using fun e => h e.symm
    rw [h1, h2]; simp
structure Fls (w : World) (base mb : Nat) (L : List Fl) (D : DataW Value) : Prop where
  map : w.ownsMap Tryd.prog 9 RV mb L.length D
  bge : base ≤ mb
  has : ∀ nm, Maps.has D (key nm) = hasF L nm
  get : ∀ f ∈ L, ∀ z, D.atKey (key f.nm) z = .held f.val
  size : Maps.size D = L.length
  nd : (L.map Fl.nm).Nodup
  own : ∀ f ∈ L, Own w base 5 1 f.val f.by_.length (bys f.by_)
  sep : ∀ f ∈ L, ∀ g ∈ L, f.nm ≠ g.nm → ∀ k, f.at_ k → ¬ g.at_ k
/-- The blocks of the files. -/
def FlF (mb : Nat) (L : List Fl) (k : Nat) : Prop := k = mb ∨ ∃ f ∈ L, f.at_ k
theorem strKeyed : Keyed Tryd.prog 9 := string_keyed Tryd.underlying9
theorem key_of (nm : List UInt8) (h : nm.length ≤ maxLen) : keyOf Tryd.prog 9 (.string ⟨nm.toArray⟩) = some (key nm) := by
  have e := Go.WideMaps.keyOf_string_mk (P := Tryd.prog) (k := 9) Tryd.underlying9 (s := ⟨nm.toArray⟩) (by show nm.toArray.size ≤ _; rw [List.size_toArray]; exact h)
  rw [e]
  rfl
theorem key_ne {a b : List UInt8} (h : a ≠ b) : key a ≠ key b := fun e => h (by unfold key at e; injection e)
theorem zeroRow (w : World) : (zeroValue 23).run Tryd.prog w = .ok (.slice none 0 0) w := Tryd.zeroValue23 w
section
variable {w w' : World} {base mb : Nat} {L : List Fl} {D : DataW Value}
/-- How many entries there are is the bound. -/
theorem tight {P : Program} {k : TypeId} {R : Value → Option (DataW Value × List MemPlace)} {b n : Nat} (h : w.ownsMap P k R b n D) : w.ownsMap P k R b (Maps.size D) D := by
  obtain ⟨es, clock, hb, F, hs, rfl⟩ := h
  exact ⟨es, clock, hb, F, by simp [Maps.size, length_sorted], rfl⟩
theorem Fls.upd {S : Nat → Prop} (h : Fls w base mb L D) (hu : Upd S w w') (hs : ∀ k, S k → ¬ FlF mb L k) : Fls w' base mb L D := by
  refine ⟨?_, h.bge, h.has, h.get, h.size, h.nd, fun f hf => (h.own f hf).upd hu (fun k hk s => hs k s (.inr ⟨f, hf, hk⟩)), h.sep⟩
  obtain ⟨es, clock, hb, F, hn, hD⟩ := h.map
  exact ⟨es, clock, (hu.block mb (Array.getElem?_eq_some_iff.1 hb).1 (fun s => hs mb s (.inl rfl))).trans hb, F, hn, hD⟩
theorem Fls.lt (h : Fls w base mb L D) : ∀ k, FlF mb L k → base ≤ k ∧ k < w.heap.size := by
  rintro k (rfl | ⟨f, hf, hk⟩)
  · exact ⟨h.bge, h.map.lt⟩
  · exact (h.own f hf).lt k hk
theorem Fls.val_of (h : Fls w base mb L D) (nm : List UInt8) : D.atKey (key nm) (.held (.slice none 0 0)) = .held (valF L nm) := by
  unfold valF
  cases e : fndF L nm with
  | some f =>
    obtain ⟨h1, rfl⟩ := fndF_some e
    exact h.get f h1 _
  | none =>
    have h1 := h.has nm
    rw [fndF_none.1 e] at h1
    exact atKey_of_not_has h1 _
set_option maxRecDepth 100000 in
/-- 'v, ok := m[k]'. -/
theorem Fls.look_ok (h : Fls w base mb L D) (nm : List UInt8) (hn : nm.length ≤ maxLen) : (Instr.lookup 71 (.map (some mb)) (.string ⟨nm.toArray⟩) true).run Tryd.prog w = .ok (.tuple #[valF L nm, .bool (hasF L nm)]) w := by
  obtain ⟨v, ps, hr, hv⟩ := h.map.look_ok strKeyed Tryd.underlying71 (zeroRow w) (zd := .held (.slice none 0 0)) (zp := []) rfl (key_of nm hn)
  rw [hr, h.has]
  unfold RV at hv
  simp only [Option.some.injEq, Prod.mk.injEq] at hv
  have := hv.1
  rw [h.val_of] at this
  injection this with this
  rw [this]
set_option maxRecDepth 100000 in
theorem Fls.look (h : Fls w base mb L D) (nm : List UInt8) (hn : nm.length ≤ maxLen) : (Instr.lookup 71 (.map (some mb)) (.string ⟨nm.toArray⟩) false).run Tryd.prog w = .ok (valF L nm) w := by
  obtain ⟨v, ps, hr, hv⟩ := h.map.lookup strKeyed Tryd.underlying71 (zeroRow w) (zd := .held (.slice none 0 0)) (zp := []) rfl (key_of nm hn)
  rw [hr]
  unfold RV at hv
  simp only [Option.some.injEq, Prod.mk.injEq] at hv
  have := hv.1
  rw [h.val_of] at this
  injection this with this
  rw [this]
set_option maxRecDepth 100000 in
theorem Fls.len (h : Fls w base mb L D) (ty : TypeId) : (Builtin.len_ #[71] ty #[.map (some mb)]).run Tryd.prog w = .ok (.int .i64 L.length) w := by
  rw [h.map.len Tryd.underlying71 ty, h.size]
end
/-- 'make(map[string][]byte)'. -/
theorem Fls.made (w : World) (base : Nat) (hb : base ≤ w.heap.size) : Fls (w.alloc (.map #[] 0)) base w.heap.size [] (.map []) :=
  ⟨World.ownsMap_made w Tryd.prog 9 RV, hb, fun _ => rfl, (fun _ h => by cases h), rfl, List.nodup_nil, (fun _ h => by cases h), (fun _ h => by cases h)⟩
end Go.Proofs.YtcmllfnhdodbdaaDoor
