/- What came in, opened: rows of Framed. -/
import Derived.Test.YtnbpkignkfabkaaGreatDoorRows
import Derived.Test.YtnbpkignkfabkaaGreatDoorSum
import Derived.ProofKit
import Derived.LaidMore
import Derived.OpenShut
import Derived.Stop.Joined
import Derived.ChangeOld
import Derived.SizedLaws
import Derived.Deep.Slices
import Derived.Test.YtnbpkignkfabkaaGreatDoorFRow
import Derived.Test.YtnbpkignkfabkaaGreatDoorStep
/- The table that is laid at start-up: what the rows' premise on it gives; a start that meets it. -/
namespace Go.Proofs.YtnbpkignkfabkaaGreatDoor
set_option linter.unusedVariables false
set_option linter.unusedSimpArgs false
open Go.ChangeShapes Go.WideShapes Go.ChangeAt Go.RowKit
theorem own : ownKnob Tryz.prog.godebug = none := by kernel_rfl
theorem laidOut : laidOutB Tryz.prog = true := by kernel_rfl
theorem gPart : Tryz.prog.globalNamed "postern/record.part" = some 0 := by kernel_rfl
theorem tPart : (Tryz.prog.globals[0]?).map (·.type) = some 258 := by kernel_rfl
def laidL {H : Type} : List (String × DataW H) := [("postern/record.part", Rows.laid_postern_record_part)]
theorem door_met (os : Os) (args : Array Value) : laidMetH Tryz.prog laidL ((World.doorLaid Tryz.prog 400 os).forCall (fun _ _ => 0) ⟨#[], args, []⟩).memory :=
  laidMetH_of_parts3 (fuel := 8) (laidMet_of_run' 8 (by kernel_rfl) (by kernel_rfl)) (by kernel_rfl) (by kernel_rfl)
theorem of_laid {W : World} (h : laidMetH Tryz.prog laidL W) : Tab W ∧ 0 < W.heap.size := by
  rw [MakeChecks.laidMetH_plain _ _ _ (by kernel_rfl)] at h
  obtain ⟨ps, ⟨g0, t0, cs0, f0, p0, q0, hg0, ht0, hv0, hd0, _, _⟩, _, _⟩ := h
  obtain rfl := Option.some.inj (gPart.symm.trans hg0)
  obtain rfl := Option.some.inj (tPart.symm.trans ht0)
  obtain ⟨xs, m1, rfl, hx1, hlen, hn3, hel⟩ := DataW.trod_array Tryz.underlying258 hd0
  have c1 : Tryz.prog.cellsOf 108 = 1 := by kernel_rfl
  simp only [Prod.mk.injEq, Rows.laid_postern_record_part, DataW.agg.injEq] at hx1
  have key : ∀ i, i < 16 → W.cell? ⟨0, i, none⟩ = some (.int .u32 (u32 (tbl i))) := by
    intro i hi
    have hxi : xs[i]? = some (xs[i]'(by omega)) := List.getElem?_eq_getElem (by omega)
    obtain ⟨k, e1, e2, _⟩ := DataW.trod_int Tryz.underlying108 ((hel i hi).trans hxi)
    have hk : (xs.map (fun x => x.fst))[i]? = some (.lit (.int .u32 k)) := by rw [List.getElem?_map, hxi, e2]; rfl
    rw [← hx1.1] at hk
    have hcell : cs0.toList[i]? = some (.int .u32 k) := by
      have := congrArg (fun l => l[0]?) e1
      simp only [c1, List.getElem?_take, List.getElem?_drop] at this
      simpa using this
    have hv := World.var?_cell hg0 hv0 i
    rw [hv, ← Array.getElem?_toList, hcell]
    have hkt : k = u32 (tbl i) := by
      match i, hi, hk with
      | 0, _, hk | 1, _, hk | 2, _, hk | 3, _, hk | 4, _, hk | 5, _, hk | 6, _, hk | 7, _, hk | 8, _, hk | 9, _, hk | 10, _, hk | 11, _, hk | 12, _, hk | 13, _, hk | 14, _, hk | 15, _, hk =>
        simp only [List.getElem?_cons_zero, List.getElem?_cons_succ, Option.some.injEq, DataW.lit.injEq, Lit.int.injEq, true_and] at hk
        rw [← hk]
        decide +kernel
    rw [hkt]
  exact ⟨key, World.block_lt_of_cell? W _ (key 0 (by decide))⟩
end Go.Proofs.YtnbpkignkfabkaaGreatDoor
/- What came in, opened: bytes. -/
namespace Go.Proofs.YtnbpkignkfabkaaGreatDoor
set_option linter.unusedVariables false
set_option linter.unusedSimpArgs false
open Go.ChangeShapes Go.WideShapes Go.ChangeAt Go.RowKit Go.Deep
/-- No weight of a datum passes the reach. -/
def Small {H : Type} (t : TypeId) (d : DataW H) : Prop := ∀ n ∈ d.weights Tryz.prog t, n ≤ reachBytes
theorem small_all {H : Type} {e : TypeId} : ∀ {l : List (DataW H)}, (∀ n ∈ DataW.weightsAll Tryz.prog e l, n ≤ reachBytes) → ∀ d ∈ l, Small e d
  | [], _, d, hd => by cases hd
  | x :: l, h, d, hd => by
    simp only [DataW.weightsAll, List.mem_append] at h
    rcases List.mem_cons.1 hd with rfl | hd
    · exact fun n hn => h n (.inl hn)
    · exact small_all (fun n hn => h n (.inr hn)) d hd
theorem small_slice {H : Type} {t e : TypeId} {elems spare : List (DataW H)} (hu : Tryz.prog.underlying t = some (.slice e)) (h : Small t (.slice elems spare)) : (elems.length + spare.length) * Tryz.prog.bytesOf e ≤ reachBytes ∧ (∀ d ∈ elems, Small e d) ∧ ∀ d ∈ spare, Small e d := by
  unfold Small at h
  simp only [DataW.weights, hu, List.mem_cons, List.mem_append] at h
  exact ⟨h _ (.inl rfl), small_all (fun n hn => h n (.inr (.inl hn))), small_all (fun n hn => h n (.inr (.inr hn)))⟩
theorem small_arg {H : Type} {ts : List TypeId} {ds : List (DataW H)} {j : Nat} {t : TypeId} {d : DataW H} (h : (DataW.weightsEach Tryz.prog ts ds).all (· ≤ reachBytes) = true) (ht : ts[j]? = some t) (hd : ds[j]? = some d) : Small t d :=
  fun n hn => by simpa using List.all_eq_true.1 h n (DataW.weights_mem_each ht hd n hn)

theorem small_agg {H : Type} {t : TypeId} {fs : Array Field} {parts : List (DataW H)} (hu : Tryz.prog.underlying t = some (.struct fs)) (h : Small t (.agg parts)) {j : Nat} {u : TypeId} {d : DataW H} (ht : (fs.toList.map (·.type))[j]? = some u) (hd : parts[j]? = some d) : Small u d :=
  fun n hn => h n (by simp only [DataW.weights, hu]; exact DataW.weights_mem_each ht hd n hn)
theorem i64_of_wf {n : Int} (h : (Lit.int .i64 n).wf = true) : -9223372036854775808 ≤ n ∧ n ≤ 9223372036854775807 := by
  simp [Lit.wf, IntKind.min, IntKind.max, IntKind.signed, IntKind.bits] at h
  exact ⟨by omega, by omega⟩
theorem list4 {α : Type} : ∀ {l : List α}, l.length = 4 → ∃ a b c d, l = [a, b, c, d]
  | [a, b, c, d], _ => ⟨a, b, c, d, rfl⟩
theorem list5 {α : Type} : ∀ {l : List α}, l.length = 5 → ∃ a b c d e, l = [a, b, c, d, e]
  | [a, b, c, d, e], _ => ⟨a, b, c, d, e, rfl⟩
theorem list8 {α : Type} : ∀ {l : List α}, l.length = 8 → ∃ a b c d e f g h, l = [a, b, c, d, e, f, g, h]
  | [a, b, c, d, e, f, g, h], _ => ⟨a, b, c, d, e, f, g, h, rfl⟩
section
variable {H : Type} {enc : TypeId × Value → H} {W : World} {held : Bool} {fuel : Nat}
theorem addr_plain {a : Addr} {v : Value} (h : W.cell? (a.add 0) = some v) : ∃ b o, a = ⟨b, o, none⟩ := by
  obtain ⟨b, o, s⟩ := a
  cases s with
  | none => exact ⟨b, o, rfl⟩
  | some x =>
    exfalso
    unfold Addr.add World.cell? at h
    simp only [if_true] at h
    split at h
    · simp at h
    · cases h
theorem byte_of_wf {n : Int} (h : (Lit.int .u8 n).wf = true) : n = ((UInt8.ofNat n.toNat).toNat : Int) := by
  simp [Lit.wf, IntKind.min, IntKind.max, IntKind.signed, IntKind.bits] at h
  rw [UInt8.toNat_ofNat']
  omega
/-- A row of bytes. -/
theorem open_bytes {v : Value} {d : DataW H} {pl : List MemPlace} (h : DataW.trod enc Tryz.prog W 0 (fun _ => true) held fuel 74 [v] = some (d, pl)) (hs : Small 74 d) :
    ∃ a xs cap, v = .slice a xs.length cap ∧ Byt W a xs ∧ xs.length ≤ cap ∧ xs.length ≤ 140737488351232 := by
  rcases open_ints Tryz.underlying74 Tryz.underlying5 (by kernel_rfl) h with ⟨hcs, _⟩ | ⟨a, l, c, zs, hcs, _, hl, hm, hz, hx, hcell, hwz⟩
  · simp only [List.cons.injEq, and_true] at hcs
    subst hcs
    exact ⟨none, [], 0, rfl, Byt.nil _ _, Nat.le_refl _, Nat.zero_le _⟩
  · simp only [List.cons.injEq, and_true] at hcs
    subst hcs
    simp only [if_true] at hz
    simp only [Prod.mk.injEq] at hx
    obtain ⟨rfl, _⟩ := hx
    have hr := (small_slice Tryz.underlying74 hs).1
    rw [show Tryz.prog.bytesOf 5 = 1 by kernel_rfl, lits, lits, List.length_map, List.length_map, List.length_take, List.length_drop, Nat.mul_one] at hr
    have hl2 : ((zs.take l).map fun n => UInt8.ofNat n.toNat).length = l := by rw [List.length_map, List.length_take]; omega
    refine ⟨some a, (zs.take l).map fun n => UInt8.ofNat n.toNat, c, by rw [hl2], ?_, by rw [hl2]; exact hl, by rw [hl2]; show l ≤ reachBytes; omega⟩
    intro i hi
    rw [hl2] at hi
    have hc := hcell i (by omega)
    have h0 := hcell 0 (by omega)
    obtain ⟨b, o, rfl⟩ := addr_plain h0
    refine ⟨b, o, rfl, ?_⟩
    rw [Addr.add_lit] at hc
    rw [hc]
    have hi2 : i < zs.length := by omega
    have hw := byte_of_wf (hwz (zs[i]) (List.getElem_mem hi2))
    simp only [List.getElem_map, List.getElem_take]
    rw [← hw]
    simp [List.getD, hi2]
/-- A byte, opened. -/
theorem open_byte {c : Value} {y : DataW H × List MemPlace} (h : DataW.trod enc Tryz.prog W 0 (fun _ => true) held fuel 5 [c] = some y) : ∃ z : UInt8, c = .int .u8 (z.toNat : Int) := by
  obtain ⟨z, q, _, w⟩ := DataW.trod_int Tryz.underlying5 h
  simp only [List.cons.injEq, and_true] at q
  subst q
  exact ⟨_, by rw [← byte_of_wf w]⟩
end
end Go.Proofs.YtnbpkignkfabkaaGreatDoor
/- What came in, opened: rows of rows. -/
namespace Go.Proofs.YtnbpkignkfabkaaGreatDoor
set_option linter.unusedVariables false
set_option linter.unusedSimpArgs false
open Go.ChangeShapes Go.WideShapes Go.ChangeAt Go.RowKit Go.Deep
section
variable {H : Type} {enc : TypeId × Value → H} {W : World} {held : Bool} {fuel : Nat}
/-- A row of rows of bytes. -/
theorem open_rows {v : Value} {d : DataW H} {pl : List MemPlace} (h : DataW.trod enc Tryz.prog W 0 (fun _ => true) held fuel 37 [v] = some (d, pl)) (hs : Small 37 d) :
    ∃ a xss cap Af Cf, v = .slice a xss.length cap ∧ Rd2 W a xss Af Cf ∧ xss.length ≤ cap ∧ xss.length ≤ 140737488351232 := by
  rcases open_slice1 Tryz.underlying37 (by kernel_rfl) h with ⟨hcs, _⟩ | ⟨a, len, cap, m, n, V, D, Pl, hcs, _, hl, hm, hmm, hx, hel⟩
  · simp only [List.cons.injEq, and_true] at hcs
    subst hcs
    exact ⟨none, [], 0, fun _ => none, fun _ => 0, rfl, ⟨fun i hi => absurd hi (Nat.not_lt_zero _), fun i hi => absurd hi (Nat.not_lt_zero _), fun i hi => absurd hi (Nat.not_lt_zero _), fun i hi => absurd hi (Nat.not_lt_zero _)⟩, Nat.le_refl _, Nat.zero_le _⟩
  · simp only [List.cons.injEq, and_true] at hcs
    subst hcs
    simp only [if_true] at hmm
    obtain rfl := hmm.symm
    simp only [Prod.mk.injEq] at hx
    obtain ⟨rfl, _⟩ := hx
    obtain ⟨hw, hse, _⟩ := small_slice Tryz.underlying37 hs
    rw [show Tryz.prog.bytesOf 74 = 24 by kernel_rfl] at hw
    simp only [List.length_map, List.length_range] at hw
    have hlen : len * 24 ≤ 140737488351232 := by
      have : reachBytes = 140737488351232 := rfl
      omega
    have key : ∀ i, i < len → ∃ q : Option Addr × List UInt8 × Nat, V i = .slice q.1 q.2.1.length q.2.2 ∧ Byt W q.1 q.2.1 ∧ q.2.1.length ≤ q.2.2 ∧ q.2.1.length ≤ 140737488351232 := by
      intro i hi
      obtain ⟨ai, xi, ci, h1, h2, h3, h4⟩ := open_bytes (hel i (by omega)).2 (hse (D i) (List.mem_map.2 ⟨i, List.mem_range.2 hi, rfl⟩))
      exact ⟨(ai, xi, ci), h1, h2, h3, h4⟩
    obtain ⟨q, hq⟩ := choose_lt key
    have hl2 : ((List.range len).map fun i => (q i).2.1).length = len := by simp
    have hg : ∀ i (h : i < ((List.range len).map fun i => (q i).2.1).length), ((List.range len).map fun i => (q i).2.1)[i] = (q i).2.1 := fun i h => by simp
    refine ⟨some a, (List.range len).map fun i => (q i).2.1, _, fun i => (q i).1, fun i => (q i).2.2, by rw [hl2], ⟨?_, ?_, ?_, ?_⟩, by rw [hl2]; exact hl, by rw [hl2]; omega⟩
    · intro i hi
      rw [hg i hi]
      rw [hl2] at hi
      have hc := (hel i (by omega)).1
      obtain ⟨b, o, rfl⟩ := addr_plain (hel 0 (by omega)).1
      rw [Addr.add_lit] at hc
      exact ⟨b, o, rfl, by rw [hc, (hq i hi).1]⟩
    · intro i hi
      rw [hg i hi]
      exact (hq i (by rw [hl2] at hi; exact hi)).2.1
    · intro i hi
      rw [hg i hi]
      exact (hq i (by rw [hl2] at hi; exact hi)).2.2.1
    · intro i hi
      rw [hg i hi]
      exact Nat.le_trans (hq i (by rw [hl2] at hi; exact hi)).2.2.2 (by decide)
end
end Go.Proofs.YtnbpkignkfabkaaGreatDoor
namespace Go.Proofs.YtnbpkignkfabkaaGreatDoor
set_option linter.unusedVariables false
set_option linter.unusedSimpArgs false
open Go.ChangeShapes Go.WideShapes Go.ChangeAt Go.RowKit Go.Deep
section
variable {H : Type} {enc : TypeId × Value → H} {W : World} {held : Bool} {fuel : Nat}
end
end Go.Proofs.YtnbpkignkfabkaaGreatDoor
