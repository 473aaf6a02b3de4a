/- What came in, opened: rows of Framed. -/
import Derived.Test.YtnbpkignkfabkaaDoorLaid
import Derived.Deep.Slices
import Derived.OpenShut
import Derived.Test.YtnbpkignkfabkaaDoorFRow
import Derived.Test.YtnbpkignkfabkaaDoorStep
/- What came in, opened: bytes. -/
namespace Go.Proofs.YtnbpkignkfabkaaDoor
set_option linter.unusedVariables false
set_option linter.unusedSimpArgs false
open Go.ChangeShapes Go.WideShapes Go.ChangeAt Go.RowKit Go.Deep
/-- No weight of a datum passes the reach. -/
def Small {H : Type} (t : TypeId) (d : DataW H) : Prop := ∀ n ∈ d.weights Tryd.prog t, n ≤ reachBytes
theorem small_all {H : Type} {e : TypeId} : ∀ {l : List (DataW H)}, (∀ n ∈ DataW.weightsAll Tryd.prog e l, n ≤ reachBytes) → ∀ d ∈ l, Small e d
  | [], _, d, hd => by cases hd
  | x :: l, h, d, hd => by
    simp only [DataW.weightsAll, List.mem_append] at h
    rcases List.mem_cons.1 hd with rfl | hd
    · exact fun n hn => h n (.inl hn)
    · exact small_all (fun n hn => h n (.inr hn)) d hd
theorem small_slice {H : Type} {t e : TypeId} {elems spare : List (DataW H)} (hu : Tryd.prog.underlying t = some (.slice e)) (h : Small t (.slice elems spare)) : (elems.length + spare.length) * Tryd.prog.bytesOf e ≤ reachBytes ∧ (∀ d ∈ elems, Small e d) ∧ ∀ d ∈ spare, Small e d := by
  unfold Small at h
  simp only [DataW.weights, hu, List.mem_cons, List.mem_append] at h
  exact ⟨h _ (.inl rfl), small_all (fun n hn => h n (.inr (.inl hn))), small_all (fun n hn => h n (.inr (.inr hn)))⟩
theorem small_arg {H : Type} {ts : List TypeId} {ds : List (DataW H)} {j : Nat} {t : TypeId} {d : DataW H} (h : (DataW.weightsEach Tryd.prog ts ds).all (· ≤ reachBytes) = true) (ht : ts[j]? = some t) (hd : ds[j]? = some d) : Small t d :=
  fun n hn => by simpa using List.all_eq_true.1 h n (DataW.weights_mem_each ht hd n hn)

theorem small_agg {H : Type} {t : TypeId} {fs : Array Field} {parts : List (DataW H)} (hu : Tryd.prog.underlying t = some (.struct fs)) (h : Small t (.agg parts)) {j : Nat} {u : TypeId} {d : DataW H} (ht : (fs.toList.map (·.type))[j]? = some u) (hd : parts[j]? = some d) : Small u d :=
  fun n hn => h n (by simp only [DataW.weights, hu]; exact DataW.weights_mem_each ht hd n hn)
theorem i64_of_wf {n : Int} (h : (Lit.int .i64 n).wf = true) : -9223372036854775808 ≤ n ∧ n ≤ 9223372036854775807 := by
  simp [Lit.wf, IntKind.min, IntKind.max, IntKind.signed, IntKind.bits] at h
  exact ⟨by omega, by omega⟩
theorem list4 {α : Type} : ∀ {l : List α}, l.length = 4 → ∃ a b c d, l = [a, b, c, d]
  | [a, b, c, d], _ => ⟨a, b, c, d, rfl⟩
theorem list5 {α : Type} : ∀ {l : List α}, l.length = 5 → ∃ a b c d e, l = [a, b, c, d, e]
  | [a, b, c, d, e], _ => ⟨a, b, c, d, e, rfl⟩
theorem list8 {α : Type} : ∀ {l : List α}, l.length = 8 → ∃ a b c d e f g h, l = [a, b, c, d, e, f, g, h]
  | [a, b, c, d, e, f, g, h], _ => ⟨a, b, c, d, e, f, g, h, rfl⟩
section
variable {H : Type} {enc : TypeId × Value → H} {W : World} {held : Bool} {fuel : Nat}
theorem addr_plain {a : Addr} {v : Value} (h : W.cell? (a.add 0) = some v) : ∃ b o, a = ⟨b, o, none⟩ := by
  obtain ⟨b, o, s⟩ := a
  cases s with
  | none => exact ⟨b, o, rfl⟩
  | some x =>
    exfalso
    unfold Addr.add World.cell? at h
    simp only [if_true] at h
    split at h
    · simp at h
    · cases h
theorem byte_of_wf {n : Int} (h : (Lit.int .u8 n).wf = true) : n = ((UInt8.ofNat n.toNat).toNat : Int) := by
  simp [Lit.wf, IntKind.min, IntKind.max, IntKind.signed, IntKind.bits] at h
  rw [UInt8.toNat_ofNat']
  omega
/-- A row of bytes. -/
theorem open_bytes {v : Value} {d : DataW H} {pl : List MemPlace} (h : DataW.trod enc Tryd.prog W 0 (fun _ => true) held fuel 35 [v] = some (d, pl)) (hs : Small 35 d) :
    ∃ a xs cap, v = .slice a xs.length cap ∧ Byt W a xs ∧ xs.length ≤ cap ∧ xs.length ≤ 140737488351232 := by
  rcases open_ints Tryd.underlying35 Tryd.underlying5 (by kernel_rfl) h with ⟨hcs, _⟩ | ⟨a, l, c, zs, hcs, _, hl, hm, hz, hx, hcell, hwz⟩
  · simp only [List.cons.injEq, and_true] at hcs
    subst hcs
    exact ⟨none, [], 0, rfl, Byt.nil _ _, Nat.le_refl _, Nat.zero_le _⟩
  · simp only [List.cons.injEq, and_true] at hcs
    subst hcs
    simp only [if_true] at hz
    simp only [Prod.mk.injEq] at hx
    obtain ⟨rfl, _⟩ := hx
    have hr := (small_slice Tryd.underlying35 hs).1
    rw [show Tryd.prog.bytesOf 5 = 1 by kernel_rfl, lits, lits, List.length_map, List.length_map, List.length_take, List.length_drop, Nat.mul_one] at hr
    have hl2 : ((zs.take l).map fun n => UInt8.ofNat n.toNat).length = l := by rw [List.length_map, List.length_take]; omega
    refine ⟨some a, (zs.take l).map fun n => UInt8.ofNat n.toNat, c, by rw [hl2], ?_, by rw [hl2]; exact hl, by rw [hl2]; show l ≤ reachBytes; omega⟩
    intro i hi
    rw [hl2] at hi
    have hc := hcell i (by omega)
    have h0 := hcell 0 (by omega)
    obtain ⟨b, o, rfl⟩ := addr_plain h0
    refine ⟨b, o, rfl, ?_⟩
    rw [Addr.add_lit] at hc
    rw [hc]
    have hi2 : i < zs.length := by omega
    have hw := byte_of_wf (hwz (zs[i]) (List.getElem_mem hi2))
    simp only [List.getElem_map, List.getElem_take]
    rw [← hw]
    simp [List.getD, hi2]
/-- A byte, opened. -/
theorem open_byte {c : Value} {y : DataW H × List MemPlace} (h : DataW.trod enc Tryd.prog W 0 (fun _ => true) held fuel 5 [c] = some y) : ∃ z : UInt8, c = .int .u8 (z.toNat : Int) := by
  obtain ⟨z, q, _, w⟩ := DataW.trod_int Tryd.underlying5 h
  simp only [List.cons.injEq, and_true] at q
  subst q
  exact ⟨_, by rw [← byte_of_wf w]⟩
end
end Go.Proofs.YtnbpkignkfabkaaDoor
/- What came in, opened: rows of rows. -/
namespace Go.Proofs.YtnbpkignkfabkaaDoor
open Go.ChangeShapes Go.WideShapes Go.ChangeAt Go.RowKit Go.Deep
section
variable {H : Type} {enc : TypeId × Value → H} {W : World} {held : Bool} {fuel : Nat}
/-- A row of rows of bytes. -/
theorem open_rows {v : Value} {d : DataW H} {pl : List MemPlace} (h : DataW.trod enc Tryd.prog W 0 (fun _ => true) held fuel 22 [v] = some (d, pl)) (hs : Small 22 d) :
    ∃ a xss cap Af Cf, v = .slice a xss.length cap ∧ Rd2 W a xss Af Cf ∧ xss.length ≤ cap ∧ xss.length ≤ 140737488351232 := by
  rcases open_slice1 Tryd.underlying22 (by kernel_rfl) h with ⟨hcs, _⟩ | ⟨a, len, cap, m, n, V, D, Pl, hcs, _, hl, hm, hmm, hx, hel⟩
  · simp only [List.cons.injEq, and_true] at hcs
    subst hcs
    exact ⟨none, [], 0, fun _ => none, fun _ => 0, rfl, ⟨fun i hi => absurd hi (Nat.not_lt_zero _), fun i hi => absurd hi (Nat.not_lt_zero _), fun i hi => absurd hi (Nat.not_lt_zero _), fun i hi => absurd hi (Nat.not_lt_zero _)⟩, Nat.le_refl _, Nat.zero_le _⟩
  · simp only [List.cons.injEq, and_true] at hcs
    subst hcs
    simp only [if_true] at hmm
    obtain rfl := hmm.symm
    simp only [Prod.mk.injEq] at hx
    obtain ⟨rfl, _⟩ := hx
    obtain ⟨hw, hse, _⟩ := small_slice Tryd.underlying22 hs
    rw [show Tryd.prog.bytesOf 35 = 24 by kernel_rfl] at hw
    simp only [List.length_map, List.length_range] at hw
    have hlen : len * 24 ≤ 140737488351232 := by
      have : reachBytes = 140737488351232 := rfl
      omega
    have key : ∀ i, i < len → ∃ q : Option Addr × List UInt8 × Nat, V i = .slice q.1 q.2.1.length q.2.2 ∧ Byt W q.1 q.2.1 ∧ q.2.1.length ≤ q.2.2 ∧ q.2.1.length ≤ 140737488351232 := by
      intro i hi
      obtain ⟨ai, xi, ci, h1, h2, h3, h4⟩ := open_bytes (hel i (by omega)).2 (hse (D i) (List.mem_map.2 ⟨i, List.mem_range.2 hi, rfl⟩))
      exact ⟨(ai, xi, ci), h1, h2, h3, h4⟩
    obtain ⟨q, hq⟩ := choose_lt key
    have hl2 : ((List.range len).map fun i => (q i).2.1).length = len := by simp
    have hg : ∀ i (h : i < ((List.range len).map fun i => (q i).2.1).length), ((List.range len).map fun i => (q i).2.1)[i] = (q i).2.1 := fun i h => by simp
    refine ⟨some a, (List.range len).map fun i => (q i).2.1, _, fun i => (q i).1, fun i => (q i).2.2, by rw [hl2], ⟨?_, ?_, ?_, ?_⟩, by rw [hl2]; exact hl, by rw [hl2]; omega⟩
    · intro i hi
      rw [hg i hi]
      rw [hl2] at hi
      have hc := (hel i (by omega)).1
      obtain ⟨b, o, rfl⟩ := addr_plain (hel 0 (by omega)).1
      rw [Addr.add_lit] at hc
      exact ⟨b, o, rfl, by rw [hc, (hq i hi).1]⟩
    · intro i hi
      rw [hg i hi]
      exact (hq i (by rw [hl2] at hi; exact hi)).2.1
    · intro i hi
      rw [hg i hi]
      exact (hq i (by rw [hl2] at hi; exact hi)).2.2.1
    · intro i hi
      rw [hg i hi]
      exact Nat.le_trans (hq i (by rw [hl2] at hi; exact hi)).2.2.2 (by decide)
end
end Go.Proofs.YtnbpkignkfabkaaDoor
namespace Go.Proofs.YtnbpkignkfabkaaDoor
open Go.ChangeShapes Go.WideShapes Go.ChangeAt Go.RowKit Go.Deep
section
variable {H : Type} {enc : TypeId × Value → H} {W : World} {held : Bool} {fuel : Nat}
end
end Go.Proofs.YtnbpkignkfabkaaDoor
