/- disk.names: the files' names in order. -/
import Derived.Test.YtcmllfnhdodbdaaDoorRep
import Derived.Test.YtcmllfnhdodbdaaDoorSortL
import Derived.Maps.RangeWalk
import Derived.Sort.MapsRangeIn
namespace Go.Proofs.YtcmllfnhdodbdaaDoor
set_option linter.unusedVariables false
set_option linter.unusedSimpArgs false
open Go.RowKit Go.Maps
def strs (l : List (List UInt8)) : List Value := l.map fun s => Value.string ⟨s.toArray⟩
theorem strs_length (l : List (List UInt8)) : (strs l).length = l.length := by simp [strs]
theorem strs_get {l : List (List UInt8)} {i : Nat} (h : i < l.length) : (strs l)[i]? = some (.string ⟨l[i].toArray⟩) := by simp [strs, h]
theorem strs_snoc (l : List (List UInt8)) (x : List UInt8) : strs l ++ [.string ⟨x.toArray⟩] = strs (l ++ [x]) := by simp [strs]
theorem infoStr : (Tryd.prog.info? 9).map (fun i => (i.zero, i.size, i.bytes)) = some (some (.string ⟨#[]⟩), 1, 16) := by kernel_rfl
theorem key_inv {v : Value} {kl : Lit} (h : keyOf Tryd.prog 9 v = some kl) : ∃ x : List UInt8, v = .string ⟨x.toArray⟩ := by
  obtain ⟨s, rfl⟩ := Maps.keyOf_string_inv Tryd.underlying9 h
  exact ⟨s.data.toList, by congr⟩
theorem key_inv2 {x : List UInt8} {kl : Lit} (h : keyOf Tryd.prog 9 (.string ⟨x.toArray⟩) = some kl) : kl = key x := by
  simp [keyOf, mapKey, Tryd.underlying9] at h
  exact h.2.symm
theorem same_key (a b : List UInt8) : (key a).sameKey (key b) = (a == b) := rfl
theorem perm_nodup {α : Type} [DecidableEq α] : ∀ {l l' : List α}, l.Nodup → l'.Nodup → (∀ x, x ∈ l ↔ x ∈ l') → l.Perm l'
  | [], l', _, _, h => by
    cases l' with
    | nil => exact List.Perm.refl _
    | cons y l' => exact absurd ((h y).2 (by simp)) (by simp)
  | x :: l, l', h1, h2, h => by
    rw [List.nodup_cons] at h1
    have hx : x ∈ l' := (h x).1 (by simp)
    have p := List.perm_cons_erase hx
    refine List.Perm.trans (List.Perm.cons x (perm_nodup h1.2 (h2.sublist List.erase_sublist) ?_)) p.symm
    intro y
    rw [h2.mem_erase_iff]
    constructor
    · intro hy
      exact ⟨fun e => h1.1 (by rw [← e]; exact hy), (h y).1 (List.mem_cons_of_mem _ hy)⟩
    · rintro ⟨hne, hy⟩
      rcases List.mem_cons.1 ((h y).2 hy) with e | e
      · exact absurd e hne
      · exact e
/-- The names in order. -/
def nmsC (C : Con) : List (List UInt8) := C.map (·.1)
theorem sorted_names {C : Con} (h : SortedC C) {l : List (List UInt8)} (hp : l.Perm (nmsC C)) : l.mergeSort (fun x y => decide (x ≤ y)) = nmsC C := by
  have hp2 : (l.mergeSort (fun x y => decide (x ≤ y))).Perm (nmsC C) := (List.mergeSort_perm l _).trans hp
  have hs : (l.mergeSort (fun x y => decide (x ≤ y))).Pairwise (fun x y => decide (x ≤ y) = true) := List.pairwise_mergeSort (fun a b c h1 h2 => by
    rw [decide_eq_true_iff] at h1 h2 ⊢; exact List.le_trans h1 h2) (fun a b => by
    rw [Bool.or_eq_true, decide_eq_true_iff, decide_eq_true_iff]; exact List.le_total a b) l
  have hs2 : (nmsC C).Pairwise (fun x y => decide (x ≤ y) = true) := by
    unfold nmsC
    rw [List.pairwise_map]
    refine List.Pairwise.imp ?_ h
    intro a b hab
    rw [decide_eq_true_iff]
    exact List.le_of_lt hab
  exact hp2.eq_of_pairwise (fun a b _ _ h1 h2 => List.le_antisymm (of_decide_eq_true h1) (of_decide_eq_true h2)) hs hs2
open Go.Sort in
/-- A row of strings behind a sort. -/
theorem own_sorted {w : World} {base g n cap k : Nat} {l l' : List (List UInt8)} {os : Array Obj} (h : Own w base 9 1 (.slice (some ⟨g, 0, none⟩) n cap) n (strs l)) (hl : l'.length = n) :
    Own (grow (putRow encStr (Sort.ahead w k) g 0 l'.toArray) os) base 9 1 (.slice (some ⟨g, 0, none⟩) n cap) n (strs l') ∧ Upd (fun i => i = g) w (grow (putRow encStr (Sort.ahead w k) g 0 l'.toArray) os) := by
  rcases h.2 with ⟨hv, _⟩ | ⟨g', cap', cur, fr, hv, hb, hg, hf, hnc, hcm, hcs, ht⟩
  · cases hv
  · cases hv
    have hlt := lt_of_block hg
    have hh : (grow (putRow encStr (Sort.ahead w k) g 0 l'.toArray) os).heap = w.heap.modify g (onCells (putCells encStr 0 l'.toArray)) ++ os := rfl
    have hget : ∀ i, i < w.heap.size → (grow (putRow encStr (Sort.ahead w k) g 0 l'.toArray) os).heap[i]? = (w.heap.modify g (onCells (putCells encStr 0 l'.toArray)))[i]? := by
      intro i hi
      rw [hh, Array.getElem?_append_left (by simpa using hi)]
    have hsame : ∀ i, i < w.heap.size → i ≠ g → (grow (putRow encStr (Sort.ahead w k) g 0 l'.toArray) os).heap[i]? = w.heap[i]? := by
      intro i hi hne
      rw [hget i hi, Array.getElem?_modify, if_neg (fun e => hne e.symm)]
    have hblk : (grow (putRow encStr (Sort.ahead w k) g 0 l'.toArray) os).heap[g]? = some (.cells (putCells encStr 0 l'.toArray cur) 9 fr) := by
      rw [hget g hlt, Array.getElem?_modify, if_pos rfl, hg]
      rfl
    have hps : (putCells encStr 0 l'.toArray cur).size = cur.size := by simp [putCells]
    refine ⟨⟨by rw [strs_length, hl, Nat.mul_one], .inr ⟨g, cap, _, fr, rfl, hb, hblk, by rw [hps]; exact hf, hnc, hcm, by rw [hps]; exact hcs, ?_⟩⟩, ⟨rfl, rfl, rfl, ?_, fun i hi hne => hsame i hi hne⟩⟩
    · apply List.ext_getElem?
      intro i
      rw [List.getElem?_take]
      by_cases hi : i < n * 1
      · rw [if_pos hi]
        have hil : i < l'.length := by omega
        have hic : i < cur.size := by rw [hcs]; omega
        rw [strs_get hil, Array.getElem?_toList]
        unfold putCells
        rw [Array.getElem?_mapIdx, Array.getElem?_eq_getElem hic, Option.map_some, if_pos ⟨Nat.zero_le _, by rw [List.size_toArray]; omega⟩]
        rw [Nat.sub_zero, getElem!_pos _ i (by rw [List.size_toArray]; exact hil)]
        rfl
      · rw [if_neg hi]
        rw [List.getElem?_eq_none]
        rw [strs_length]; omega
    · rw [hh]; simp
end Go.Proofs.YtcmllfnhdodbdaaDoor
