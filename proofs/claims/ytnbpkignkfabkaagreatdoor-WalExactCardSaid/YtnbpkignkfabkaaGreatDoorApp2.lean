/- append onto a row of the call's own, and what becomes of shorter rows in the same block. No program in sight but its table of types. -/
import Derived.Test.YtnbpkignkfabkaaGreatDoorBase
namespace Go.Proofs.YtnbpkignkfabkaaGreatDoor
set_option linter.unusedVariables false
set_option linter.unusedSimpArgs false
open Go.RowKit
/-- The first cells of a block are as they were. -/
def Pre (n : Nat) (w w' : World) (g : Nat) : Prop := ∀ cur e fr, w.heap[g]? = some (.cells cur e fr) → ∃ cur', w'.heap[g]? = some (.cells cur' e fr) ∧ cur'.size = cur.size ∧ cur'.toList.take n = cur.toList.take n
theorem Pre.same {n : Nat} {w w' : World} {g : Nat} (h : w'.heap[g]? = w.heap[g]?) : Pre n w w' g := fun cur _ _ hc => ⟨cur, h.trans hc, rfl, rfl⟩
section
variable {w w' : World} {base base' : Nat} {e : TypeId} {size : Nat} {v : Value} {n m : Nat} {xs : List Value}
theorem Own.preN (h : Own w base e size v m xs) (hm : m * size ≤ n) (hp : ∀ g, v.ownBlock = some g → Pre n w w' g) : Own w' base e size v m xs := by
  refine ⟨h.1, ?_⟩
  rcases h.2 with hn | ⟨g, cap, cur, fr, rfl, hb, hg, hf, h1, h2, h3, h4⟩
  · exact .inl hn
  · obtain ⟨cur', c1, c2, c3⟩ := hp g rfl cur e fr hg
    refine .inr ⟨g, cap, cur', fr, rfl, hb, c1, by rw [c2]; exact hf, h1, h2, by rw [c2]; exact h3, ?_⟩
    rw [← h4, ← Nat.min_eq_left hm, ← List.take_take, ← List.take_take, c3]
end
theorem run_append_any2 {P : Program} (w : World) (base : Nat) (t tx ty e : TypeId) (i : TypeInfo) (z : Value) (size bytes : Nat) (ht : P.underlying t = some (.slice e)) (hi : P.info? e = some i) (hz : i.zero = some z)
    (hsize : i.size = size) (hby : i.bytes = bytes) (hzs : z.cells.size = size)
    (v : Value) (n : Nat) (xs : List Value) (hown : Own w base e size v n xs) (x : Value) (m : Nat) (news : List Value) (hs : Src P size tx x m news w)
    (h63 : n + m ≤ maxLen) (hbytes : (n + m) * bytes ≤ 140737488355328) (hbase : base ≤ w.heap.size) :
    ∃ v' w', (Builtin.append_ #[t, tx] ty #[v, x]).run P w = .ok v' w' ∧ Own w' base e size v' (n + m) (xs ++ news) ∧ w.grownBy w' v.ownBlock ∧
      (v'.ownBlock = v.ownBlock ∨ v'.ownBlock = some w.heap.size) ∧ ∀ g, v.ownBlock = some g → Pre (n * size) w w' g := by
  subst hsize
  subst hby
  have hsmall : n + m ≤ 9223372036854775807 := by simp only [maxLen] at h63; omega
  have grows : ∀ (old : Nat) (row : Option Nat) (base' : Option Addr), old < n + m → (Builtin.firstCells i.size n (.slice base' n old)).run P w.drew = .ok xs.toArray w.drew →
      ∃ v' w', (Builtin.append_ #[t, tx] ty #[.slice base' n old, x]).run P w = .ok v' w' ∧ Own w' base e i.size v' (n + m) (xs ++ news) ∧ w.grownBy w' row ∧ v' = .slice (some ⟨w.heap.size, 0, none⟩) (n + m) (grownCap w (n + m) old e) ∧ ∀ g, g < w.heap.size → w'.heap[g]? = w.heap[g]? := by
    intro old row base' ho hf
    exact ⟨_, _, run_append_grow_src w t tx ty e i z ht hi hz base' n old xs hf x m news hs ho (by omega) (growslice_fits ho hbytes), own_grown_new hzs hown.1 hs.newsLen old h63 hbase, ⟨rfl, rfl, rfl, by simp, fun k hk _ => Below.heap_alloc w.drew _ k hk⟩, rfl, fun k hk => Below.heap_alloc w.drew _ k hk⟩
  rcases hown.2 with ⟨rfl, rfl⟩ | ⟨g, cap, cur, fr, rfl, hbg, hg, hfr, hnc, hcm, hcs, htake⟩
  · have hx : xs = [] := List.eq_nil_of_length_eq_zero (by simpa using hown.1)
    subst hx
    by_cases hm : m = 0
    · subst hm
      have hn : news = [] := List.eq_nil_of_length_eq_zero (by simpa using hs.newsLen)
      subst hn
      refine ⟨.slice none 0 0, w, ?_, Own.nil w base e i.size, ⟨rfl, rfl, rfl, Nat.le_refl _, fun _ _ _ => rfl⟩, .inl rfl, fun g hg => by cases hg⟩
      have lenNil : ∀ w' : World, (Builtin.lenOf (.slice none 0 0)).run P w' = .ok 0 w' := fun _ => rfl
      rcases hs.kind with ⟨e', hk⟩ | hk <;> simp [Builtin.append_, run_underlying ht, run_underlying hk, sizeOf, typeInfo, hi, lenNil, hs.len, hs.cells]
    · obtain ⟨v', w', h1, h2, h3, rfl, _⟩ := grows 0 (Value.ownBlock (.slice none 0 0)) none (by omega) (run_firstCells_none w.drew i.size 0 0 0)
      exact ⟨_, _, h1, h2, h3, .inr rfl, fun g hg => by cases hg⟩
  · by_cases hroom : n + m ≤ cap
    · have hfit : n * i.size + news.length ≤ cur.size := by rw [hs.newsLen, hcs, ← Nat.add_mul]; exact Nat.mul_le_mul_right _ hroom
      have hin : ∀ j, j < news.length → 0 + n * i.size + j < cur.size := fun j hj => by omega
      have hr := run_append_room_src w t tx ty e i ht hi g 0 n cap x m news hs hroom (fun j hj => by rw [cell_of_row' hg, Array.getElem?_eq_getElem (hin j hj)]; rfl) (fun j hj => by
        have := hfr _ (hin j hj)
        obtain ⟨lo, hi⟩ := fr
        simp only [World.frozen?, hg]
        simp only at this
        simp only [Bool.and_eq_false_iff, decide_eq_false_iff_not]
        omega)
      rw [Nat.zero_add] at hr
      obtain ⟨cur', h1, h2, h3⟩ := setCells_heap g news (n * i.size) w cur e fr hg hfit
      have hu := setCells_upd g news (n * i.size) w
      refine ⟨_, _, hr, ⟨by rw [List.length_append, hown.1, hs.newsLen, Nat.add_mul], .inr ⟨g, cap, cur', fr, rfl, hbg, h1, by rw [h2]; exact hfr, hroom, hcm, by rw [h2]; exact hcs, ?_⟩⟩, ⟨hu.os, hu.tape, hu.output, hu.size, fun k hk hn => hu.block k hk (fun e => hn (by simp [Value.ownBlock, e]))⟩, .inl rfl, ?_⟩
      · rw [h3, htake, Nat.add_mul, ← hown.1, ← hs.newsLen, ← List.length_append]
        exact List.take_left
      · intro g' hg'
        cases hg'
        intro cur2 e2 fr2 hc2
        rw [hg] at hc2
        cases hc2
        refine ⟨cur', h1, h2, ?_⟩
        rw [h3, List.append_assoc, List.take_append_of_le_length (by simp; omega), List.take_take, Nat.min_self]
    · have hf : (Builtin.firstCells i.size n (.slice (some ⟨g, 0, none⟩) n cap)).run P w.drew = .ok xs.toArray w.drew :=
        run_firstCells_some w.drew i.size n ⟨g, 0, none⟩ n cap xs hown.1 (by
          intro j u hu
          have := hown.cells (g := g) rfl j u hu
          rw [Addr.add_lit, Nat.zero_add]
          simpa using this)
      obtain ⟨v', w', h1, h2, h3, rfl, h5⟩ := grows cap (Value.ownBlock (.slice (some ⟨g, 0, none⟩) n cap)) (some ⟨g, 0, none⟩) (by omega) hf
      exact ⟨_, _, h1, h2, h3, .inr rfl, fun k hk => by cases hk; exact Pre.same (h5 g (lt_of_block hg))⟩
theorem wpList_append2 {P : Program} {ops : Array Oper} {rest : List Oper} {o : Oper} {a : Act} {w : World} {Q : Exit → Act → World → Prop} (hg : o.guard = none) (s x : Operand) (t tx : TypeId)
    (hop : o.op = Op.call { callee := Callee.builtin Builtin.append, args := #[s, x], argTypes := #[t, tx] })
    (base : Nat) (e : TypeId) (z : Value) (size bytes : Nat) (ht : P.underlying t = some (.slice e)) (hi : (P.info? e).map (fun i => (i.zero, i.size, i.bytes)) = some (some z, size, bytes)) (hzs : z.cells.size = size)
    {v : Value} {n : Nat} {xs : List Value} (hown : Own w base e size v n xs) (hv : a.eval s = v) {xv : Value} {m : Nat} {news : List Value} (hs : Src P size tx xv m news w) (hx : a.eval x = xv)
    (h63 : n + m ≤ maxLen) (hbytes : (n + m) * bytes ≤ 140737488355328) (hbase : base ≤ w.heap.size)
    (h : ∀ v' w', Own w' base e size v' (n + m) (xs ++ news) → w.grownBy w' v.ownBlock → (v'.ownBlock = v.ownBlock ∨ v'.ownBlock = some w.heap.size) → (∀ g, v.ownBlock = some g → Pre (n * size) w w' g) → wpList P ops Q rest (a.put o.dst v') w') :
    wpList P ops Q (o :: rest) a w :=
  wpList_step fun K hK => by
    have hw : Region.wanted o (yielded ops a.tmps) = true := by simp [Region.wanted, hg]
    rw [if_pos hw]
    obtain ⟨i, hi, hz, hsz, hby⟩ := info_parts hi
    obtain ⟨v', w', hr, h2, h3, h4, h5⟩ := run_append_any2 (P := P) w base t tx o.type e i z size bytes ht hi hz hsz hby hzs v n xs hown xv m news hs h63 hbytes hbase
    unfold Oper.wp execOp
    simp only [hop, resolve, invoke, builtin, Sem.run_bind, Sem.run_pure, Result.andThen_ok, List.map_toArray, List.map_cons, List.map_nil, hv, hx, hr]
    exact hK _ _ (h v' w' h2 h3 h4 h5)
end Go.Proofs.YtnbpkignkfabkaaGreatDoor
