/- A Book as it is made. -/
import Derived.Test.YtcmllfnhdodbdaaGreatDoorApp2
import Derived.Test.YtcmllfnhdodbdaaGreatDoorBookNil
import Derived.Laws.Tables
/- posternlaw1.Book: what it keeps, and how it takes a list of bytes. -/
namespace Go.Proofs.YtcmllfnhdodbdaaGreatDoor
set_option linter.unusedVariables false
set_option linter.unusedSimpArgs false
open Go.RowKit
def atE (m : Int) (k : Nat) : Int := if k % 2 = 0 then wrap64 (1 + m.tmod 251) % 256 else wrap64 (1 + (wrap64 (wrap64 (7 * m) + wrap64 (m.tdiv 251))).tmod 251) % 256
/-- The mark's byte at a place. -/
def atB (m : Int) (k : Nat) : UInt8 := UInt8.ofNat (atE m k).toNat
theorem atB_val (m : Int) (k : Nat) : ((atB m k).toNat : Int) = atE m k := by
  have h : 0 ≤ atE m k ∧ atE m k < 256 := by
    unfold atE
    split <;> exact ⟨Int.emod_nonneg _ (by decide), Int.emod_lt_of_pos _ (by decide)⟩
  unfold atB
  rw [UInt8.toNat_ofNat']
  omega
def mks (m : Int) (n : Nat) : List UInt8 := (List.range n).map (atB m)
theorem mks_length (m : Int) (n : Nat) : (mks m n).length = n := by simp [mks]
theorem mks_succ (m : Int) (n : Nat) : mks m (n + 1) = mks m n ++ [atB m n] := by simp [mks, List.range_succ]
theorem mks_get (m : Int) (n i : Nat) (h : i < n) : (mks m n)[i]? = some (atB m i) := by simp [mks, h]
set_option maxRecDepth 100000 in
theorem at_calls (m : Int) (k : Nat) (w : World) (hk : k ≤ 1000000000000) : Calls Tryz.prog 177 #[.int .i64 m, .int .i64 k] w fun r w' => r = .returned (.int .u8 ((atB m k).toNat : Int)) ∧ w = w' := by
  by_cases h : k % 2 = 0
  · have t : (((k : Int) % 2) == 0) = true := by rw [beq_iff_eq]; omega
    have e : ((atB m k).toNat : Int) = wrap64 (1 + m.tmod 251) % 256 := by rw [atB_val]; exact if_pos h
    rw [e]
    clear h e
    go_enter Tryz.func177, Tryz.ntmps177
    go_wp2
    go_ret
    exact ⟨rfl, rfl⟩
  · have t : (((k : Int) % 2) == 0) = false := by rw [beq_eq_false_iff_ne]; omega
    have e : ((atB m k).toNat : Int) = wrap64 (1 + (wrap64 (wrap64 (7 * m) + wrap64 (m.tdiv 251))).tmod 251) % 256 := by rw [atB_val]; exact if_neg h
    rw [e]
    clear h e
    go_enter Tryz.func177, Tryz.ntmps177
    go_wp2
    go_ret
    exact ⟨rfl, rfl⟩
/-- A list that is kept, and its mark. -/
structure Ent where
  a : Option Addr
  n : Nat
  c : Nat
  m : Int
def Ent.val (e : Ent) : Value := .slice e.a e.n e.c
def Ent.mval (e : Ent) : Value := .int .i64 e.m
def Ent.at_ (e : Ent) (k : Nat) : Prop := e.val.ownBlock = some k
/-- What stands in a Book's cells. -/
structure BkC (cur : Array Value) (vb vo : Value) (bat : Nat) (tn dn : Int) (us : Nat) : Prop where
  size : cur.size = 75
  c0 : cur[0]? = some vb
  c1 : cur[1]? = some vo
  c2 : cur[2]? = some (.int .i64 bat)
  cn : ∀ k, 3 ≤ k → k < 72 → cur[k]? = some (nilAt k)
  c72 : cur[72]? = some (.int .i64 tn)
  c73 : cur[73]? = some (.int .i64 dn)
  c74 : cur[74]? = some (.int .i64 us)
section
variable {cur : Array Value} {vb vo : Value} {bat : Nat} {tn dn : Int} {us : Nat}
theorem other {cur : Array Value} {i j : Nat} (v : Value) (h : i ≠ j) : (cur.setIfInBounds i v)[j]? = cur[j]? := by rw [Array.getElem?_setIfInBounds, if_neg h]
theorem here {cur : Array Value} {i : Nat} (v : Value) (h : i < cur.size) : (cur.setIfInBounds i v)[i]? = some v := by rw [Array.getElem?_setIfInBounds, if_pos rfl, if_pos h]
theorem BkC.s0 (h : BkC cur vb vo bat tn dn us) (v : Value) : BkC (cur.setIfInBounds 0 v) v vo bat tn dn us :=
  ⟨by simpa using h.size, here v (by rw [h.size]; decide), (other v (by decide)).trans h.c1, (other v (by decide)).trans h.c2, fun k a b => (other v (by omega)).trans (h.cn k a b), (other v (by decide)).trans h.c72, (other v (by decide)).trans h.c73, (other v (by decide)).trans h.c74⟩
theorem BkC.s1 (h : BkC cur vb vo bat tn dn us) (v : Value) : BkC (cur.setIfInBounds 1 v) vb v bat tn dn us :=
  ⟨by simpa using h.size, (other v (by decide)).trans h.c0, here v (by rw [h.size]; decide), (other v (by decide)).trans h.c2, fun k a b => (other v (by omega)).trans (h.cn k a b), (other v (by decide)).trans h.c72, (other v (by decide)).trans h.c73, (other v (by decide)).trans h.c74⟩
theorem BkC.s2 (h : BkC cur vb vo bat tn dn us) (n : Nat) : BkC (cur.setIfInBounds 2 (.int .i64 n)) vb vo n tn dn us :=
  ⟨by simpa using h.size, (other _ (by decide)).trans h.c0, (other _ (by decide)).trans h.c1, here _ (by rw [h.size]; decide), fun k a b => (other _ (by omega)).trans (h.cn k a b), (other _ (by decide)).trans h.c72, (other _ (by decide)).trans h.c73, (other _ (by decide)).trans h.c74⟩
theorem BkC.s72 (h : BkC cur vb vo bat tn dn us) (n : Int) : BkC (cur.setIfInBounds 72 (.int .i64 n)) vb vo bat n dn us :=
  ⟨by simpa using h.size, (other _ (by decide)).trans h.c0, (other _ (by decide)).trans h.c1, (other _ (by decide)).trans h.c2, fun k a b => (other _ (by omega)).trans (h.cn k a b), here _ (by rw [h.size]; decide), (other _ (by decide)).trans h.c73, (other _ (by decide)).trans h.c74⟩
theorem BkC.s73 (h : BkC cur vb vo bat tn dn us) (n : Int) : BkC (cur.setIfInBounds 73 (.int .i64 n)) vb vo bat tn n us :=
  ⟨by simpa using h.size, (other _ (by decide)).trans h.c0, (other _ (by decide)).trans h.c1, (other _ (by decide)).trans h.c2, fun k a b => (other _ (by omega)).trans (h.cn k a b), (other _ (by decide)).trans h.c72, here _ (by rw [h.size]; decide), (other _ (by decide)).trans h.c74⟩
theorem BkC.s74 (h : BkC cur vb vo bat tn dn us) (n : Nat) : BkC (cur.setIfInBounds 74 (.int .i64 n)) vb vo bat tn dn n :=
  ⟨by simpa using h.size, (other _ (by decide)).trans h.c0, (other _ (by decide)).trans h.c1, (other _ (by decide)).trans h.c2, fun k a b => (other _ (by omega)).trans (h.cn k a b), (other _ (by decide)).trans h.c72, (other _ (by decide)).trans h.c73, here _ (by rw [h.size]; decide)⟩
end
/-- The book: its lists (E in its rows, E2 in its marks); those from lo to hi share their memory with no other; it touches nothing of Pr. -/
structure Bk (w : World) (base : Nat) (Pr : Nat → Prop) (bb : Nat) (E E2 : List Ent) (lo hi : Nat) (vb vo : Value) (bat : Nat) (tn dn : Int) (us : Nat) : Prop where
  blk : ∃ cur, w.heap[bb]? = some (.cells cur 112 (0, 0)) ∧ BkC cur vb vo bat tn dn us
  bbge : base ≤ bb
  rows : Own w base 33 1 vb E.length (E.map Ent.val)
  ofs : Own w base 3 1 vo E2.length (E2.map Ent.mval)
  ent : ∀ e ∈ E, Own w base 5 1 e.val e.n (bys (mks e.m e.n))
  ee : ∀ e ∈ E, ∀ f ∈ E, ∀ k, e.at_ k → f.at_ k → e.m = f.m
  uq : ∀ i j, lo ≤ i → i < hi → i ≠ j → ∀ e f, E[i]? = some e → E[j]? = some f → ∀ k, e.at_ k → ¬ f.at_ k
  pr : ∀ k, Pr k → k < w.heap.size ∧ k ≠ bb ∧ vb.ownBlock ≠ some k ∧ vo.ownBlock ≠ some k ∧ ∀ e ∈ E, ¬ e.at_ k
  en : ∀ i e, E[i]? = some e → e.n ≤ 16777312 ∧ (lo ≤ i → i < hi → e.n ≤ 16777216)
def BkF (bb : Nat) (vb vo : Value) (E : List Ent) (k : Nat) : Prop := k = bb ∨ vb.ownBlock = some k ∨ vo.ownBlock = some k ∨ ∃ e ∈ E, e.at_ k
theorem Own.not_at {w : World} {base : Nat} {e e' : TypeId} {size n : Nat} {v : Value} {xs : List Value} (h : Own w base e size v n xs) {b : Nat} {cur : Array Value} {fr : Nat × Nat} (hb : w.heap[b]? = some (.cells cur e' fr)) (hne : e' ≠ e) : v.ownBlock ≠ some b := by
  intro hv
  rcases h.2 with ⟨rfl, _⟩ | ⟨g, cap, cur', fr', rfl, _, hg, _⟩
  · cases hv
  · cases hv
    rw [hb] at hg
    injection hg with hg
    injection hg with _ hg _
    exact hne hg
section
variable {w w' : World} {base : Nat} {Pr : Nat → Prop} {bb : Nat} {E E2 : List Ent} {lo hi : Nat} {vb vo : Value} {bat : Nat} {tn dn : Int} {us : Nat}
theorem Bk.en1 (h : Bk w base Pr bb E E2 lo hi vb vo bat tn dn us) : ∀ e ∈ E, e.n ≤ 16777312 := fun e he => by obtain ⟨i, hi⟩ := List.getElem?_of_mem he; exact (h.en i e hi).1
theorem Bk.bblt (h : Bk w base Pr bb E E2 lo hi vb vo bat tn dn us) : bb < w.heap.size := by obtain ⟨cur, hc, _⟩ := h.blk; exact lt_of_block hc
theorem Bk.foot (h : Bk w base Pr bb E E2 lo hi vb vo bat tn dn us) : ∀ k, BkF bb vb vo E k → base ≤ k ∧ k < w.heap.size ∧ ¬ Pr k := by
  rintro k (rfl | hk | hk | ⟨e, he, hk⟩)
  · exact ⟨h.bbge, h.bblt, fun hp => (h.pr k hp).2.1 rfl⟩
  · exact ⟨(h.rows.lt k hk).1, (h.rows.lt k hk).2, fun hp => (h.pr k hp).2.2.1 hk⟩
  · exact ⟨(h.ofs.lt k hk).1, (h.ofs.lt k hk).2, fun hp => (h.pr k hp).2.2.2.1 hk⟩
  · exact ⟨((h.ent e he).lt k hk).1, ((h.ent e he).lt k hk).2, fun hp => (h.pr k hp).2.2.2.2 e he hk⟩
theorem Bk.upd {S : Nat → Prop} (h : Bk w base Pr bb E E2 lo hi vb vo bat tn dn us) (hu : Upd S w w') (hs : ∀ k, S k → ¬ BkF bb vb vo E k) : Bk w' base Pr bb E E2 lo hi vb vo bat tn dn us := by
  obtain ⟨cur, hc, hk⟩ := h.blk
  exact ⟨⟨cur, (hu.block bb h.bblt (fun s => hs _ s (.inl rfl))).trans hc, hk⟩, h.bbge, h.rows.upd hu (fun k e s => hs _ s (.inr (.inl e))), h.ofs.upd hu (fun k e s => hs _ s (.inr (.inr (.inl e)))),
    fun e he => (h.ent e he).upd hu (fun k hk s => hs _ s (.inr (.inr (.inr ⟨e, he, hk⟩)))), h.ee, h.uq, fun k hp => ⟨Nat.lt_of_lt_of_le (h.pr k hp).1 hu.size, (h.pr k hp).2⟩, h.en⟩
theorem Bk.cellAt (h : Bk w base Pr bb E E2 lo hi vb vo bat tn dn us) : ∃ cur, (∀ j, w.cell? ⟨bb, j, none⟩ = cur[j]?) ∧ BkC cur vb vo bat tn dn us := by
  obtain ⟨cur, hc, hk⟩ := h.blk
  exact ⟨cur, fun j => cell_of_row' hc, hk⟩
theorem Bk.froz (h : Bk w base Pr bb E E2 lo hi vb vo bat tn dn us) (j : Nat) : w.frozen? ⟨bb, j, none⟩ = false := by
  obtain ⟨cur, hc, _⟩ := h.blk
  exact frozen_of_row hc j
theorem Bk.nilB (h : Bk w base Pr bb E E2 lo hi vb vo bat tn dn us) : NilB w bb := by
  obtain ⟨cur, hc, hk⟩ := h.cellAt
  exact ⟨fun k a b => (hc k).trans (hk.cn k a b), fun k _ => h.froz k⟩
theorem Bk.k0 (h : Bk w base Pr bb E E2 lo hi vb vo bat tn dn us) : w.cell? ⟨bb, 0, none⟩ = some vb := by obtain ⟨cur, hc, hk⟩ := h.cellAt; exact (hc 0).trans hk.c0
theorem Bk.k1 (h : Bk w base Pr bb E E2 lo hi vb vo bat tn dn us) : w.cell? ⟨bb, 1, none⟩ = some vo := by obtain ⟨cur, hc, hk⟩ := h.cellAt; exact (hc 1).trans hk.c1
theorem Bk.k2 (h : Bk w base Pr bb E E2 lo hi vb vo bat tn dn us) : w.cell? ⟨bb, 2, none⟩ = some (.int .i64 bat) := by obtain ⟨cur, hc, hk⟩ := h.cellAt; exact (hc 2).trans hk.c2
theorem Bk.k72 (h : Bk w base Pr bb E E2 lo hi vb vo bat tn dn us) : w.cell? ⟨bb, 72, none⟩ = some (.int .i64 tn) := by obtain ⟨cur, hc, hk⟩ := h.cellAt; exact (hc 72).trans hk.c72
theorem Bk.k73 (h : Bk w base Pr bb E E2 lo hi vb vo bat tn dn us) : w.cell? ⟨bb, 73, none⟩ = some (.int .i64 dn) := by obtain ⟨cur, hc, hk⟩ := h.cellAt; exact (hc 73).trans hk.c73
theorem Bk.k74 (h : Bk w base Pr bb E E2 lo hi vb vo bat tn dn us) : w.cell? ⟨bb, 74, none⟩ = some (.int .i64 us) := by obtain ⟨cur, hc, hk⟩ := h.cellAt; exact (hc 74).trans hk.c74
theorem Bk.put (h : Bk w base Pr bb E E2 lo hi vb vo bat tn dn us) (j : Nat) (u : Value) {bat' : Nat} {tn' dn' : Int} {us' : Nat} (hc : ∀ cur, BkC cur vb vo bat tn dn us → BkC (cur.setIfInBounds j u) vb vo bat' tn' dn' us') :
    Bk (w.setCell ⟨bb, j, none⟩ u) base Pr bb E E2 lo hi vb vo bat' tn' dn' us' := by
  obtain ⟨cur, hh, hk⟩ := h.blk
  have hu : Upd (fun k => k = bb) w (w.setCell ⟨bb, j, none⟩ u) := (Upd.refl (fun k => k = bb) w).setCell (p := ⟨bb, j, none⟩) (fun _ => rfl) u
  have n1 : vb.ownBlock ≠ some bb := h.rows.not_at hh (by decide)
  have n2 : vo.ownBlock ≠ some bb := h.ofs.not_at hh (by decide)
  have n3 : ∀ e ∈ E, ¬ e.at_ bb := fun e he => (h.ent e he).not_at hh (by decide)
  refine ⟨⟨cur.setIfInBounds j u, ?_, hc cur hk⟩, h.bbge, h.rows.upd hu (fun k e s => n1 (by rw [e, s])), h.ofs.upd hu (fun k e s => n2 (by rw [e, s])),
    fun e he => (h.ent e he).upd hu (fun k hk s => n3 e he (by rw [← s]; exact hk)), h.ee, h.uq, fun k hp => ⟨Nat.lt_of_lt_of_le (h.pr k hp).1 hu.size, (h.pr k hp).2⟩, h.en⟩
  have hg : bb < w.heap.size := lt_of_block hh
  have hv : w.heap[bb] = .cells cur 112 (0, 0) := (Array.getElem?_eq_some_iff.1 hh).2
  show (w.heap.modify bb _)[bb]? = _
  rw [Array.getElem?_eq_getElem (by simpa using hg), Array.getElem_modify_self, hv]
  rfl
end
end Go.Proofs.YtcmllfnhdodbdaaGreatDoor
namespace Go.Proofs.YtcmllfnhdodbdaaGreatDoor
set_option linter.unusedVariables false
set_option linter.unusedSimpArgs false
open Go.RowKit
def zBook : Array Value := #[.slice none 0 0, .slice none 0 0, .int .i64 0, .slice none 0 0, .slice none 0 0, .int .i64 0, .slice none 0 0, .slice none 0 0, .int .i64 0, .slice none 0 0, .slice none 0 0, .int .i64 0, .slice none 0 0, .slice none 0 0, .int .i64 0, .slice none 0 0, .slice none 0 0, .int .i64 0, .slice none 0 0, .slice none 0 0, .int .i64 0, .slice none 0 0, .slice none 0 0, .int .i64 0, .slice none 0 0, .slice none 0 0, .int .i64 0, .slice none 0 0, .slice none 0 0, .int .i64 0, .slice none 0 0, .slice none 0 0, .int .i64 0, .slice none 0 0, .slice none 0 0, .int .i64 0, .slice none 0 0, .slice none 0 0, .int .i64 0, .slice none 0 0, .slice none 0 0, .int .i64 0, .slice none 0 0, .slice none 0 0, .int .i64 0, .slice none 0 0, .slice none 0 0, .int .i64 0, .slice none 0 0, .slice none 0 0, .int .i64 0, .slice none 0 0, .slice none 0 0, .int .i64 0, .slice none 0 0, .slice none 0 0, .int .i64 0, .slice none 0 0, .slice none 0 0, .int .i64 0, .slice none 0 0, .slice none 0 0, .int .i64 0, .slice none 0 0, .slice none 0 0, .int .i64 0, .slice none 0 0, .slice none 0 0, .int .i64 0, .slice none 0 0, .slice none 0 0, .int .i64 0, .int .i64 0, .int .i64 0, .int .i64 0]
theorem zBook_built : Tryz.prog.built 112 [] = some zBook := by kernel_rfl
theorem zBook_ok : BkC zBook (.slice none 0 0) (.slice none 0 0) 0 0 0 0 := by
  refine ⟨rfl, rfl, rfl, rfl, ?_, rfl, rfl, rfl⟩
  intro k h1 h2
  match k, h1, h2 with
  | 3, _, _ => rfl
  | 4, _, _ => rfl
  | 5, _, _ => rfl
  | 6, _, _ => rfl
  | 7, _, _ => rfl
  | 8, _, _ => rfl
  | 9, _, _ => rfl
  | 10, _, _ => rfl
  | 11, _, _ => rfl
  | 12, _, _ => rfl
  | 13, _, _ => rfl
  | 14, _, _ => rfl
  | 15, _, _ => rfl
  | 16, _, _ => rfl
  | 17, _, _ => rfl
  | 18, _, _ => rfl
  | 19, _, _ => rfl
  | 20, _, _ => rfl
  | 21, _, _ => rfl
  | 22, _, _ => rfl
  | 23, _, _ => rfl
  | 24, _, _ => rfl
  | 25, _, _ => rfl
  | 26, _, _ => rfl
  | 27, _, _ => rfl
  | 28, _, _ => rfl
  | 29, _, _ => rfl
  | 30, _, _ => rfl
  | 31, _, _ => rfl
  | 32, _, _ => rfl
  | 33, _, _ => rfl
  | 34, _, _ => rfl
  | 35, _, _ => rfl
  | 36, _, _ => rfl
  | 37, _, _ => rfl
  | 38, _, _ => rfl
  | 39, _, _ => rfl
  | 40, _, _ => rfl
  | 41, _, _ => rfl
  | 42, _, _ => rfl
  | 43, _, _ => rfl
  | 44, _, _ => rfl
  | 45, _, _ => rfl
  | 46, _, _ => rfl
  | 47, _, _ => rfl
  | 48, _, _ => rfl
  | 49, _, _ => rfl
  | 50, _, _ => rfl
  | 51, _, _ => rfl
  | 52, _, _ => rfl
  | 53, _, _ => rfl
  | 54, _, _ => rfl
  | 55, _, _ => rfl
  | 56, _, _ => rfl
  | 57, _, _ => rfl
  | 58, _, _ => rfl
  | 59, _, _ => rfl
  | 60, _, _ => rfl
  | 61, _, _ => rfl
  | 62, _, _ => rfl
  | 63, _, _ => rfl
  | 64, _, _ => rfl
  | 65, _, _ => rfl
  | 66, _, _ => rfl
  | 67, _, _ => rfl
  | 68, _, _ => rfl
  | 69, _, _ => rfl
  | 70, _, _ => rfl
  | 71, _, _ => rfl
  | k + 72, _, h => exact absurd h (by omega)
end Go.Proofs.YtcmllfnhdodbdaaGreatDoor
