/- posternlaw1.Book.growBytes: what a list becomes that is appended to. -/
import Derived.Test.YtjiciklnhcmfaaaGreatDoorBook3
namespace Go.Proofs.YtjiciklnhcmfaaaGreatDoor
set_option linter.unusedVariables false
set_option linter.unusedSimpArgs false
open Go.RowKit
theorem Pre.alloc {n : Nat} {w w' : World} {g : Nat} {o : Obj} (h : Pre n (w.alloc o) w' g) (hg : g < w.heap.size) : Pre n w w' g := fun cur e fr hc => h cur e fr ((Below.heap_alloc w o g hg).trans hc)
section
variable {w0 w w' : World} {base : Nat} {Pr : Nat → Prop} {bb : Nat} {E E1 E2 : List Ent} {lo hi : Nat} {vb vo vb1 vo1 : Value} {bat : Nat} {tn dn : Int} {us : Nat}
/-- A row that is appended to, whose block no longer list of the book shares. -/
theorem Bk.gpre (h : Bk w base Pr bb E E2 lo hi vb vo bat tn dn us) {v : Value} {N : Nat} {xs : List Value} (hu : Upd (fun j => v.ownBlock = some j) w w') (hv : Own w base 5 1 v N xs) (hf : ∀ f ∈ E, ∀ j, v.ownBlock = some j → f.at_ j → f.n ≤ N)
    (hp : ∀ j, v.ownBlock = some j → Pre N w w' j) : Bk w' base Pr bb E E2 lo hi vb vo bat tn dn us := by
  obtain ⟨cur, hh, hk⟩ := h.blk
  have n1 : v.ownBlock ≠ some bb := hv.not_at hh (by decide)
  refine ⟨⟨cur, (hu.block bb (lt_of_block hh) n1).trans hh, hk⟩, h.bbge, h.rows.upd hu (fun k a b => Own.ne_type h.rows hv (by decide) k a b), h.ofs.upd hu (fun k a b => Own.ne_type h.ofs hv (by decide) k a b), ?_, h.ee, h.uq, fun k hq => ⟨Nat.lt_of_lt_of_le (h.pr k hq).1 hu.size, (h.pr k hq).2⟩, h.en⟩
  intro f hf'
  by_cases c : ∃ j, v.ownBlock = some j ∧ f.at_ j
  · obtain ⟨j, h1, h2⟩ := c
    refine (h.ent f hf').pre (n := N) (by have := hf f hf' j h1 h2; omega) ?_
    intro g hg
    have : g = j := by have e := hg.symm.trans h2; injection e
    subst this
    exact hp g h1
  · exact (h.ent f hf').upd hu (fun k hk hs => c ⟨k, hs, hk⟩)
/-- The inner round's state: the row that grows, and the book. -/
structure GS (w0 w : World) (base : Nat) (Pr : Nat → Prop) (bb : Nat) (E : List Ent) (n0 : Nat) (vb vo : Value) (k : Nat) (em : Int) (g : Value) (gn cn : Nat) (E1 : List Ent) (vb1 vo1 : Value) (bat : Nat) (tn dn : Int) (us : Nat) : Prop where
  ext : ∃ P1, E1 = E ++ P1 ∧ P1.length = cn
  bk : Bk w base Pr bb E1 E1 k n0 vb1 vo1 bat tn dn us
  own : Own w base 5 1 g gn (bys (mks em gn))
  sh : ∀ f ∈ E1, ∀ j, g.ownBlock = some j → f.at_ j → f.m = em ∧ f.n ≤ gn
  un : ∀ i, k ≤ i → i < n0 → ∀ f, E1[i]? = some f → ∀ j, f.at_ j → ¬ g.ownBlock = some j
  np : ∀ j, g.ownBlock = some j → ¬ Pr j ∧ (BkF bb vb vo E j ∨ w0.heap.size ≤ j)
  ft : ∀ j, BkF bb vb1 vo1 E1 j → BkF bb vb vo E j ∨ w0.heap.size ≤ j
  up : Upd (BkF bb vb vo E) w0 w
variable {n0 k gn cn : Nat} {em : Int} {g : Value}
theorem GS.bksame {w' : World} (h : Bk w base Pr bb E E2 lo hi vb vo bat tn dn us) (hu : Upd (fun _ => False) w w') : Bk w' base Pr bb E E2 lo hi vb vo bat tn dn us := h.upd hu (fun _ s => s.elim)
/-- The row grows by its mark. -/
theorem GS.grow (h : GS w0 w base Pr bb E n0 vb vo k em g gn cn E1 vb1 vo1 bat tn dn us) {o : Obj} {w4 : World} {v4 : Value} (ho : Own w4 base 5 1 v4 (gn + 1) (bys (mks em gn) ++ [.int .u8 ((atB em gn).toNat : Int)])) (hg : (w.alloc o).grownBy w4 g.ownBlock)
    (hv : v4.ownBlock = g.ownBlock ∨ v4.ownBlock = some (w.heap.size + 1)) (hp : ∀ j, g.ownBlock = some j → Pre gn (w.alloc o) w4 j) :
    GS w0 w4 base Pr bb E n0 vb vo k em v4 (gn + 1) cn E1 vb1 vo1 bat tn dn us := by
  have hu : Upd (fun j => g.ownBlock = some j) w w4 := ((Upd.refl (fun j => g.ownBlock = some j) w).alloc o).grown hg (fun _ h _ => h)
  have hlt : ∀ f ∈ E1, ∀ j, f.at_ j → j < w.heap.size := fun f hf j hj => ((h.bk.ent f hf).lt j hj).2
  refine ⟨h.ext, h.bk.gpre hu h.own (fun f hf j a b => (h.sh f hf j a b).2) (fun j hj => (hp j hj).alloc (h.own.lt j hj).2), ?_, ?_, ?_, ?_, h.ft, ?_⟩
  · rw [bys_one_snoc, ← mks_succ] at ho
    exact ho
  · intro f hf j a b
    rcases hv with e | e
    · rw [e] at a
      have := h.sh f hf j a b
      exact ⟨this.1, by omega⟩
    · rw [e] at a
      injection a with a
      have := hlt f hf j b
      omega
  · intro i h1 h2 f hf j a b
    rcases hv with e | e
    · exact h.un i h1 h2 f hf j a (by rw [← e]; exact b)
    · rw [e] at b
      injection b with b
      have := hlt f (List.mem_of_getElem? hf) j a
      omega
  · intro j a
    rcases hv with e | e
    · exact h.np j (by rw [← e]; exact a)
    · rw [e] at a
      injection a with a
      have := h.up.size
      exact ⟨fun hq => by have := (h.bk.pr j hq).1; omega, .inr (by omega)⟩
  · refine h.up.trans hu (fun _ s _ => s) (fun i s hi => ?_)
    rcases (h.np i s).2 with q | q
    · exact q
    · omega
/-- The row is kept. -/
theorem GS.push {ga : Option Addr} {gc : Nat} (h : GS w0 w base Pr bb E n0 vb vo k em (.slice ga gn gc) gn cn E1 vb1 vo1 bat tn dn us) (hn : gn ≤ 16777312) (hle : n0 ≤ E1.length) {o o' : Obj} {w5 w6 : World} {v5 v6 : Value}
    (ho5 : Own w5 base 23 1 v5 (E1.length + 1) (E1.map Ent.val ++ [.slice ga gn gc])) (hg5 : (w.alloc o).grownBy w5 vb1.ownBlock) (hv5 : v5.ownBlock = vb1.ownBlock ∨ v5.ownBlock = some (w.heap.size + 1))
    (ho6 : Own w6 base 3 1 v6 (E1.length + 1) (E1.map Ent.mval ++ [.int .i64 em])) (hg6 : ((w5.setCell ⟨bb, 0, none⟩ v5).alloc o').grownBy w6 vo1.ownBlock) (hv6 : v6.ownBlock = vo1.ownBlock ∨ v6.ownBlock = some ((w5.setCell ⟨bb, 0, none⟩ v5).heap.size + 1)) :
    GS w0 (w6.setCell ⟨bb, 1, none⟩ v6) base Pr bb E n0 vb vo k em (.slice ga gn gc) gn (cn + 1) (E1 ++ [⟨ga, gn, gc, em⟩]) v5 v6 bat tn dn us := by
  have P5 := h.bk.push1 ⟨ga, gn, gc, em⟩ h.own hn (fun f hf j a b => ((h.sh f hf j a b).1).symm) (fun j a => (h.np j a).1) (hi' := n0) h.un (.inl ⟨rfl, hle⟩) ho5 hg5 hv5
  have P6 := P5.push2 ⟨ga, gn, gc, em⟩ ho6 hg6 hv6
  have U5 : Upd (fun b => b = bb ∨ vb1.ownBlock = some b) w (w5.setCell ⟨bb, 0, none⟩ v5) := push_upd hg5
  have U6 : Upd (fun b => b = bb ∨ vo1.ownBlock = some b) (w5.setCell ⟨bb, 0, none⟩ v5) (w6.setCell ⟨bb, 1, none⟩ v6) := push_upd hg6
  have U : Upd (fun b => b = bb ∨ vb1.ownBlock = some b ∨ vo1.ownBlock = some b) w (w6.setCell ⟨bb, 1, none⟩ v6) := U5.trans U6 (fun i s _ => by rcases s with s | s; exact .inl s; exact .inr (.inl s)) (fun i s _ => by rcases s with s | s; exact .inl s; exact .inr (.inr s))
  obtain ⟨cur, hh, _⟩ := h.bk.blk
  have nb : (Value.slice ga gn gc).ownBlock ≠ some bb := h.own.not_at hh (by decide)
  have s5 := U5.size
  have s0 := h.up.size
  obtain ⟨P1, hP, hPl⟩ := h.ext
  refine ⟨⟨P1 ++ [⟨ga, gn, gc, em⟩], by rw [hP, List.append_assoc], by simp [hPl]⟩, P6, ?_, ?_, ?_, h.np, ?_, ?_⟩
  · refine h.own.upd U ?_
    rintro j hj (rfl | s | s)
    · exact nb hj
    · exact Own.ne_type h.own h.bk.rows (by decide) j hj s
    · exact Own.ne_type h.own h.bk.ofs (by decide) j hj s
  · intro f hf j a b
    rcases List.mem_append.1 hf with hf | hf
    · exact h.sh f hf j a b
    · rw [List.mem_singleton.1 hf]; exact ⟨rfl, Nat.le_refl _⟩
  · intro i h1 h2 f hf j a b
    rcases get_snoc hf with hf' | ⟨hi0, _⟩
    · exact h.un i h1 h2 f hf' j a b
    · omega
  · rintro j (rfl | hj | hj | ⟨e, he, hj⟩)
    · exact .inl (.inl rfl)
    · rcases hv5 with e | e
      · exact h.ft j (.inr (.inl (by rw [← e]; exact hj)))
      · rw [e] at hj; injection hj with hj; exact .inr (by omega)
    · rcases hv6 with e | e
      · exact h.ft j (.inr (.inr (.inl (by rw [← e]; exact hj))))
      · rw [e] at hj; injection hj with hj; exact .inr (by omega)
    · rcases List.mem_append.1 he with he | he
      · exact h.ft j (.inr (.inr (.inr ⟨e, he, hj⟩)))
      · rw [List.mem_singleton.1 he] at hj; exact (h.np j hj).2
  · refine h.up.trans U (fun _ s _ => s) (fun i s hi => ?_)
    have q : BkF bb vb1 vo1 E1 i := by
      rcases s with s | s | s
      · exact .inl s
      · exact .inr (.inl s)
      · exact .inr (.inr (.inl s))
    rcases h.ft i q with q | q
    · exact q
    · omega
/-- A list of the book begins to grow. -/
theorem GS.start (hx : ∃ P1, E1 = E ++ P1 ∧ P1.length = cn) (hb : Bk w base Pr bb E1 E1 k n0 vb1 vo1 bat tn dn us) (hft : ∀ j, BkF bb vb1 vo1 E1 j → BkF bb vb vo E j ∨ w0.heap.size ≤ j) (hup : Upd (BkF bb vb vo E) w0 w) {e : Ent} (hk : k < n0) (he : E1[k]? = some e) :
    GS w0 w base Pr bb E n0 vb vo (k + 1) e.m e.val e.n cn E1 vb1 vo1 bat tn dn us := by
  have hm := List.mem_of_getElem? he
  refine ⟨hx, ⟨hb.blk, hb.bbge, hb.rows, hb.ofs, hb.ent, hb.ee, fun i j h1 h2 => hb.uq i j (by omega) h2, hb.pr, fun i f hf => ⟨(hb.en i f hf).1, fun a b => (hb.en i f hf).2 (by omega) b⟩⟩, hb.ent e hm, ?_, ?_, ?_, hft, hup⟩
  · intro f hf j a b
    obtain ⟨i, hi⟩ := List.getElem?_of_mem hf
    by_cases c : i = k
    · subst c
      rw [he] at hi
      cases hi
      exact ⟨rfl, Nat.le_refl _⟩
    · exact absurd b (hb.uq k i (Nat.le_refl _) hk (fun e => c e.symm) e f he hi j a)
  · intro i h1 h2 f hf j a b
    exact hb.uq i k (by omega) h2 (by omega) f e hf he j a b
  · intro j a
    exact ⟨fun hq => (hb.pr j hq).2.2.2.2 e hm a, hft j (.inr (.inr (.inr ⟨e, hm, a⟩)))⟩
end
/-- So many rows are kept while one grows by so many. -/
def cnt (j : Nat) : Nat := (if j ≤ 3 then j else 3) + j / 16
theorem cnt_yes (j : Nat) (h : j + 1 < 4 ∨ (j + 1) % 16 = 0) : cnt (j + 1) = cnt j + 1 := by
  unfold cnt
  split <;> split <;> omega
theorem cnt_no (j : Nat) (h : ¬ (j + 1 < 4 ∨ (j + 1) % 16 = 0)) : cnt (j + 1) = cnt j := by
  unfold cnt
  split <;> split <;> omega
theorem cnt_le (j : Nat) (h : j ≤ 96) : cnt j ≤ 9 := by
  unfold cnt
  split <;> omega
end Go.Proofs.YtjiciklnhcmfaaaGreatDoor
