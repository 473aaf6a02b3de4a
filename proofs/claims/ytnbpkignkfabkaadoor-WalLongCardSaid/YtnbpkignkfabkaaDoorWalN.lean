/- wal.Open's loop: one record more. -/
import Derived.Test.YtnbpkignkfabkaaDoorWalA
import Derived.Test.YtnbpkignkfabkaaDoorStep
import Derived.Test.YtnbpkignkfabkaaDoorFRow
import Derived.Test.YtnbpkignkfabkaaDoorUnfr
import Derived.Test.YtnbpkignkfabkaaDoorBase
import Derived.Scope
import Derived.ScopeJumps
/- wal.Open: what it comes to. -/
namespace Go.Proofs.YtnbpkignkfabkaaDoor
set_option linter.unusedVariables false
set_option linter.unusedSimpArgs false
open Go.RowKit Go.Maps
def openR (s : DS) (nm : List UInt8) : Int × Option (List (List UInt8) × Nat) × DS :=
  if s.may true [nm] ≠ 0 ∧ s.may true [nm] ≠ 92 then (s.may true [nm], none, s)
  else if (recOf (readB s nm)).2.2 = 101 then (101, none, s)
  else if (recOf (readB s nm)).2.2 = 0 then (0, some ((recOf (readB s nm)).1, (recOf (readB s nm)).2.1), s)
  else if (s.cut nm (recOf (readB s nm)).2.1).1 ≠ 0 then ((s.cut nm (recOf (readB s nm)).2.1).1, none, (s.cut nm (recOf (readB s nm)).2.1).2)
  else (0, some ((recOf (readB s nm)).1, (recOf (readB s nm)).2.1), (s.cut nm (recOf (readB s nm)).2.1).2)
/-- Where rows of rows lie. -/
def RdG (Z : Nat → Prop) (a : Option Addr) (xs : List (List UInt8)) (Af : Nat → Option Addr) : Prop :=
  (∀ ad, a = some ad → xs ≠ [] → Z ad.block) ∧ ∀ i (h : i < xs.length), xs[i] ≠ [] → ∀ ad, Af i = some ad → Z ad.block
theorem Rd2.upd {w w' : World} {a : Option Addr} {xs : List (List UInt8)} {Af : Nat → Option Addr} {Cf : Nat → Nat} {Z S : Nat → Prop} (h : Rd2 w a xs Af Cf) (hz : RdG Z a xs Af) (hu : Upd S w w') (hs : ∀ i, S i → ¬ Z i) : Rd2 w' a xs Af Cf := by
  refine ⟨fun i hi => ?_, fun i hi => (h.byt i hi).upd hu (fun ad ha hne s => hs _ s (hz.2 i hi hne ad ha)), h.cap, h.short⟩
  obtain ⟨b, o, e, hc⟩ := h.cell i hi
  exact ⟨b, o, e, hu.cell' hc (fun s => hs _ s (hz.1 ⟨b, o, none⟩ e (by intro e2; rw [e2] at hi; exact absurd hi (Nat.not_lt_zero _))))⟩
theorem RdG.mono {Z Z' : Nat → Prop} {a : Option Addr} {xs : List (List UInt8)} {Af : Nat → Option Addr} (h : RdG Z a xs Af) (hz : ∀ i, Z i → Z' i) : RdG Z' a xs Af :=
  ⟨fun ad h1 h2 => hz _ (h.1 ad h1 h2), fun i hi h1 ad h2 => hz _ (h.2 i hi h1 ad h2)⟩
/-- What an Open comes to. -/
def OpenP (w w' : World) (base db : Nat) (F : Nat → Prop) (nm : List UInt8) (q : Int × Option (List (List UInt8) × Nat) × DS) (r : Ending) : Prop :=
  ∃ F', Dk w' base F' db q.2.2 ∧ Upd F w w' ∧ (∀ i, F' i → F i ∨ w.heap.size ≤ i) ∧
    match q.2.1 with
    | none => r = .returned (.tuple #[.pointer none, .slice none 0 0, .int .i64 q.1])
    | some (xs, n) => ∃ lb a c Af Cf, r = .returned (.tuple #[.pointer (some ⟨lb, 0, none⟩), .slice a xs.length c, .int .i64 q.1]) ∧ Lg w' lb db nm n false ∧ w.heap.size ≤ lb ∧ ¬ F' lb ∧ Rd2 w' a xs Af Cf ∧ RdG (fun i => w.heap.size ≤ i ∧ ¬ F' i ∧ i < w'.heap.size) a xs Af
/-- In Open's loop. -/
structure OpS (w wr : World) (base db lb : Nat) (F : Nat → Prop) (s : DS) (nm b : List UInt8) (ba : Option Addr) (bc : Nat) (k : Nat) (xs : List (List UInt8)) (v : Value) (Af : Nat → Option Addr) (Cf : Nat → Nat) : Prop where
  lg : Lg wr lb db nm k false
  row : Own wr w.heap.size 35 1 v xs.length (svs xs Af Cf xs.length)
  els : ∀ i, i < xs.length → Own wr w.heap.size 5 1 (.slice (Af i) (xs.getD i []).length (Cf i)) (xs.getD i []).length (bys (xs.getD i []))
  bo : Own wr w.heap.size 5 1 (.slice ba b.length bc) b.length (bys b)
  up : Upd F w wr
  dk : Dk wr base F db s
  tab : Tab wr
  recs : recOf b = (xs ++ (recOf (b.drop k)).1, k + (recOf (b.drop k)).2.1, (recOf (b.drop k)).2.2)
  kle : k ≤ b.length
  cnt : xs.length ≤ k
  short : ∀ x ∈ xs, x.length ≤ 268435456
theorem OpS.drewN {w wr : World} {base db lb : Nat} {F : Nat → Prop} {s : DS} {nm b : List UInt8} {ba : Option Addr} {bc k : Nat} {xs : List (List UInt8)} {v : Value} {Af : Nat → Option Addr} {Cf : Nat → Nat} (h : OpS w wr base db lb F s nm b ba bc k xs v Af Cf) (n : Nat) : OpS w (wr.drewN n) base db lb F s nm b ba bc k xs v Af Cf :=
  ⟨h.lg, h.row.below (bel_drewN (Below.refl _ _) n), fun i hi => (h.els i hi).below (bel_drewN (Below.refl _ _) n), h.bo.below (bel_drewN (Below.refl _ _) n), h.up.drewN n, h.dk.below (bel_drewN (Below.refl _ _) n), h.tab, h.recs, h.kle, h.cnt, h.short⟩
theorem own_le {w : World} {base : Nat} {e : TypeId} {size : Nat} {a : Option Addr} {m n c : Nat} {xs : List Value} (h : Own w base e size (.slice a m c) n xs) : n ≤ c := by
  obtain ⟨a', c', hv, hc, _, _⟩ := h.shape'
  cases hv
  exact hc
theorem Byt.drop {w : World} {g o : Nat} {l : List UInt8} (h : Byt w (some ⟨g, o, none⟩) l) (k : Nat) : Byt w (some ⟨g, o + k, none⟩) (l.drop k) := by
  intro i hi
  have hi' : k + i < l.length := by rw [List.length_drop] at hi; omega
  refine ⟨g, o + k, rfl, ?_⟩
  rw [Nat.add_assoc, h.at_ hi']
  simp
/-- The rows of an Open, read. -/
theorem OpS.rd {w wr : World} {base db lb : Nat} {F : Nat → Prop} {s : DS} {nm b : List UInt8} {ba : Option Addr} {bc k : Nat} {xs : List (List UInt8)} {v : Value} {Af : Nat → Option Addr} {Cf : Nat → Nat} (h : OpS w wr base db lb F s nm b ba bc k xs v Af Cf) :
    ∃ a c, v = .slice a xs.length c ∧ Rd2 wr a xs Af Cf ∧ RdG (fun i => w.heap.size ≤ i ∧ i < wr.heap.size) a xs Af := by
  obtain ⟨a, c, hv, hc, ha, -⟩ := h.row.shape'
  refine ⟨a, c, hv, ⟨?_, ?_, ?_, ?_⟩, ?_, ?_⟩
  · intro i hi
    rw [hv] at h
    have hr := h.row
    cases a with
    | none =>
      rcases hr.2 with ⟨_, h0⟩ | ⟨_, _, _, _, h0, _⟩
      · omega
      · cases h0
    | some ad =>
      rw [(ha ad rfl).1] at hr ⊢
      refine ⟨_, 0, rfl, ?_⟩
      rw [Nat.zero_add, hr.cellAt i (by omega), svs_get hi, getD_lt hi]
  · intro i hi
    have := (Own.byt (h.els i hi)).1
    rw [getD_lt hi] at this
    exact this
  · intro i hi
    have := own_le (h.els i hi)
    rw [getD_lt hi] at this
    exact this
  · intro i hi
    have := h.short xs[i] (List.getElem_mem hi)
    omega
  · intro ad hd _
    exact ⟨(ha ad hd).2.1, (ha ad hd).2.2⟩
  · intro i hi _ ad hd
    have h1 := (h.els i hi).lt ad.block (by rw [hd]; rfl)
    exact h1
theorem getD_snoc_lt {xs : List (List UInt8)} {x : List UInt8} {i : Nat} (h : i < xs.length) : (xs ++ [x]).getD i [] = xs.getD i [] := by simp [List.getD, List.getElem?_append_left h]
theorem getD_snoc_eq {xs : List (List UInt8)} {x : List UInt8} : (xs ++ [x]).getD xs.length [] = x := by simp [List.getD]
theorem svs_next (xs : List (List UInt8)) (x : List UInt8) (Af : Nat → Option Addr) (Cf : Nat → Nat) (a : Option Addr) (c : Nat) :
    svs (xs ++ [x]) (fun i => if i = xs.length then a else Af i) (fun i => if i = xs.length then c else Cf i) (xs.length + 1) = svs xs Af Cf xs.length ++ [.slice a x.length c] := by
  rw [svs_succ]
  congr 1
  · unfold svs
    apply List.map_congr_left
    intro i hi
    have hi' : i < xs.length := List.mem_range.1 hi
    have hne : ¬ i = xs.length := by omega
    simp only [if_neg hne, getD_snoc_lt hi']
  · simp only [if_pos, getD_snoc_eq]
end Go.Proofs.YtnbpkignkfabkaaDoor
/- A scope with two labels: the run jumps back to the one, and forward to the other. -/
namespace Go.Proofs.YtnbpkignkfabkaaDoor
open Go.RowKit
def jump2 (l1 l2 : Nat) (J1 J2 : Act → World → Prop) (Q : Exit → Act → World → Prop) : Exit → Act → World → Prop
  | .goto l', a, w => (l' = l1 ∧ J1 a w) ∨ (l' = l2 ∧ J2 a w)
  | e, a, w => Q e a w
section
variable {P : Program} {a : Act} {w : World} {Q : Exit → Act → World → Prop}
theorem jump2_imp {l1 l2 : Nat} {J1 J1' J2 : Act → World → Prop} (h : ∀ a w, J1 a w → J1' a w) : ∀ e a w, jump2 l1 l2 J1 J2 Q e a w → jump2 l1 l2 J1' J2 Q e a w := fun e a w => by
  cases e with
  | goto l' => rintro (⟨h1, h2⟩ | h3); exact .inl ⟨h1, h a w h2⟩; exact .inr h3
  | _ => exact id
theorem wp_scope_jumps2 {c r1 r2 : Code} (l1 l2 : Nat) (J1 J2 : Act → World → Prop) (μ : Act → World → Nat) (hf1 : findLabel c l1 = some (Code.skip.seq r1)) (hf2 : findLabel c l2 = some r2)
    (pass1 : ∀ a w, J1 a w → r1.wp P (jump2 l1 l2 (fun a' w' => J1 a' w' ∧ μ a' w' < μ a w) J2 Q) a w)
    (pass2 : ∀ a w, J2 a w → r2.wp P (jump2 l1 l2 (fun _ _ => False) (fun _ _ => False) Q) a w)
    (first : (∀ a w, J1 a w → r1.wp P (jump2 l1 l2 J1 J2 Q) a w) → c.wp P (jump2 l1 l2 J1 J2 Q) a w) : (Code.scope c).wp P Q a w := by
  have first' := first (fun a w hJ => Code.wp_mono (jump2_imp fun _ _ h => h.1) (pass1 a w hJ))
  have pass1' : ∀ a w, J1 a w → (Code.skip.seq r1).wp P (jump2 l1 l2 (fun a' w' => J1 a' w' ∧ μ a' w' < μ a w) J2 Q) a w := fun a w hJ => wp_seq (wp_skip (pass1 a w hJ))
  intro b k cs
  have hg1 : gotoIn l1 (.inScope c :: k) = some (.code (Code.skip.seq r1) :: .inScope c :: k) := by simp [gotoIn, hf1]
  have hg2 : gotoIn l2 (.inScope c :: k) = some (.code r2 :: .inScope c :: k) := by simp [gotoIn, hf2]
  have key2 : ∀ a w, J2 a w → ∃ e a' w', Q e a' w' ∧ Arrives P (lone (b.at a (.code r2 :: .inScope c :: k)) cs w) b k cs e a' w' := by
    intro a w hJ
    obtain ⟨e, a₁, w₁, hq, harr⟩ := pass2 a w hJ b (.inScope c :: k) cs
    cases e with
    | normal => exact ⟨.normal, a₁, w₁, hq, Steps.trans harr (.one step_inScope)⟩
    | exit id => exact ⟨.exit id, a₁, w₁, hq, fun k' hk => harr k' (by simp [exitTo, hk])⟩
    | goto l' => rcases hq with ⟨_, h⟩ | ⟨_, h⟩ <;> exact h.elim
    | ret => exact ⟨_, a₁, w₁, hq, harr⟩
    | panic ch => exact ⟨_, a₁, w₁, hq, harr⟩
    | outgrown => exact ⟨_, a₁, w₁, hq, harr⟩
  have key : ∀ n a w, μ a w = n → J1 a w → ∃ e a' w', Q e a' w' ∧ Arrives P (lone (b.at a (.code (Code.skip.seq r1) :: .inScope c :: k)) cs w) b k cs e a' w' := by
    intro n
    induction n using Nat.strongRecOn with
    | _ n ih =>
      intro a w hn hJ
      obtain ⟨e, a₁, w₁, hq, harr⟩   := pass1' a w hJ b (.inScope c :: k) cs
      cases e with
      | normal => exact ⟨.normal, a₁, w₁, hq, Steps.trans harr (.one step_inScope)⟩
      | exit id => exact ⟨.exit id, a₁, w₁, hq, fun k' hk => harr k' (by simp [exitTo, hk])⟩
      | goto l' =>
        rcases hq with ⟨rfl, hJ', hlt⟩ | ⟨rfl, hJ'⟩
        · obtain ⟨e₂, a₂, w₂, hq₂, harr₂⟩ := ih _ (by omega) a₁ w₁ rfl hJ'
          exact ⟨e₂, a₂, w₂, hq₂, .of_steps (harr _ hg1) harr₂⟩
        · obtain ⟨e₂, a₂, w₂, hq₂, harr₂⟩ := key2 a₁ w₁ hJ'
          exact ⟨e₂, a₂, w₂, hq₂, .of_steps (harr _ hg2) harr₂⟩
      | ret => exact ⟨_, a₁, w₁, hq, harr⟩
      | panic ch => exact ⟨_, a₁, w₁, hq, harr⟩
      | outgrown => exact ⟨_, a₁, w₁, hq, harr⟩
  obtain ⟨e, a₁, w₁, hq, harr⟩ := first' b (.inScope c :: k) cs
  cases e with
  | normal => exact ⟨.normal, a₁, w₁, hq, .head step_scope (Steps.trans harr (.one step_inScope))⟩
  | exit id => exact ⟨.exit id, a₁, w₁, hq, fun k' hk => .head step_scope (harr k' (by simp [exitTo, hk]))⟩
  | goto l' =>
    rcases hq with ⟨rfl, hJ'⟩ | ⟨rfl, hJ'⟩
    · obtain ⟨e₂, a₂, w₂, hq₂, harr₂⟩ := key _ a₁ w₁ rfl hJ'
      exact ⟨e₂, a₂, w₂, hq₂, .of_steps (.head step_scope (harr _ hg1)) harr₂⟩
    · obtain ⟨e₂, a₂, w₂, hq₂, harr₂⟩ := key2 a₁ w₁ hJ'
      exact ⟨e₂, a₂, w₂, hq₂, .of_steps (.head step_scope (harr _ hg2)) harr₂⟩
  | ret => exact ⟨_, a₁, w₁, hq, .of_steps (.one step_scope) harr⟩
  | panic ch => exact ⟨_, a₁, w₁, hq, .of_steps (.one step_scope) harr⟩
  | outgrown => exact ⟨_, a₁, w₁, hq, .of_steps (.one step_scope) harr⟩
end
end Go.Proofs.YtnbpkignkfabkaaDoor
namespace Go.Proofs.YtnbpkignkfabkaaDoor
open Go.RowKit Go.Maps
theorem OpS.next {w wr w3 w4 : World} {base db lb : Nat} {F : Nat → Prop} {s : DS} {nm b : List UInt8} {ba : Option Addr} {bc k : Nat} {xs : List (List UInt8)} {v v4 : Value} {Af : Nat → Option Addr} {Cf : Nat → Nat} {x : List UInt8} {n : Nat} {xa : Option Addr} {xc : Nat}
    (h : OpS w wr base db lb F s nm b ba bc k xs v Af Cf) (hF : ∀ i, F i → i < w.heap.size) (hlb : w.heap.size ≤ lb) (hg : 0 < w.heap.size) (hbl : b.length ≤ 268435456) (hu : UnframeR (b.drop k) = (x, n, 0)) (hk : k < b.length)
    (hb3 : Below wr.heap.size wr w3) (ho3 : Own w3 wr.heap.size 5 1 (.slice xa x.length xc) x.length (bys x))
    (ho4 : Own w4 w.heap.size 35 1 v4 (xs.length + 1) (svs xs Af Cf xs.length ++ [.slice xa x.length xc])) (hg4 : (w3.alloc (.cells #[.slice xa x.length xc] 35)).grownBy w4 v.ownBlock) :
    OpS w (w4.setCell ⟨lb, 2, none⟩ (.int .i64 ((k + n : Nat) : Int))) base db lb F s nm b ba bc (k + n) (xs ++ [x]) v4 (fun i => if i = xs.length then xa else Af i) (fun i => if i = xs.length then xc else Cf i) ∧ k < k + n ∧ k + n ≤ b.length := by
  have e0 : (b.drop k).length ≠ 0 := by rw [List.length_drop]; omega
  have hc : (UnframeR (b.drop k)).2.2 = 0 := by rw [hu]
  have hn := unframe_n hc
  rw [hu] at hn
  simp only [List.length_drop] at hn
  have hst := recOf_step e0 hc
  rw [hu] at hst
  simp only [List.drop_drop] at hst
  have hW : w.heap.size ≤ wr.heap.size := h.up.size
  have B3a : Below wr.heap.size wr (w3.alloc (.cells #[.slice xa x.length xc] 35)) := hb3.alloc hb3.size _
  have row3 : Own (w3.alloc (.cells #[.slice xa x.length xc] 35)) w.heap.size 35 1 v xs.length (svs xs Af Cf xs.length) := h.row.below B3a
  have lg3 : Lg (w3.alloc (.cells #[.slice xa x.length xc] 35)) lb db nm k false := h.lg.below B3a
  have U4 : Upd (fun i => v.ownBlock = some i) (w3.alloc (.cells #[.slice xa x.length xc] 35)) w4 := (Upd.refl _ _).grown hg4 (fun k hk _ => hk)
  have lg4 : Lg w4 lb db nm k false := lg3.upd U4 (fun e => (row3.not_ty lg3 (by decide)) e)
  have carry : ∀ {vv : Value} {nn : Nat} {xx : List Value}, Own (w3.alloc (.cells #[.slice xa x.length xc] 35)) w.heap.size 5 1 vv nn xx → Own (w4.setCell ⟨lb, 2, none⟩ (.int .i64 ((k + n : Nat) : Int))) w.heap.size 5 1 vv nn xx := by
    intro vv nn xx o
    have o4 := o.upd U4 (fun j hj e => Own.ne_type o row3 (by decide) j hj e)
    exact o4.setCell_other (a := ⟨lb, 2, none⟩) (o4.not_ty lg4 (by decide)) _
  have U5 : Upd (fun i => v.ownBlock = some i ∨ i = lb) wr (w4.setCell ⟨lb, 2, none⟩ (.int .i64 ((k + n : Nat) : Int))) :=
    (((Upd.mono (S' := fun i => v.ownBlock = some i ∨ i = lb) (Upd.ofBelow B3a) (fun _ s _ => s.elim))).trans U4 (fun i s _ => s) (fun i s _ => .inl s)).setCell (p := ⟨lb, 2, none⟩) (fun _ => .inr rfl) _
  have big : ∀ i, (v.ownBlock = some i ∨ i = lb) → w.heap.size ≤ i := by
    rintro i (s | s)
    · exact (h.row.lt i s).1
    · rw [s]; exact hlb
  refine ⟨⟨lg4.setN (k + n), ?_, ?_, carry (h.bo.below B3a), ?_, ?_, ?_, ?_, ?_, ?_, ?_⟩, by omega, by omega⟩
  · rw [List.length_append, List.length_singleton, svs_next]
    exact ho4.setCell_other (a := ⟨lb, 2, none⟩) (ho4.not_ty lg4 (by decide)) _
  · intro i hi
    rw [List.length_append, List.length_singleton] at hi
    by_cases e : i = xs.length
    · subst e
      simp only [if_pos, getD_snoc_eq]
      exact carry ((ho3.mono hW).alloc _)
    · simp only [if_neg e, getD_snoc_lt (show i < xs.length by omega)]
      exact carry ((h.els i (by omega)).below B3a)
  · exact h.up.trans U5 (fun i s _ => s) (fun i s hi => by have := big i s; omega)
  · exact h.dk.upd U5 (fun i s hf => by have := big i s; have := hF i hf; omega)
  · exact h.tab.upd U5 (fun s => by have := big _ s; omega)
  · rw [h.recs, hst]
    simp only [List.append_assoc, List.singleton_append, Prod.mk.injEq, true_and]
    exact ⟨by omega, trivial⟩
  · omega
  · rw [List.length_append, List.length_singleton]; have := h.cnt; omega
  · intro y hy
    rcases List.mem_append.1 hy with hy | hy
    · exact h.short y hy
    · rw [List.mem_singleton] at hy
      subst hy
      omega
end Go.Proofs.YtnbpkignkfabkaaDoor
