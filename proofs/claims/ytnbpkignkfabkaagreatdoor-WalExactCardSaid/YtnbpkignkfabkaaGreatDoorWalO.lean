/- wal.Open. -/
import Derived.Test.YtnbpkignkfabkaaGreatDoorWalA
import Derived.Test.YtnbpkignkfabkaaGreatDoorStep
import Derived.Test.YtnbpkignkfabkaaGreatDoorFRow
import Derived.Test.YtnbpkignkfabkaaGreatDoorFrmLaw
import Derived.Test.YtnbpkignkfabkaaGreatDoorBase
import Derived.Scope
import Derived.ScopeJumps
import Derived.Test.YtnbpkignkfabkaaGreatDoorCutOn
/- wal.Open's loop: one record more. -/
/- wal.Open: what it comes to. -/
namespace Go.Proofs.YtnbpkignkfabkaaGreatDoor
set_option linter.unusedVariables false
set_option linter.unusedSimpArgs false
open Go.RowKit Go.Maps
def openR (s : DS) (nm : List UInt8) : Int × Option (List (List UInt8) × Nat) × DS :=
  if s.may true [nm] ≠ 0 ∧ s.may true [nm] ≠ 92 then (s.may true [nm], none, s)
  else if (recOf (readB s nm)).2.2 = 101 then (101, none, s)
  else if (recOf (readB s nm)).2.2 = 0 then (0, some ((recOf (readB s nm)).1, (recOf (readB s nm)).2.1), s)
  else if (s.cut nm (recOf (readB s nm)).2.1).1 ≠ 0 then ((s.cut nm (recOf (readB s nm)).2.1).1, none, (s.cut nm (recOf (readB s nm)).2.1).2)
  else (0, some ((recOf (readB s nm)).1, (recOf (readB s nm)).2.1), (s.cut nm (recOf (readB s nm)).2.1).2)
/-- Where rows of rows lie. -/
def RdG (Z : Nat → Prop) (a : Option Addr) (xs : List (List UInt8)) (Af : Nat → Option Addr) : Prop :=
  (∀ ad, a = some ad → xs ≠ [] → Z ad.block) ∧ ∀ i (h : i < xs.length), xs[i] ≠ [] → ∀ ad, Af i = some ad → Z ad.block
theorem Rd2.upd {w w' : World} {a : Option Addr} {xs : List (List UInt8)} {Af : Nat → Option Addr} {Cf : Nat → Nat} {Z S : Nat → Prop} (h : Rd2 w a xs Af Cf) (hz : RdG Z a xs Af) (hu : Upd S w w') (hs : ∀ i, S i → ¬ Z i) : Rd2 w' a xs Af Cf := by
  refine ⟨fun i hi => ?_, fun i hi => (h.byt i hi).upd hu (fun ad ha hne s => hs _ s (hz.2 i hi hne ad ha)), h.cap, h.short⟩
  obtain ⟨b, o, e, hc⟩ := h.cell i hi
  exact ⟨b, o, e, hu.cell' hc (fun s => hs _ s (hz.1 ⟨b, o, none⟩ e (by intro e2; rw [e2] at hi; exact absurd hi (Nat.not_lt_zero _))))⟩
theorem RdG.mono {Z Z' : Nat → Prop} {a : Option Addr} {xs : List (List UInt8)} {Af : Nat → Option Addr} (h : RdG Z a xs Af) (hz : ∀ i, Z i → Z' i) : RdG Z' a xs Af :=
  ⟨fun ad h1 h2 => hz _ (h.1 ad h1 h2), fun i hi h1 ad h2 => hz _ (h.2 i hi h1 ad h2)⟩
/-- Rows of one's own, each in a block of its own. -/
structure Els (w : World) (B : Nat) (N : Nat → Prop) (a : Option Addr) (c : Nat) (xs : List (List UInt8)) (Af : Nat → Option Addr) (Cf : Nat → Nat) : Prop where
  row : Own w B 74 1 (.slice a xs.length c) xs.length (svs xs Af Cf xs.length)
  rout : ∀ k, (Value.slice a xs.length c).ownBlock = some k → ¬ N k
  own : ∀ i, i < xs.length → Own w B 5 1 (.slice (Af i) (xs.getD i []).length (Cf i)) (xs.getD i []).length (bys (xs.getD i []))
  dis : ∀ i j, i < j → j < xs.length → ∀ k, (Value.slice (Af i) (xs.getD i []).length (Cf i)).ownBlock = some k → (Value.slice (Af j) (xs.getD j []).length (Cf j)).ownBlock ≠ some k
  out : ∀ i k, i < xs.length → (Value.slice (Af i) (xs.getD i []).length (Cf i)).ownBlock = some k → ¬ N k
theorem Els.upd {S N : Nat → Prop} {w w' : World} {B : Nat} {a : Option Addr} {c : Nat} {xs : List (List UInt8)} {Af : Nat → Option Addr} {Cf : Nat → Nat} (h : Els w B N a c xs Af Cf) (hu : Upd S w w') (hs : ∀ i, S i → N i) : Els w' B N a c xs Af Cf :=
  ⟨h.row.upd hu (fun k hk s => h.rout k hk (hs k s)), h.rout, fun i hi => (h.own i hi).upd hu (fun k hk s => h.out i k hi hk (hs k s)), h.dis, h.out⟩
theorem Els.out2 {N N' : Nat → Prop} {w : World} {B : Nat} {a : Option Addr} {c : Nat} {xs : List (List UInt8)} {Af : Nat → Option Addr} {Cf : Nat → Nat} (h : Els w B N a c xs Af Cf) (hs : ∀ i, N' i → i < w.heap.size → B ≤ i → N i) : Els w B N' a c xs Af Cf :=
  ⟨h.row, fun k hk hn => h.rout k hk (hs k hn (h.row.lt k hk).2 (h.row.lt k hk).1), h.own, h.dis, fun i k hi hk hn => h.out i k hi hk (hs k hn ((h.own i hi).lt k hk).2 ((h.own i hi).lt k hk).1)⟩
theorem Els.mono {N N' : Nat → Prop} {w : World} {B B' : Nat} {a : Option Addr} {c : Nat} {xs : List (List UInt8)} {Af : Nat → Option Addr} {Cf : Nat → Nat} (h : Els w B N a c xs Af Cf) (hb : B' ≤ B) (hs : ∀ i, N' i → i < w.heap.size → B ≤ i → N i) : Els w B' N' a c xs Af Cf :=
  ⟨(h.out2 hs).row.mono hb, (h.out2 hs).rout, fun i hi => (h.own i hi).mono hb, h.dis, (h.out2 hs).out⟩
/-- What an Open comes to. -/
def OpenP (w w' : World) (base db : Nat) (F : Nat → Prop) (nm : List UInt8) (q : Int × Option (List (List UInt8) × Nat) × DS) (r : Ending) : Prop :=
  ∃ F', Dk w' base F' db q.2.2 ∧ Upd F w w' ∧ (∀ i, F' i → F i ∨ w.heap.size ≤ i) ∧
    match q.2.1 with
    | none => r = .returned (.tuple #[.pointer none, .slice none 0 0, .int .i64 q.1])
    | some (xs, n) => ∃ lb a c Af Cf, r = .returned (.tuple #[.pointer (some ⟨lb, 0, none⟩), .slice a xs.length c, .int .i64 q.1]) ∧ Lg w' lb db nm n false ∧ w.heap.size ≤ lb ∧ ¬ F' lb ∧ Rd2 w' a xs Af Cf ∧ RdG (fun i => w.heap.size ≤ i ∧ ¬ F' i ∧ i < w'.heap.size) a xs Af ∧ Els w' w.heap.size F' a c xs Af Cf
/-- In Open's loop. -/
structure OpS (w wr : World) (base db lb : Nat) (F : Nat → Prop) (s : DS) (nm b : List UInt8) (ba : Option Addr) (bc : Nat) (k : Nat) (xs : List (List UInt8)) (v : Value) (Af : Nat → Option Addr) (Cf : Nat → Nat) : Prop where
  lg : Lg wr lb db nm k false
  row : Own wr w.heap.size 74 1 v xs.length (svs xs Af Cf xs.length)
  els : ∀ i, i < xs.length → Own wr w.heap.size 5 1 (.slice (Af i) (xs.getD i []).length (Cf i)) (xs.getD i []).length (bys (xs.getD i []))
  bo : Own wr w.heap.size 5 1 (.slice ba b.length bc) b.length (bys b)
  up : Upd F w wr
  dk : Dk wr base F db s
  tab : Tab wr
  recs : recOf b = (xs ++ (recOf (b.drop k)).1, k + (recOf (b.drop k)).2.1, (recOf (b.drop k)).2.2)
  kle : k ≤ b.length
  cnt : xs.length ≤ k
  short : ∀ x ∈ xs, x.length ≤ 268435456
  dis : ∀ i j, i < j → j < xs.length → ∀ k, (Value.slice (Af i) (xs.getD i []).length (Cf i)).ownBlock = some k → (Value.slice (Af j) (xs.getD j []).length (Cf j)).ownBlock ≠ some k
theorem OpS.drewN {w wr : World} {base db lb : Nat} {F : Nat → Prop} {s : DS} {nm b : List UInt8} {ba : Option Addr} {bc k : Nat} {xs : List (List UInt8)} {v : Value} {Af : Nat → Option Addr} {Cf : Nat → Nat} (h : OpS w wr base db lb F s nm b ba bc k xs v Af Cf) (n : Nat) : OpS w (wr.drewN n) base db lb F s nm b ba bc k xs v Af Cf :=
  ⟨h.lg, h.row.below (bel_drewN (Below.refl _ _) n), fun i hi => (h.els i hi).below (bel_drewN (Below.refl _ _) n), h.bo.below (bel_drewN (Below.refl _ _) n), h.up.drewN n, h.dk.below (bel_drewN (Below.refl _ _) n), h.tab, h.recs, h.kle, h.cnt, h.short, h.dis⟩
theorem own_le {w : World} {base : Nat} {e : TypeId} {size : Nat} {a : Option Addr} {m n c : Nat} {xs : List Value} (h : Own w base e size (.slice a m c) n xs) : n ≤ c := by
  obtain ⟨a', c', hv, hc, _, _⟩ := h.shape'
  cases hv
  exact hc
theorem Byt.drop {w : World} {g o : Nat} {l : List UInt8} (h : Byt w (some ⟨g, o, none⟩) l) (k : Nat) : Byt w (some ⟨g, o + k, none⟩) (l.drop k) := by
  intro i hi
  have hi' : k + i < l.length := by rw [List.length_drop] at hi; omega
  refine ⟨g, o + k, rfl, ?_⟩
  rw [Nat.add_assoc, h.at_ hi']
  simp
/-- The rows of an Open, read. -/
theorem OpS.rd {w wr : World} {base db lb : Nat} {F : Nat → Prop} {s : DS} {nm b : List UInt8} {ba : Option Addr} {bc k : Nat} {xs : List (List UInt8)} {v : Value} {Af : Nat → Option Addr} {Cf : Nat → Nat} (h : OpS w wr base db lb F s nm b ba bc k xs v Af Cf) :
    ∃ a c, v = .slice a xs.length c ∧ Rd2 wr a xs Af Cf ∧ RdG (fun i => w.heap.size ≤ i ∧ i < wr.heap.size) a xs Af := by
  obtain ⟨a, c, hv, hc, ha, -⟩ := h.row.shape'
  refine ⟨a, c, hv, ⟨?_, ?_, ?_, ?_⟩, ?_, ?_⟩
  · intro i hi
    rw [hv] at h
    have hr := h.row
    cases a with
    | none =>
      rcases hr.2 with ⟨_, h0⟩ | ⟨_, _, _, _, h0, _⟩
      · omega
      · cases h0
    | some ad =>
      rw [(ha ad rfl).1] at hr ⊢
      refine ⟨_, 0, rfl, ?_⟩
      rw [Nat.zero_add, hr.cellAt i (by omega), svs_get hi, getD_lt hi]
  · intro i hi
    have := (Own.byt (h.els i hi)).1
    rw [getD_lt hi] at this
    exact this
  · intro i hi
    have := own_le (h.els i hi)
    rw [getD_lt hi] at this
    exact this
  · intro i hi
    have := h.short xs[i] (List.getElem_mem hi)
    omega
  · intro ad hd _
    exact ⟨(ha ad hd).2.1, (ha ad hd).2.2⟩
  · intro i hi _ ad hd
    have h1 := (h.els i hi).lt ad.block (by rw [hd]; rfl)
    exact h1
theorem getD_snoc_lt {xs : List (List UInt8)} {x : List UInt8} {i : Nat} (h : i < xs.length) : (xs ++ [x]).getD i [] = xs.getD i [] := by simp [List.getD, List.getElem?_append_left h]
theorem getD_snoc_eq {xs : List (List UInt8)} {x : List UInt8} : (xs ++ [x]).getD xs.length [] = x := by simp [List.getD]
theorem svs_next (xs : List (List UInt8)) (x : List UInt8) (Af : Nat → Option Addr) (Cf : Nat → Nat) (a : Option Addr) (c : Nat) :
    svs (xs ++ [x]) (fun i => if i = xs.length then a else Af i) (fun i => if i = xs.length then c else Cf i) (xs.length + 1) = svs xs Af Cf xs.length ++ [.slice a x.length c] := by
  rw [svs_succ]
  congr 1
  · unfold svs
    apply List.map_congr_left
    intro i hi
    have hi' : i < xs.length := List.mem_range.1 hi
    have hne : ¬ i = xs.length := by omega
    simp only [if_neg hne, getD_snoc_lt hi']
  · simp only [if_pos, getD_snoc_eq]
end Go.Proofs.YtnbpkignkfabkaaGreatDoor
/- A scope with two labels: the run jumps back to the one, and forward to the other. -/
namespace Go.Proofs.YtnbpkignkfabkaaGreatDoor
set_option linter.unusedVariables false
set_option linter.unusedSimpArgs false
open Go.RowKit
def jump2 (l1 l2 : Nat) (J1 J2 : Act → World → Prop) (Q : Exit → Act → World → Prop) : Exit → Act → World → Prop
  | .goto l', a, w => (l' = l1 ∧ J1 a w) ∨ (l' = l2 ∧ J2 a w)
  | e, a, w => Q e a w
section
variable {P : Program} {a : Act} {w : World} {Q : Exit → Act → World → Prop}
theorem jump2_imp {l1 l2 : Nat} {J1 J1' J2 : Act → World → Prop} (h : ∀ a w, J1 a w → J1' a w) : ∀ e a w, jump2 l1 l2 J1 J2 Q e a w → jump2 l1 l2 J1' J2 Q e a w := fun e a w => by
  cases e with
  | goto l' => rintro (⟨h1, h2⟩ | h3); exact .inl ⟨h1, h a w h2⟩; exact .inr h3
  | _ => exact id
theorem wp_scope_jumps2 {c r1 r2 : Code} (l1 l2 : Nat) (J1 J2 : Act → World → Prop) (μ : Act → World → Nat) (hf1 : findLabel c l1 = some (Code.skip.seq r1)) (hf2 : findLabel c l2 = some r2)
    (pass1 : ∀ a w, J1 a w → r1.wp P (jump2 l1 l2 (fun a' w' => J1 a' w' ∧ μ a' w' < μ a w) J2 Q) a w)
    (pass2 : ∀ a w, J2 a w → r2.wp P (jump2 l1 l2 (fun _ _ => False) (fun _ _ => False) Q) a w)
    (first : (∀ a w, J1 a w → r1.wp P (jump2 l1 l2 J1 J2 Q) a w) → c.wp P (jump2 l1 l2 J1 J2 Q) a w) : (Code.scope c).wp P Q a w := by
  have first' := first (fun a w hJ => Code.wp_mono (jump2_imp fun _ _ h => h.1) (pass1 a w hJ))
  have pass1' : ∀ a w, J1 a w → (Code.skip.seq r1).wp P (jump2 l1 l2 (fun a' w' => J1 a' w' ∧ μ a' w' < μ a w) J2 Q) a w := fun a w hJ => wp_seq (wp_skip (pass1 a w hJ))
  intro b k cs
  have hg1 : gotoIn l1 (.inScope c :: k) = some (.code (Code.skip.seq r1) :: .inScope c :: k) := by simp [gotoIn, hf1]
  have hg2 : gotoIn l2 (.inScope c :: k) = some (.code r2 :: .inScope c :: k) := by simp [gotoIn, hf2]
  have key2 : ∀ a w, J2 a w → ∃ e a' w', Q e a' w' ∧ Arrives P (lone (b.at a (.code r2 :: .inScope c :: k)) cs w) b k cs e a' w' := by
    intro a w hJ
    obtain ⟨e, a₁, w₁, hq, harr⟩ := pass2 a w hJ b (.inScope c :: k) cs
    cases e with
    | normal => exact ⟨.normal, a₁, w₁, hq, Steps.trans harr (.one step_inScope)⟩
    | exit id => exact ⟨.exit id, a₁, w₁, hq, fun k' hk => harr k' (by simp [exitTo, hk])⟩
    | goto l' => rcases hq with ⟨_, h⟩ | ⟨_, h⟩ <;> exact h.elim
    | ret => exact ⟨_, a₁, w₁, hq, harr⟩
    | panic ch => exact ⟨_, a₁, w₁, hq, harr⟩
    | outgrown => exact ⟨_, a₁, w₁, hq, harr⟩
  have key : ∀ n a w, μ a w = n → J1 a w → ∃ e a' w', Q e a' w' ∧ Arrives P (lone (b.at a (.code (Code.skip.seq r1) :: .inScope c :: k)) cs w) b k cs e a' w' := by
    intro n
    induction n using Nat.strongRecOn with
    | _ n ih =>
      intro a w hn hJ
      obtain ⟨e, a₁, w₁, hq, harr⟩   := pass1' a w hJ b (.inScope c :: k) cs
      cases e with
      | normal => exact ⟨.normal, a₁, w₁, hq, Steps.trans harr (.one step_inScope)⟩
      | exit id => exact ⟨.exit id, a₁, w₁, hq, fun k' hk => harr k' (by simp [exitTo, hk])⟩
      | goto l' =>
        rcases hq with ⟨rfl, hJ', hlt⟩ | ⟨rfl, hJ'⟩
        · obtain ⟨e₂, a₂, w₂, hq₂, harr₂⟩ := ih _ (by omega) a₁ w₁ rfl hJ'
          exact ⟨e₂, a₂, w₂, hq₂, .of_steps (harr _ hg1) harr₂⟩
        · obtain ⟨e₂, a₂, w₂, hq₂, harr₂⟩ := key2 a₁ w₁ hJ'
          exact ⟨e₂, a₂, w₂, hq₂, .of_steps (harr _ hg2) harr₂⟩
      | ret => exact ⟨_, a₁, w₁, hq, harr⟩
      | panic ch => exact ⟨_, a₁, w₁, hq, harr⟩
      | outgrown => exact ⟨_, a₁, w₁, hq, harr⟩
  obtain ⟨e, a₁, w₁, hq, harr⟩ := first' b (.inScope c :: k) cs
  cases e with
  | normal => exact ⟨.normal, a₁, w₁, hq, .head step_scope (Steps.trans harr (.one step_inScope))⟩
  | exit id => exact ⟨.exit id, a₁, w₁, hq, fun k' hk => .head step_scope (harr k' (by simp [exitTo, hk]))⟩
  | goto l' =>
    rcases hq with ⟨rfl, hJ'⟩ | ⟨rfl, hJ'⟩
    · obtain ⟨e₂, a₂, w₂, hq₂, harr₂⟩ := key _ a₁ w₁ rfl hJ'
      exact ⟨e₂, a₂, w₂, hq₂, .of_steps (.head step_scope (harr _ hg1)) harr₂⟩
    · obtain ⟨e₂, a₂, w₂, hq₂, harr₂⟩ := key2 a₁ w₁ hJ'
      exact ⟨e₂, a₂, w₂, hq₂, .of_steps (.head step_scope (harr _ hg2)) harr₂⟩
  | ret => exact ⟨_, a₁, w₁, hq, .of_steps (.one step_scope) harr⟩
  | panic ch => exact ⟨_, a₁, w₁, hq, .of_steps (.one step_scope) harr⟩
  | outgrown => exact ⟨_, a₁, w₁, hq, .of_steps (.one step_scope) harr⟩
end
end Go.Proofs.YtnbpkignkfabkaaGreatDoor
namespace Go.Proofs.YtnbpkignkfabkaaGreatDoor
set_option linter.unusedVariables false
set_option linter.unusedSimpArgs false
open Go.RowKit Go.Maps
theorem OpS.next {w wr w3 w4 : World} {base db lb : Nat} {F : Nat → Prop} {s : DS} {nm b : List UInt8} {ba : Option Addr} {bc k : Nat} {xs : List (List UInt8)} {v v4 : Value} {Af : Nat → Option Addr} {Cf : Nat → Nat} {x : List UInt8} {n : Nat} {xa : Option Addr} {xc : Nat}
    (h : OpS w wr base db lb F s nm b ba bc k xs v Af Cf) (hF : ∀ i, F i → i < w.heap.size) (hlb : w.heap.size ≤ lb) (hg : 0 < w.heap.size) (hbl : b.length ≤ 268435456) (hu : UnframeR (b.drop k) = (x, n, 0)) (hk : k < b.length)
    (hb3 : Below wr.heap.size wr w3) (ho3 : Own w3 wr.heap.size 5 1 (.slice xa x.length xc) x.length (bys x))
    (ho4 : Own w4 w.heap.size 74 1 v4 (xs.length + 1) (svs xs Af Cf xs.length ++ [.slice xa x.length xc])) (hg4 : (w3.alloc (.cells #[.slice xa x.length xc] 74)).grownBy w4 v.ownBlock) :
    OpS w (w4.setCell ⟨lb, 2, none⟩ (.int .i64 ((k + n : Nat) : Int))) base db lb F s nm b ba bc (k + n) (xs ++ [x]) v4 (fun i => if i = xs.length then xa else Af i) (fun i => if i = xs.length then xc else Cf i) ∧ k < k + n ∧ k + n ≤ b.length := by
  have e0 : (b.drop k).length ≠ 0 := by rw [List.length_drop]; omega
  have hc : (UnframeR (b.drop k)).2.2 = 0 := by rw [hu]
  have hn := unframe_n hc
  rw [hu] at hn
  simp only [List.length_drop] at hn
  have hst := recOf_step e0 hc
  rw [hu] at hst
  simp only [List.drop_drop] at hst
  have hW : w.heap.size ≤ wr.heap.size := h.up.size
  have B3a : Below wr.heap.size wr (w3.alloc (.cells #[.slice xa x.length xc] 74)) := hb3.alloc hb3.size _
  have row3 : Own (w3.alloc (.cells #[.slice xa x.length xc] 74)) w.heap.size 74 1 v xs.length (svs xs Af Cf xs.length) := h.row.below B3a
  have lg3 : Lg (w3.alloc (.cells #[.slice xa x.length xc] 74)) lb db nm k false := h.lg.below B3a
  have U4 : Upd (fun i => v.ownBlock = some i) (w3.alloc (.cells #[.slice xa x.length xc] 74)) w4 := (Upd.refl _ _).grown hg4 (fun k hk _ => hk)
  have lg4 : Lg w4 lb db nm k false := lg3.upd U4 (fun e => (row3.not_ty lg3 (by decide)) e)
  have carry : ∀ {vv : Value} {nn : Nat} {xx : List Value}, Own (w3.alloc (.cells #[.slice xa x.length xc] 74)) w.heap.size 5 1 vv nn xx → Own (w4.setCell ⟨lb, 2, none⟩ (.int .i64 ((k + n : Nat) : Int))) w.heap.size 5 1 vv nn xx := by
    intro vv nn xx o
    have o4 := o.upd U4 (fun j hj e => Own.ne_type o row3 (by decide) j hj e)
    exact o4.setCell_other (a := ⟨lb, 2, none⟩) (o4.not_ty lg4 (by decide)) _
  have U5 : Upd (fun i => v.ownBlock = some i ∨ i = lb) wr (w4.setCell ⟨lb, 2, none⟩ (.int .i64 ((k + n : Nat) : Int))) :=
    (((Upd.mono (S' := fun i => v.ownBlock = some i ∨ i = lb) (Upd.ofBelow B3a) (fun _ s _ => s.elim))).trans U4 (fun i s _ => s) (fun i s _ => .inl s)).setCell (p := ⟨lb, 2, none⟩) (fun _ => .inr rfl) _
  have big : ∀ i, (v.ownBlock = some i ∨ i = lb) → w.heap.size ≤ i := by
    rintro i (s | s)
    · exact (h.row.lt i s).1
    · rw [s]; exact hlb
  refine ⟨⟨lg4.setN (k + n), ?_, ?_, carry (h.bo.below B3a), ?_, ?_, ?_, ?_, ?_, ?_, ?_, ?_⟩, by omega, by omega⟩
  · rw [List.length_append, List.length_singleton, svs_next]
    exact ho4.setCell_other (a := ⟨lb, 2, none⟩) (ho4.not_ty lg4 (by decide)) _
  · intro i hi
    rw [List.length_append, List.length_singleton] at hi
    by_cases e : i = xs.length
    · subst e
      simp only [if_pos, getD_snoc_eq]
      exact carry ((ho3.mono hW).alloc _)
    · simp only [if_neg e, getD_snoc_lt (show i < xs.length by omega)]
      exact carry ((h.els i (by omega)).below B3a)
  · exact h.up.trans U5 (fun i s _ => s) (fun i s hi => by have := big i s; omega)
  · exact h.dk.upd U5 (fun i s hf => by have := big i s; have := hF i hf; omega)
  · exact h.tab.upd U5 (fun s => by have := big _ s; omega)
  · rw [h.recs, hst]
    simp only [List.append_assoc, List.singleton_append, Prod.mk.injEq, true_and]
    exact ⟨by omega, trivial⟩
  · omega
  · rw [List.length_append, List.length_singleton]; have := h.cnt; omega
  · intro y hy
    rcases List.mem_append.1 hy with hy | hy
    · exact h.short y hy
    · rw [List.mem_singleton] at hy
      subst hy
      omega
  · intro i j hij hj q
    rw [List.length_append, List.length_singleton] at hj
    have hne : ¬ i = xs.length := by omega
    simp only [if_neg hne, getD_snoc_lt (show i < xs.length by omega)]
    intro hq
    by_cases e : j = xs.length
    · subst e
      simp only [if_pos, getD_snoc_eq]
      intro hq2
      have h1 := ((h.els i (by omega)).lt q hq).2
      have h2 := (ho3.lt q hq2).1
      omega
    · simp only [if_neg e, getD_snoc_lt (show j < xs.length by omega)]
      exact h.dis i j hij (by omega) q hq
theorem OpS.elsN {w wr : World} {base db lb : Nat} {F N : Nat → Prop} {s : DS} {nm b : List UInt8} {ba a : Option Addr} {bc k c : Nat} {xs : List (List UInt8)} {Af : Nat → Option Addr} {Cf : Nat → Nat} (h : OpS w wr base db lb F s nm b ba bc k xs (.slice a xs.length c) Af Cf) (hn : ∀ i, w.heap.size ≤ i → i < wr.heap.size → ¬ N i) : Els wr w.heap.size N a c xs Af Cf :=
  ⟨h.row, fun k hk => hn k (h.row.lt k hk).1 (h.row.lt k hk).2, h.els, h.dis, fun i k hi hk => hn k ((h.els i hi).lt k hk).1 ((h.els i hi).lt k hk).2⟩
end Go.Proofs.YtnbpkignkfabkaaGreatDoor
namespace Go.Proofs.YtnbpkignkfabkaaGreatDoor
set_option linter.unusedVariables false
set_option linter.unusedSimpArgs false
open Go.RowKit Go.Maps
/-- The frame at a label of Open's. -/
def OpF (db lb : Nat) (nm b : List UInt8) (ba : Option Addr) (bc : Nat) (v : Value) (a : Act) : Prop := a.defers = [] ∧ a.tmps.size = 81 ∧ a.tmps.getD 0 undef = .pointer (some ⟨db, 0, none⟩) ∧ a.tmps.getD 1 undef = .string ⟨nm.toArray⟩ ∧ a.tmps.getD 7 undef = .slice ba b.length bc ∧ a.tmps.getD 9 undef = .pointer (some ⟨lb, 0, none⟩) ∧ a.tmps.getD 10 undef = v
theorem tab_eq (l : List Value) : l = (List.range l.length).map (fun i => l.getD i undef) := by
  apply List.ext_getElem?
  intro i
  rw [List.getElem?_map]
  by_cases h : i < l.length
  · rw [List.getElem?_range h]
    simp [List.getD, h]
  · rw [List.getElem?_eq_none (by omega), List.getElem?_eq_none (by simp; omega)]
    rfl
theorem OpF.opened {db lb : Nat} {nm b : List UInt8} {ba : Option Addr} {bc : Nat} {v : Value} {a : Act} (h : OpF db lb nm b ba bc v a) : ∃ u : Nat → Value, a = { tmps := #[.pointer (some ⟨db, 0, none⟩), .string ⟨nm.toArray⟩, u 2, u 3, u 4, u 5, u 6, .slice ba b.length bc, u 8, .pointer (some ⟨lb, 0, none⟩), v, u 11, u 12, u 13, u 14, u 15, u 16, u 17, u 18, u 19, u 20, u 21, u 22, u 23, u 24, u 25, u 26, u 27, u 28, u 29, u 30, u 31, u 32, u 33, u 34, u 35, u 36, u 37, u 38, u 39, u 40, u 41, u 42, u 43, u 44, u 45, u 46, u 47, u 48, u 49, u 50, u 51, u 52, u 53, u 54, u 55, u 56, u 57, u 58, u 59, u 60, u 61, u 62, u 63, u 64, u 65, u 66, u 67, u 68, u 69, u 70, u 71, u 72, u 73, u 74, u 75, u 76, u 77, u 78, u 79, u 80], defers := [] } := by
  obtain ⟨h1, h2, k0, k1, k7, k9, k10⟩ := h
  obtain ⟨tmps, defers⟩ := a
  obtain ⟨l⟩ := tmps
  refine ⟨fun i => l.getD i undef, ?_⟩
  have e := tab_eq l
  have hl : l.length = 81 := h2
  rw [hl] at e
  have e2 : (List.range 81).map (fun i => l.getD i undef) = [l.getD 0 undef, l.getD 1 undef, l.getD 2 undef, l.getD 3 undef, l.getD 4 undef, l.getD 5 undef, l.getD 6 undef, l.getD 7 undef, l.getD 8 undef, l.getD 9 undef, l.getD 10 undef, l.getD 11 undef, l.getD 12 undef, l.getD 13 undef, l.getD 14 undef, l.getD 15 undef, l.getD 16 undef, l.getD 17 undef, l.getD 18 undef, l.getD 19 undef, l.getD 20 undef, l.getD 21 undef, l.getD 22 undef, l.getD 23 undef, l.getD 24 undef, l.getD 25 undef, l.getD 26 undef, l.getD 27 undef, l.getD 28 undef, l.getD 29 undef, l.getD 30 undef, l.getD 31 undef, l.getD 32 undef, l.getD 33 undef, l.getD 34 undef, l.getD 35 undef, l.getD 36 undef, l.getD 37 undef, l.getD 38 undef, l.getD 39 undef, l.getD 40 undef, l.getD 41 undef, l.getD 42 undef, l.getD 43 undef, l.getD 44 undef, l.getD 45 undef, l.getD 46 undef, l.getD 47 undef, l.getD 48 undef, l.getD 49 undef, l.getD 50 undef, l.getD 51 undef, l.getD 52 undef, l.getD 53 undef, l.getD 54 undef, l.getD 55 undef, l.getD 56 undef, l.getD 57 undef, l.getD 58 undef, l.getD 59 undef, l.getD 60 undef, l.getD 61 undef, l.getD 62 undef, l.getD 63 undef, l.getD 64 undef, l.getD 65 undef, l.getD 66 undef, l.getD 67 undef, l.getD 68 undef, l.getD 69 undef, l.getD 70 undef, l.getD 71 undef, l.getD 72 undef, l.getD 73 undef, l.getD 74 undef, l.getD 75 undef, l.getD 76 undef, l.getD 77 undef, l.getD 78 undef, l.getD 79 undef, l.getD 80 undef] := by rfl
  rw [e2] at e
  have j0 : l.getD 0 undef = .pointer (some ⟨db, 0, none⟩) := by have := k0; simpa [Array.getD, List.getD, hl] using this
  have j1 : l.getD 1 undef = .string ⟨nm.toArray⟩ := by have := k1; simpa [Array.getD, List.getD, hl] using this
  have j7 : l.getD 7 undef = .slice ba b.length bc := by have := k7; simpa [Array.getD, List.getD, hl] using this
  have j9 : l.getD 9 undef = .pointer (some ⟨lb, 0, none⟩) := by have := k9; simpa [Array.getD, List.getD, hl] using this
  have j10 : l.getD 10 undef = v := by have := k10; simpa [Array.getD, List.getD, hl] using this
  rw [j0, j1, j7, j9, j10] at e
  have h1' : defers = [] := h1
  subst h1'
  exact congrArg (fun t => ({ tmps := ⟨t⟩, defers := [] } : Act)) e
def OpJ (w : World) (base db : Nat) (F : Nat → Prop) (s : DS) (nm b : List UInt8) (a : Act) (wr : World) : Prop :=
  ∃ (lb : Nat) (ba : Option Addr) (bc k : Nat) (xs : List (List UInt8)) (v : Value) (Af : Nat → Option Addr) (Cf : Nat → Nat), OpF db lb nm b ba bc v a ∧ w.heap.size ≤ lb ∧ OpS w wr base db lb F s nm b ba bc k xs v Af Cf
/-- .. where a torn record stands. -/
def OpT (w : World) (base db : Nat) (F : Nat → Prop) (s : DS) (nm b : List UInt8) (a : Act) (wr : World) : Prop :=
  ∃ (lb : Nat) (ba : Option Addr) (bc k : Nat) (xs : List (List UInt8)) (v : Value) (Af : Nat → Option Addr) (Cf : Nat → Nat), OpF db lb nm b ba bc v a ∧ w.heap.size ≤ lb ∧ OpS w wr base db lb F s nm b ba bc k xs v Af Cf ∧ recOf b = (xs, k, 30)
def sizeAt (lb : Nat) (w : World) : Nat := match w.cell? ⟨lb, 2, none⟩ with | some (.int _ n) => n.toNat | _ => 0
theorem sizeAt_lg {w : World} {lb db : Nat} {nm : List UInt8} {n : Nat} {o : Bool} (h : Lg w lb db nm n o) : sizeAt lb w = n := by unfold sizeAt; rw [h.cells.2.2.1]; simp
def opM (b : List UInt8) (a : Act) (w : World) : Nat := match a.tmps.getD 9 undef with | .pointer (some ad) => b.length - sizeAt ad.block w | _ => 0
set_option maxRecDepth 100000 in
set_option maxHeartbeats 8000000 in
theorem Open_calls (base db : Nat) (F : Nat → Prop) (s : DS) (nm : List UInt8) (w : World) (h : Dk w base F db s) (hF : ∀ i, F i → i < w.heap.size) (ht : Tab w) (hg : 0 < w.heap.size) (hnt : ¬ F 0) (hnm : nm.length ≤ 140737488351232) (hw : s.writes ≤ 4611686018427387904) :
    Calls Tryz.prog 16 #[.pointer (some ⟨db, 0, none⟩), .string ⟨nm.toArray⟩] w fun r w' => OpenP w w' base db F nm (openR s nm) r := by
  have RC := Lib.hid (Read_dk nm h hnm)
  have DH := Lib.hid h; have HF := Lib.hid hF; have TB := Lib.hid ht; have HG := Lib.hid hg; have HNM := Lib.hid hnm; have HW := Lib.hid hw; have NT := Lib.hid hnt
  obtain ⟨q, hq⟩ : ∃ q, openR s nm = q := ⟨_, rfl⟩
  rw [hq]
  have HQ := Lib.hid hq
  obtain ⟨e, he⟩ : ∃ e, s.may true [nm] = e := ⟨_, rfl⟩
  rw [he] at RC
  have HE := Lib.hid he
  obtain ⟨b, hb⟩ : ∃ b, readB s nm = b := ⟨_, rfl⟩
  rw [hb] at RC
  have HB := Lib.hid hb
  have BL : b.length ≤ 268435456 := by
    rw [← hb]; unfold readB
    split
    · exact h.ok.byt nm
    · exact Nat.zero_le _
  have BLH := Lib.hid BL
  clear h hF ht hg hnm hw hnt hq he hb BL
  go_enter Tryz.func16, Tryz.ntmps16
  by_cases c1 : e ≠ 0 ∧ e ≠ 92
  · have t1 : (e != 0) = true := by rw [bne_iff_ne]; exact c1.1
    have t2 : (e != 92) = true := by rw [bne_iff_ne]; exact c1.2
    have QE : Hid (q = (e, none, s)) := by
      show _ = _; rw [← HQ.out]; unfold openR; rw [HE.out, if_pos c1]
    clear c1
    go_wp2_with fail
    refine wp_scope_straight ?_
    go_wp2_with fail
    refine RC.out.mono ?_
    rintro r w1 ⟨v1, rfl, ho, hd, hu⟩
    have FIN : Hid (OpenP w w1 base db F nm q (.returned (.tuple #[.pointer none, .slice none 0 0, .int .i64 e]))) := by
      rw [QE.out]
      exact ⟨F, hd, hu.mono (fun i hi _ => by rw [hi]; exact DH.out.at_), fun i k => .inl k, rfl⟩
    clear ho hd hu
    go_wp2
    try rw [Exit.noGoto_ret]
    go_ret3
    exact FIN.out
  · have EC : Hid (e = 0 ∨ e = 92) := by
      show _
      by_cases h0 : e = 0
      · exact .inl h0
      · by_cases h9 : e = 92
        · exact .inr h9
        · exact absurd ⟨h0, h9⟩ c1
    have QE : Hid (q = if (recOf b).2.2 = 101 then (101, none, s) else if (recOf b).2.2 = 0 then (0, some ((recOf b).1, (recOf b).2.1), s)
        else if (s.cut nm (recOf b).2.1).1 ≠ 0 then ((s.cut nm (recOf b).2.1).1, none, (s.cut nm (recOf b).2.1).2) else (0, some ((recOf b).1, (recOf b).2.1), (s.cut nm (recOf b).2.1).2)) := by
      show _ = _; rw [← HQ.out]; unfold openR; rw [HE.out, if_neg c1, HB.out]
    clear c1 HQ
    go_wp2_with fail
    refine wp_scope_jumps2 0 1 (OpJ w base db F s nm b) (OpT w base db F s nm b) (opM b) rfl rfl ?_ ?_ ?_
    · -- a pass from the label
      rintro a wr ⟨lb, ba, bc, k, xs, v, Af, Cf, hfr, hlb, hs⟩
      obtain ⟨u, rfl⟩ := hfr.opened
      clear hfr
      have OS := Lib.hid hs; have HLB := Lib.hid hlb
      clear hs hlb
      obtain ⟨c0, c1, c2, c3⟩ := OS.out.lg.cells
      have NF : ¬ F lb := fun hf => by have := HF.out lb hf; have := HLB.out; omega
      have NFH := Lib.hid NF
      clear NF
      by_cases hk : k = b.length
      · have t1 : ((k : Int) == (b.length : Int)) = true := by rw [hk]; exact beq_iff_eq.2 rfl
        obtain ⟨a, c, rfl, hrd, hrg⟩ := OS.out.rd
        have FIN : Hid (OpenP w wr base db F nm q (.returned (.tuple #[.pointer (some ⟨lb, 0, none⟩), .slice a xs.length c, .int .i64 0]))) := by
          have hr := OS.out.recs
          rw [hk, List.drop_length, recOf_nil] at hr
          have e1 : q = (0, some (xs, k), s) := by
            rw [QE.out, hr, hk]
            simp
          rw [e1]
          exact ⟨F, OS.out.dk, OS.out.up, fun i hi => .inl hi, lb, a, c, Af, Cf, rfl, OS.out.lg, HLB.out, NFH.out, hrd, hrg.mono (fun i hi => ⟨hi.1, (fun hf => by have := HF.out i hf; omega), hi.2⟩), OS.out.elsN (fun i h1 _ hf => by have := HF.out i hf; omega)⟩
        clear hrd hrg hk
        go_wp2
        simp only [jump2]
        go_ret3
        exact FIN.out
      · have t1 : ((k : Int) == (b.length : Int)) = false := beq_eq_false_iff_ne.2 (by omega)
        have hkl := OS.out.kle
        have hlt : k < b.length := by omega
        obtain ⟨g, cap, hbv⟩ := OS.out.bo.shape (by omega)
        obtain ⟨rfl, rfl⟩ : ba = some ⟨g, 0, none⟩ ∧ bc = cap := by injection hbv with e1 e2 e3; exact ⟨e1, e3⟩
        clear hbv
        have hcap := own_le OS.out.bo
        have hby := (Own.byt OS.out.bo).1
        have hck : ¬ bc = k := by omega
        have i1 : (k : Int) ≤ (b.length : Int) := by omega
        have i2 : (k : Int) ≤ (bc : Int) := by omega
        have i3 : (b.length : Int) ≤ (bc : Int) := by omega
        have UC := Unframe_calls wr (b.drop k) (some ⟨g, 0 + k, none⟩) (bc - k) (hby.drop k) (by rw [List.length_drop]; omega) (by rw [List.length_drop]; have := BLH.out; omega) OS.out.tab
        rw [List.length_drop, Nat.zero_add] at UC
        obtain ⟨⟨x, n, f⟩, hu⟩ : ∃ q, UnframeR (b.drop k) = q := ⟨_, rfl⟩
        rw [hu] at UC
        have UCH := Lib.hid UC
        have HU := Lib.hid hu
        have E0 : Hid ((b.drop k).length ≠ 0) := by show _ ≠ _; rw [List.length_drop]; omega
        have HLT := Lib.hid hlt
        clear UC hu hby hk hkl
        go_wp2_with fail
        refine UCH.out.mono ?_
        rintro r w3 ⟨xv, rfl, ho3, hb3⟩
        obtain ⟨xa, xc, rfl, -, -, -, -, -⟩ := own_val ho3
        have B3 := Lib.hid hb3; have O3 := Lib.hid ho3
        clear ho3 hb3 UCH
        by_cases cf : f = 0
        · subst cf
          have hn := unframe_n (b := b.drop k) (by rw [HU.out])
          rw [HU.out, List.length_drop] at hn
          simp only at hn
          obtain ⟨hn1, hn2, hn3⟩ := hn
          have i6 : (n : Int) ≤ 268435456 := by have := BLH.out; omega
          have i7 : (k : Int) ≤ 268435456 := by have := BLH.out; omega
          have hcnt := OS.out.cnt
          have M4 : Hid (xs.length + 1 ≤ maxLen) := by show _ ≤ _; have := BLH.out; unfold maxLen; omega
          have M5 : Hid ((xs.length + 1) * 24 ≤ 140737488355328) := by show _ ≤ _; have := BLH.out; omega
          have B3a : Below wr.heap.size wr (w3.alloc (.cells #[.slice xa x.length xc] 74)) := B3.out.alloc B3.out.size _
          have S3 : Hid (w.heap.size ≤ (w3.alloc (.cells #[.slice xa x.length xc] 74)).heap.size) := by show _ ≤ _; have := OS.out.up.size; have := B3a.size; omega
          have R3 := Lib.hid (OS.out.row.below B3a)
          have L3 := Lib.hid (OS.out.lg.below B3a)
          clear hn1 hn2 hn3 hcnt hlt B3a
          go_wp2_with (at_builtin; refine wpList_append rfl (.tmp 55) (.tmp 57) 37 37 rfl w.heap.size 74 (.slice none 0 0) 1 24 Tryz.underlying37 infoRow rfl (n := xs.length) (xs := svs xs Af Cf xs.length) R3.out rfl (xv := .slice (some ⟨w3.heap.size, 0, none⟩) 1 1) (m := 1) (news := [.slice xa x.length xc]) (Src_new Tryz.underlying37 (e := 74) (heap_alloc_new w3 _) rfl) rfl M4.out M5.out S3.out ?_)
          intro v4 w4 ho4 hg4 hn4 hv4
          have NX := OS.out.next (fun i hi => HF.out i hi) HLB.out HG.out BLH.out HU.out HLT.out B3.out O3.out ho4 hg4
          have L4 : Lg w4 lb db nm k false := L3.out.upd (S := fun i => v.ownBlock = some i) ((Upd.refl _ _).grown hg4 (fun k hk _ => hk)) (fun e => (R3.out.not_ty L3.out (by decide)) e)
          obtain ⟨d0, d1, d2, d3⟩ := L4.cells
          have f2 := L4.froz 2
          have en : ((k + n : Nat) : Int) = (k : Int) + (n : Int) := by omega
          rw [en] at NX
          have NXH := Lib.hid NX
          clear ho4 hg4 hn4 hv4 NX L4 en c0 c1 c2 c3
          go_wp2
          go_step3
          refine .inl ⟨rfl, ⟨lb, some ⟨g, 0, none⟩, bc, k + n, xs ++ [x], v4, _, _, ⟨rfl, rfl, rfl, rfl, rfl, rfl, rfl⟩, HLB.out, NXH.out.1⟩, ?_⟩
          show b.length - sizeAt lb _ < b.length - sizeAt lb _
          rw [sizeAt_lg NXH.out.1.lg, sizeAt_lg OS.out.lg]
          have := NXH.out.2
          omega
        · have t2 : (f == 0) = false := beq_eq_false_iff_ne.2 cf
          by_cases cg : f = 30
          · subst cg
            have t3 : ((30 : Int) == 30) = true := rfl
            have TN : Hid (recOf b = (xs, k, 30)) := by
              show _ = _
              rw [OS.out.recs, recOf_short E0.out (by rw [HU.out])]
              simp
            have OS3 : Hid (OpS w w3 base db lb F s nm b (some ⟨g, 0, none⟩) bc k xs v Af Cf) := by
              have hW := OS.out.up.size
              exact ⟨OS.out.lg.below B3.out, OS.out.row.below B3.out, fun i hi => (OS.out.els i hi).below B3.out, OS.out.bo.below B3.out, OS.out.up.same ((Upd.ofBelow B3.out).mono (fun _ s _ => s.elim)), OS.out.dk.below B3.out, OS.out.tab.below B3.out, OS.out.recs, OS.out.kle, OS.out.cnt, OS.out.short, OS.out.dis⟩
            go_wp2
            go_step3
            exact .inr ⟨rfl, lb, some ⟨g, 0, none⟩, bc, k, xs, v, Af, Cf, ⟨rfl, rfl, rfl, rfl, rfl, rfl, rfl⟩, HLB.out, OS3.out, TN.out⟩
          · have t3 : (f == 30) = false := beq_eq_false_iff_ne.2 cg
            have FIN : Hid (OpenP w w3 base db F nm q (.returned (.tuple #[.pointer none, .slice none 0 0, .int .i64 101]))) := by
              have hr := OS.out.recs
              rw [recOf_hurt E0.out (by rw [HU.out]; exact cf) (by rw [HU.out]; exact cg)] at hr
              have e1 : q = (101, none, s) := by
                rw [QE.out, hr]
                simp
              rw [e1]
              exact ⟨F, OS.out.dk.below B3.out, OS.out.up.same ((Upd.ofBelow B3.out).mono (fun _ s _ => s.elim)), fun i hi => .inl hi, rfl⟩
            go_wp2
            simp only [jump2]
            go_ret3
            exact FIN.out
    · -- the torn one
      rintro a wr ⟨lb, ba, bc, k, xs, v, Af, Cf, hfr, hlb, hs, hrec⟩
      obtain ⟨u, rfl⟩ := hfr.opened
      clear hfr
      have OS := Lib.hid hs; have HLB := Lib.hid hlb; have HR := Lib.hid hrec
      clear hs hlb hrec
      obtain ⟨c0, c1, c2, c3⟩ := OS.out.lg.cells
      have NFH : Hid (¬ F lb) := fun hf => by have := HF.out lb hf; have := HLB.out; omega
      have CC := Lib.hid (Cut_dk base db F s nm (k : Int) wr OS.out.dk HNM.out HW.out)
      obtain ⟨⟨ec, sc⟩, hsc⟩ : ∃ q, s.cut nm (k : Int) = q := ⟨_, rfl⟩
      rw [hsc] at CC
      have QC : Hid (q = if ec ≠ 0 then (ec, none, sc) else (0, some (xs, k), sc)) := by
        show _ = _
        rw [QE.out, HR.out]
        simp [hsc]
      clear hsc
      go_wp2_with fail
      refine CC.out.mono ?_
      rintro r w5 ⟨rfl, F', hd5, hu5, hf5⟩
      have NF5 : ¬ F' lb := fun hf => by
        rcases hf5 lb hf with h9 | h9
        · exact NFH.out h9
        · have := OS.out.lg.lt; omega
      have hW := OS.out.up.size
      have UU : Hid (Upd F w w5) := OS.out.up.same hu5
      have FF : Hid (∀ i, F' i → F i ∨ w.heap.size ≤ i) := fun i hi => (hf5 i hi).elim .inl (fun h9 => .inr (Nat.le_trans hW h9))
      have LL : Hid (Lg w5 lb db nm k false) := OS.out.lg.upd hu5 NFH.out
      have D5 := Lib.hid hd5; have NF5H := Lib.hid NF5; have U5 := Lib.hid hu5; have F5 := Lib.hid hf5
      have ELS : Hid (∀ a c, v = .slice a xs.length c → Els w5 w.heap.size F' a c xs Af Cf) := fun a c hv => (((show OpS w wr base db lb F s nm b ba bc k xs (.slice a xs.length c) Af Cf from by rw [← hv]; exact OS.out).elsN (N := fun i => F i ∨ F' i) (fun i h1 h2 hn => by
        rcases hn with h9 | h9
        · have := HF.out i h9; omega
        · rcases hf5 i h9 with h8 | h8
          · have := HF.out i h8; omega
          · omega)).upd hu5 (fun i hi => .inl hi)).out2 (fun i hi _ _ => .inr hi)
      clear CC hd5 hu5 hf5 NF5 hW
      by_cases ce : ec = 0
      · subst ce
        have t1 : ((0 : Int) != 0) = false := rfl
        obtain ⟨a, c, rfl, hrd, hrg⟩ := OS.out.rd
        have FIN : Hid (OpenP w w5 base db F nm q (.returned (.tuple #[.pointer (some ⟨lb, 0, none⟩), .slice a xs.length c, .int .i64 0]))) := by
          have e1 : q = (0, some (xs, k), sc) := by rw [QC.out]; simp
          rw [e1]
          have hrd5 := hrd.upd hrg U5.out (fun i hf hz => by have := HF.out i hf; omega)
          refine ⟨F', D5.out, UU.out, FF.out, lb, a, c, Af, Cf, rfl, LL.out, HLB.out, NF5H.out, hrd5, hrg.mono (fun i hi => ⟨hi.1, (fun hf => ?_), Nat.lt_of_lt_of_le hi.2 U5.out.size⟩), ELS.out a c rfl⟩
          rcases F5.out i hf with h9 | h9
          · have := HF.out i h9; omega
          · omega
        clear hrd hrg
        go_wp2
        simp only [jump2]
        go_ret3
        exact FIN.out
      · have t1 : (ec != 0) = true := by rw [bne_iff_ne]; exact ce
        have FIN : Hid (OpenP w w5 base db F nm q (.returned (.tuple #[.pointer none, .slice none 0 0, .int .i64 ec]))) := by
          have e1 : q = (ec, none, sc) := by rw [QC.out, if_pos ce]
          rw [e1]
          exact ⟨F', D5.out, UU.out, FF.out, rfl⟩
        clear ce
        go_wp2
        simp only [jump2]
        go_ret3
        exact FIN.out
    · -- ahead of the label
      intro HP
      have HPH := Lib.hid HP
      clear HP
      rcases EC.out with he | he
      all_goals
        subst he
        go_wp2_with fail
        refine RC.out.mono ?_
        rintro r w1 ⟨v1, rfl, ho, hd, hu⟩
        obtain ⟨ba, bc, rfl, -, -, -, -, -⟩ := own_val ho
        have O1 := Lib.hid ho; have D1 := Lib.hid hd; have U1 := Lib.hid hu
        clear ho hd hu
        go_wp2
        go_step3
        rename_i hK
        refine hK _ _ (HPH.out _ _ ?_)
        refine ⟨w1.heap.size, ba, bc, 0, [], .slice none 0 0, (fun _ => none), (fun _ => 0), ⟨rfl, rfl, rfl, rfl, rfl, rfl, rfl⟩, U1.out.size, ?_⟩
        have BA : Below w1.heap.size w1 (w1.alloc (.cells #[.pointer (some ⟨db, 0, none⟩), .string ⟨nm.toArray⟩, .int .i64 0, .bool false] 126)) := (Below.refl _ _).alloc (Nat.le_refl _) _
        refine ⟨heap_alloc_new w1 _, Own.nil _ _ _ _, (fun i hi => absurd hi (Nat.not_lt_zero _)), O1.out.below BA, (U1.out.mono (fun i hi _ => by rw [hi]; exact DH.out.at_)).alloc _, D1.out.below BA, (TB.out.upd U1.out (fun s => NT.out (by rw [s]; exact DH.out.at_))).below BA, by simp, Nat.zero_le _, Nat.le_refl _, (fun x hx => by cases hx), (fun i j _ hj => absurd hj (Nat.not_lt_zero _))⟩

end Go.Proofs.YtnbpkignkfabkaaGreatDoor
