/- Two pairs of writers beside a Late and a Book. -/
import Derived.Test.YtjiciklnhcmfaaaGreatDoorLay
import Derived.Test.YtjiciklnhcmfaaaGreatDoorDone
import Derived.Test.YtjiciklnhcmfaaaGreatDoorBookNew
namespace Go.Proofs.YtjiciklnhcmfaaaGreatDoor
set_option linter.unusedVariables false
set_option linter.unusedSimpArgs false
open Go.RowKit
theorem LBx.guard2 {S : Nat → Prop} {w w' : World} {base : Nat} {Pr Pr' : Nat → Prop} {tb bb n : Nat} (h : LBx w base Pr tb bb n) (hu : Upd S w w') (hs : ∀ k, S k → k < w.heap.size → Pr k ∨ k < base) (hp : ∀ k, Pr' k → Pr k ∨ w.heap.size ≤ k ∧ k < w'.heap.size) : LBx w' base Pr' tb bb n := by
  obtain ⟨L, vg, vw, E, vb, vo, bat, tn, dn, us, hl, hq⟩ := h
  have hf := hq.foot
  have hw := hq.upd hu (fun k s => by
    have key : ∀ q : Prop, (LtF tb vg vw L k ∨ BkF bb vb vo E k) → q := by
      intro q hq'
      obtain ⟨f1, f2, f3⟩ := hf k hq'
      rcases hs k s f2 with hp | hp
      · exact absurd hp f3
      · omega
    exact ⟨fun hq => key False (.inl hq), fun hq => key False (.inr hq)⟩)
  refine ⟨L, vg, vw, E, vb, vo, bat, tn, dn, us, hl, ⟨⟨hw.lt.blk, hw.lt.tbge, hw.lt.got, hw.lt.want, hw.lt.gw, hw.lt.gok, hw.lt.wok, hw.lt.gg, ?_, hw.lt.xl⟩,
    ⟨hw.bk.blk, hw.bk.bbge, hw.bk.rows, hw.bk.ofs, hw.bk.ent, hw.bk.ee, hw.bk.uq, ?_, hw.bk.en⟩, hw.cnt, hw.dis⟩⟩
  · intro k q
    rcases hp k q with q | ⟨q1, q2⟩
    · exact hw.lt.pr k q
    · exact ⟨q2, fun e => by have := (hf k (.inl e)).2.1; omega⟩
  · intro k q
    rcases hp k q with q | ⟨q1, q2⟩
    · exact hw.bk.pr k q
    · have nf : ¬ BkF bb vb vo E k := fun e => by have := (hf k (.inr e)).2.1; omega
      exact ⟨q2, fun e => nf (.inl e), fun e => nf (.inr (.inl e)), fun e => nf (.inr (.inr (.inl e))), fun f hf e => nf (.inr (.inr (.inr ⟨f, hf, e⟩)))⟩
/-- What the writers stand in. -/
def P4 (wb rb : Nat) (v u v' u' : Value) (k : Nat) : Prop := k = wb ∨ k = rb ∨ v.ownBlock = some k ∨ u.ownBlock = some k ∨ v'.ownBlock = some k ∨ u'.ownBlock = some k
structure S2 (w : World) (B wb rb tb bb n po pq : Nat) (l : List UInt8) (e : Int) (v u : Value) (l' : List UInt8) (e' : Int) (v' u' : Value) : Prop where
  x : Tw w wb po rb po B l e v u
  y : Tw w wb pq rb pq B l' e' v' u'
  d : ∀ k, (v.ownBlock = some k ∨ u.ownBlock = some k) → ¬ (v'.ownBlock = some k ∨ u'.ownBlock = some k)
  lb : LBx w B (P4 wb rb v u v' u') tb bb n
section
variable {w w1 w2 : World} {B wb rb tb bb n po pq : Nat} {l : List UInt8} {e : Int} {v u : Value} {l' : List UInt8} {e' : Int} {v' u' : Value}
theorem S2.swap (h : S2 w B wb rb tb bb n po pq l e v u l' e' v' u') : S2 w B wb rb tb bb n pq po l' e' v' u' l e v u :=
  ⟨h.y, h.x, fun k a b => h.d k b a, h.lb.weak (fun k s => by
    rcases s with s | s | s | s | s | s
    · exact .inl s
    · exact .inr (.inl s)
    · exact .inr (.inr (.inr (.inr (.inl s))))
    · exact .inr (.inr (.inr (.inr (.inr s))))
    · exact .inr (.inr (.inl s))
    · exact .inr (.inr (.inr (.inl s))))⟩
theorem S2.below (h : S2 w B wb rb tb bb n po pq l e v u l' e' v' u') (hb : Below w.heap.size w w1) : S2 w1 B wb rb tb bb n po pq l e v u l' e' v' u' :=
  ⟨h.x.below hb, h.y.below hb, h.d, h.lb.upd (Upd.ofBelow hb) (fun _ s => s.elim)⟩
theorem S2.mono {n' : Nat} (h : S2 w B wb rb tb bb n po pq l e v u l' e' v' u') (hn : n ≤ n') : S2 w B wb rb tb bb n' po pq l e v u l' e' v' u' := ⟨h.x, h.y, h.d, h.lb.mono hn⟩
theorem S2.lay {l2 : List UInt8} {e2 : Int} {v2 u2 : Value} (h : S2 w B wb rb tb bb n po pq l e v u l' e' v' u') (a : Tw w1 wb po rb po B l2 e2 v2 u2) (k : TUpd w w1 wb po rb po v u v2 u2) (q : pq ≠ po ∧ pq ≠ po + 1 ∧ pq + 1 ≠ po) : S2 w1 B wb rb tb bb n po pq l2 e2 v2 u2 l' e' v' u' := by
  have q2 : pq + 1 ≠ po + 1 := by omega
  have yv : ∀ i, v'.ownBlock = some i → i < w.heap.size := fun i hi => (h.y.a.own.lt i hi).2
  have yu : ∀ i, u'.ownBlock = some i → i < w.heap.size := fun i hi => (h.y.b.own.lt i hi).2
  refine ⟨a, ⟨⟨(k.r1 pq q.1 q.2.1).1.trans h.y.a.c0, (k.r1 (pq + 1) q.2.2 q2).1.trans h.y.a.c1, (k.r1 pq q.1 q.2.1).2.trans h.y.a.f0, (k.r1 (pq + 1) q.2.2 q2).2.trans h.y.a.f1, h.y.a.own.upd k.upd ?_, h.y.a.ne⟩,
    ⟨(k.r2 pq q.1 q.2.1).1.trans h.y.b.c0, (k.r2 (pq + 1) q.2.2 q2).1.trans h.y.b.c1, (k.r2 pq q.1 q.2.1).2.trans h.y.b.f0, (k.r2 (pq + 1) q.2.2 q2).2.trans h.y.b.f1, h.y.b.own.upd k.upd ?_, h.y.b.ne⟩, h.y.n1, h.y.n2, h.y.n3, h.y.n4, h.y.h1, h.y.h2⟩, ?_, ?_⟩
  · intro i hi s
    rcases s with s | s | s | s
    · rw [s] at hi; exact h.y.a.ne hi
    · rw [s] at hi; exact h.y.n1 hi
    · exact h.d i (.inl s) (.inl hi)
    · exact h.d i (.inr s) (.inl hi)
  · intro i hi s
    rcases s with s | s | s | s
    · rw [s] at hi; exact h.y.n2 hi
    · rw [s] at hi; exact h.y.b.ne hi
    · exact h.d i (.inl s) (.inr hi)
    · exact h.d i (.inr s) (.inr hi)
  · intro i hi s
    rcases hi with hi | hi
    · rcases k.o1 with c | c
      · rw [c] at hi; exact h.d i (.inl hi) s
      · have := c i hi
        rcases s with s | s
        · have := yv i s; omega
        · have := yu i s; omega
    · rcases k.o2 with c | c
      · rw [c] at hi; exact h.d i (.inr hi) s
      · have := c i hi
        rcases s with s | s
        · have := yv i s; omega
        · have := yu i s; omega
  · refine h.lb.guard2 k.upd (fun i s _ => .inl ?_) (fun i s => ?_)
    · rcases s with s | s | s | s
      · exact .inl s
      · exact .inr (.inl s)
      · exact .inr (.inr (.inl s))
      · exact .inr (.inr (.inr (.inl s)))
    · rcases s with s | s | s | s | s | s
      · exact .inl (.inl s)
      · exact .inl (.inr (.inl s))
      · rcases k.o1 with c | c
        · rw [c] at s; exact .inl (.inr (.inr (.inl s)))
        · exact .inr ⟨c i s, (a.a.own.lt i s).2⟩
      · rcases k.o2 with c | c
        · rw [c] at s; exact .inl (.inr (.inr (.inr (.inl s))))
        · exact .inr ⟨c i s, (a.b.own.lt i s).2⟩
      · exact .inl (.inr (.inr (.inr (.inr (.inl s)))))
      · exact .inl (.inr (.inr (.inr (.inr (.inr s)))))
theorem Tw.free {Pr : Nat → Prop} (h : Tw w wb po rb pq B l e v u) (hu : Upd (Free B Pr) w w1) (p1 : Pr wb) (p2 : Pr rb) (p3 : ∀ k, v.ownBlock = some k → Pr k) (p4 : ∀ k, u.ownBlock = some k → Pr k) : Tw w1 wb po rb pq B l e v u :=
  ⟨h.a.upd hu (fun s => s.2 p1) (fun k hk s => s.2 (p3 k hk)), h.b.upd hu (fun s => s.2 p2) (fun k hk s => s.2 (p4 k hk)), h.n1, h.n2, h.n3, h.n4, h.h1, h.h2⟩
theorem S2.free {n' : Nat} (h : S2 w B wb rb tb bb n po pq l e v u l' e' v' u') (hl : LBx w1 B (P4 wb rb v u v' u') tb bb n') (hu : Upd (Free B (P4 wb rb v u v' u')) w w1) : S2 w1 B wb rb tb bb n' po pq l e v u l' e' v' u' :=
  ⟨h.x.free hu (.inl rfl) (.inr (.inl rfl)) (fun k s => .inr (.inr (.inl s))) (fun k s => .inr (.inr (.inr (.inl s)))), h.y.free hu (.inl rfl) (.inr (.inl rfl)) (fun k s => .inr (.inr (.inr (.inr (.inl s))))) (fun k s => .inr (.inr (.inr (.inr (.inr s))))), h.d, hl⟩
theorem TUpd.from (h : Tw w wb po rb pq B l e v u) (k : TUpd w w1 wb po rb pq v u v' u') : Upd (fun i => B ≤ i) w w1 :=
  k.upd.mono (fun i s _ => by
    rcases s with s | s | s | s
    · rw [s]; exact h.h1
    · rw [s]; exact h.h2
    · exact (h.a.own.lt i s).1
    · exact (h.b.own.lt i s).1)
end
theorem lOp_len (l : List UInt8) (e : Int) {o : OpD} (hd : o.d.length = 16) : (lOp l e o).1.length ≤ l.length + o.b.length + 16 := by
  have hN : ∀ n k, (wNum l e n k).1.length ≤ l.length + o.b.length + 16 := by
    intro n k
    unfold wNum
    split
    · split
      · rename_i hk; simp only [List.length_append, be_length]; omega
      · simp only; omega
    · simp only; omega
  have hT : (wText l e o.b).1.length ≤ l.length + o.b.length + 16 := by
    unfold wText
    split
    · split
      · simp only [List.length_append, be_length]; omega
      · simp only; omega
    · simp only; omega
  unfold lOp
  by_cases d1 : o.doo = 1
  · rw [if_pos d1]; exact hN _ _
  rw [if_neg d1]
  by_cases d2 : o.doo = 2
  · rw [if_pos d2]; exact hN _ _
  rw [if_neg d2]
  by_cases d3 : o.doo = 3
  · rw [if_pos d3]; exact hN _ _
  rw [if_neg d3]
  by_cases d4 : o.doo = 4
  · rw [if_pos d4]; exact hT
  rw [if_neg d4]
  by_cases d5 : o.doo = 5
  · rw [if_pos d5]; exact hT
  rw [if_neg d5]
  by_cases d6 : o.doo = 6
  · rw [if_pos d6]
    unfold wID
    split
    · simp only [List.length_append, hd]; omega
    · simp only; omega
  · rw [if_neg d6]; simp only; omega
theorem and_one (n : Int) : bits BinOp.and IntKind.i64 n 1 = n % 2 := by
  show IntKind.i64.wrap ((BitVec.ofInt 64 n &&& BitVec.ofInt 64 1).toNat : Int) = _
  have h1 : BitVec.ofInt 64 1 = 1#64 := rfl
  rw [h1]
  have h2 : (BitVec.ofInt 64 n &&& 1#64).toNat = (BitVec.ofInt 64 n).toNat % 2 := by
    rw [BitVec.toNat_and]
    show (BitVec.ofInt 64 n).toNat &&& 1 = _
    exact Nat.and_one_is_mod _
  rw [h2, BitVec.toNat_ofInt]
  have h3 : (((n % ((2 ^ 64 : Nat) : Int)).toNat % 2 : Nat) : Int) = n % 2 := by omega
  rw [h3, IntKind.wrap_i64]
  omega
/-- An operation of a drawing region is taken first; the frame behind it is written out. -/
theorem wpAny_taken {P : Program} {md : Region.Mode} {ops : Array Oper} {Q : Exit → Act → World → Prop} {i : Nat} {oi : Oper} {v : Value} {fuel : Nat} {listed : Array Bool} {a a' : Act} {w : World} (hi : ops[i]? = some oi)
    (hs : Region.noSelect ops = true) (hf : Region.free md ops listed i = true) (hr : (Region.ready md ops listed).contains i = true)
    (hQ : ∀ c a w, Q (.panic c) (a.put oi.dst v) w → Q (.panic c) a w) (hy : Yields P ops oi v a) (ha : a.put oi.dst v = a')
    (h : wpAny P md ops Q fuel (listed.setIfInBounds i true) a' w) : wpAny P md ops Q (fuel + 1) listed a w :=
  wpAny_take hi hs hf hr hQ hy (by rw [ha]; exact h)
/-- A struct is read out of the middle of a block: as a step of a region. -/
theorem step_load_arr {P : Program} {ops : Array Oper} {op : Oper} {a : Act} {w : World} {K : Act → World → Prop} {Q : Exit → Act → World → Prop} {E : Prop} (hgd : Region.wanted op (yielded ops a.tmps) = true) (ty : TypeId) (x : Operand) (ho : op.op = .load ty x)
    (b o : Nat) (hx : a.eval x = .pointer (some ⟨b, o, none⟩)) (cells : Array Value) (d : TypeDesc) (hc : w.rangeAt b o cells.toList)
    (hu : P.underlying ty = some d) (hd : d.isRow = true) (hi : (P.info? ty).map (·.size) = some cells.size)
    (h : K (a.put op.dst (.agg cells)) w) : if Region.wanted op (yielded ops a.tmps) = true then Oper.wp P op a w K Q else E := by
  rw [if_pos hgd]
  refine wp_load_mid ty x ho b o hx cells.toList d hc hu hd (by rw [hi, Array.length_toList]) ?_
  rw [Array.toArray_toList]
  exact h
/-- A call as a step of a region, where a guard lets it run. -/
theorem stepg_call {P : Program} {ops : Array Oper} {o : Oper} {a : Act} {w : World} {K : Act → World → Prop} {Q : Exit → Act → World → Prop} {E : Prop} (hgd : Region.wanted o (yielded ops a.tmps) = true) {f : FuncId} {xs : Array Operand} {ts : Array TypeId}
    (hop : o.op = Op.call { callee := Callee.value (.func f), args := xs, argTypes := ts }) {vals : Array Value} (hv : xs.map a.eval = vals) (hen : ∀ w' : World, (callFunc f vals).run P w' = .ok (.enter f vals) w')
    {R : Ending → World → Prop} (hc : Calls P f vals w R) (h : ∀ e w', R e w' → ∃ v, e = .returned v ∧ K (a.put o.dst v) w') :
    if Region.wanted o (yielded ops a.tmps) = true then Oper.wp P o a w K Q else E := by
  rw [if_pos hgd]
  have e1 : (execOp a.eval o).run P w = .ok (.enter f vals) w := by
    unfold execOp
    simp only [hop, resolve, Act.eval]
    rw [show xs.map (Act.eval a) = vals from hv]
    simp [Deferred.ofValue, invoke, hen]
  unfold Oper.wp
  rw [e1]
  show Calls P f vals w _
  refine hc.mono fun e w' hr => ?_
  obtain ⟨v, rfl, hk⟩ := h e w' hr
  exact hk
theorem stepg_call3 {P : Program} {ops : Array Oper} {o : Oper} {a : Act} {w : World} {K : Act → World → Prop} {Q : Exit → Act → World → Prop} {E : Prop} (hgd : Region.wanted o (yielded ops a.tmps) = true) {f : FuncId} {x y z : Operand} {ts : Array TypeId}
    (hop : o.op = Op.call { callee := Callee.value (.func f), args := #[x, y, z], argTypes := ts }) {v u t : Value} (hv : a.eval x = v) (hu : a.eval y = u) (ht : a.eval z = t) (hen : ∀ w' : World, (callFunc f #[v, u, t]).run P w' = .ok (.enter f #[v, u, t]) w')
    {R : Ending → World → Prop} (hc : Calls P f #[v, u, t] w R) (h : ∀ e w', R e w' → ∃ v, e = .returned v ∧ K (a.put o.dst v) w') :
    if Region.wanted o (yielded ops a.tmps) = true then Oper.wp P o a w K Q else E :=
  stepg_call hgd hop (by simp [hv, hu, ht]) hen hc h
end Go.Proofs.YtjiciklnhcmfaaaGreatDoor
