/- posternlaw1.Book.Look: all that is kept holds its marks, is appended to, and holds them still. -/
import Derived.Test.YtnbpkignkfabkaaGreatDoorZBook
import Derived.Test.YtnbpkignkfabkaaGreatDoorBox
/- posternlaw1.Book: a list that is taken. -/
namespace Go.Proofs.YtnbpkignkfabkaaGreatDoor
set_option linter.unusedVariables false
set_option linter.unusedSimpArgs false
open Go.RowKit
theorem infoInt : (Tryz.prog.info? 3).map (fun i => (i.zero, i.size, i.bytes)) = some (some (.int .i64 0), 1, 8) := by kernel_rfl
theorem get_snoc {α : Type} {l : List α} {x y : α} {i : Nat} (h : (l ++ [x])[i]? = some y) : l[i]? = some y ∨ (i = l.length ∧ y = x) := by
  by_cases c : i < l.length
  · rw [List.getElem?_append_left c] at h; exact .inl h
  · rw [List.getElem?_append_right (by omega)] at h
    by_cases d : i = l.length
    · subst d; simp at h; exact .inr ⟨rfl, h.symm⟩
    · rw [List.getElem?_eq_none (by simp; omega)] at h; cases h
section
variable {w w4 : World} {base : Nat} {Pr : Nat → Prop} {bb : Nat} {E E2 : List Ent} {lo hi : Nat} {vb vo : Value} {bat : Nat} {tn dn : Int} {us : Nat}
theorem Bk.vb_ne (h : Bk w base Pr bb E E2 lo hi vb vo bat tn dn us) : vb.ownBlock ≠ some bb := by obtain ⟨cur, hh, _⟩ := h.blk; exact h.rows.not_at hh (by decide)
theorem Bk.vo_ne (h : Bk w base Pr bb E E2 lo hi vb vo bat tn dn us) : vo.ownBlock ≠ some bb := by obtain ⟨cur, hh, _⟩ := h.blk; exact h.ofs.not_at hh (by decide)
theorem push_upd {o : Obj} {v v' : Value} {j : Nat} (hg : (w.alloc o).grownBy w4 v.ownBlock) : Upd (fun k => k = bb ∨ v.ownBlock = some k) w (w4.setCell ⟨bb, j, none⟩ v') :=
  (((Upd.refl (fun k => k = bb ∨ v.ownBlock = some k) w).alloc o).grown hg (fun _ h _ => .inr h)).setCell (p := ⟨bb, j, none⟩) (fun _ => .inl rfl) v'
/-- One more row. -/
theorem Bk.push1 (h : Bk w base Pr bb E E2 lo hi vb vo bat tn dn us) (e : Ent) (he : Own w base 5 1 e.val e.n (bys (mks e.m e.n))) (hn : e.n ≤ 16777312)
    (hee : ∀ f ∈ E, ∀ k, e.at_ k → f.at_ k → e.m = f.m) (hpr : ∀ k, e.at_ k → ¬ Pr k) {hi' : Nat}
    (huq : ∀ i, lo ≤ i → i < hi' → ∀ f, E[i]? = some f → ∀ k, f.at_ k → ¬ e.at_ k) (hhi : hi' = hi ∧ hi ≤ E.length ∨ hi = E.length ∧ hi' = E.length + 1 ∧ e.n ≤ 16777216 ∧ ∀ f ∈ E, ∀ k, e.at_ k → ¬ f.at_ k)
    {o : Obj} {v' : Value} (hr : Own w4 base 74 1 v' (E.length + 1) (E.map Ent.val ++ [e.val])) (hg : (w.alloc o).grownBy w4 vb.ownBlock) (hv : v'.ownBlock = vb.ownBlock ∨ v'.ownBlock = some (w.heap.size + 1)) :
    Bk (w4.setCell ⟨bb, 0, none⟩ v') base Pr bb (E ++ [e]) E2 lo hi' v' vo bat tn dn us := by
  obtain ⟨cur, hh, hk⟩ := h.blk
  have hU : Upd (fun k => k = bb ∨ vb.ownBlock = some k) w (w4.setCell ⟨bb, 0, none⟩ v') := push_upd hg
  have hU4 : Upd (fun k => vb.ownBlock = some k) w w4 := ((Upd.refl (fun k => vb.ownBlock = some k) w).alloc o).grown hg (fun _ h _ => h)
  have n1 : vb.ownBlock ≠ some bb := h.rows.not_at hh (by decide)
  have n2 : vo.ownBlock ≠ some bb := h.ofs.not_at hh (by decide)
  have n3 : ∀ f ∈ E, ¬ f.at_ bb := fun f hf => (h.ent f hf).not_at hh (by decide)
  have n4 : ¬ e.at_ bb := he.not_at hh (by decide)
  have m2 : ∀ k, vo.ownBlock = some k → ¬ (k = bb ∨ vb.ownBlock = some k) := by
    rintro k hk (rfl | hb)
    · exact n2 hk
    · exact Own.ne_type h.rows h.ofs (by decide) k hb hk
  have m3 : ∀ f ∈ E, ∀ k, f.at_ k → ¬ (k = bb ∨ vb.ownBlock = some k) := by
    rintro f hf k hk (rfl | hb)
    · exact n3 f hf hk
    · exact Own.ne_type h.rows (h.ent f hf) (by decide) k hb hk
  have m4 : ∀ k, e.at_ k → ¬ (k = bb ∨ vb.ownBlock = some k) := by
    rintro k hk (rfl | hb)
    · exact n4 hk
    · exact Own.ne_type h.rows he (by decide) k hb hk
  have h4 := (hU4.block bb (lt_of_block hh) n1).trans hh
  have n5 : v'.ownBlock ≠ some bb := hr.not_at h4 (by decide)
  refine ⟨⟨cur.setIfInBounds 0 v', set_blk v' h4, hk.s0 v'⟩, h.bbge, ?_, h.ofs.upd hU m2, ?_, ?_, ?_, ?_, ?_⟩
  · rw [List.length_append, List.map_append]
    exact hr.setCell_other n5 v'
  · intro f hf
    rcases List.mem_append.1 hf with hf | hf
    · exact (h.ent f hf).upd hU (m3 f hf)
    · rw [List.mem_singleton.1 hf]; exact he.upd hU m4
  · intro f hf g hg k a b
    rcases List.mem_append.1 hf with hf | hf
    · rcases List.mem_append.1 hg with hg | hg
      · exact h.ee f hf g hg k a b
      · rw [List.mem_singleton.1 hg] at b ⊢; exact (hee f hf k b a).symm
    · rw [List.mem_singleton.1 hf] at a ⊢
      rcases List.mem_append.1 hg with hg | hg
      · exact hee g hg k a b
      · rw [List.mem_singleton.1 hg]
  · intro i j h1 h2 hij f g hf hg k a b
    rcases get_snoc hf with hf' | ⟨hi0, ef⟩
    · rcases get_snoc hg with hg' | ⟨hj0, eg⟩
      · rcases hhi with ⟨rfl, hle⟩ | ⟨rfl, rfl, _, _⟩
        · exact h.uq i j h1 h2 hij f g hf' hg' k a b
        · exact h.uq i j h1 (List.getElem?_eq_some_iff.1 hf').1 hij f g hf' hg' k a b
      · rw [eg] at b
        exact huq i h1 h2 f hf' k a b
    · rcases hhi with ⟨rfl, hle⟩ | ⟨rfl, rfl, _, hnew⟩
      · omega
      · rcases get_snoc hg with hg' | ⟨hj0, _⟩
        · rw [ef] at a
          exact hnew g (List.mem_of_getElem? hg') k a b
        · omega
  · intro k hp
    obtain ⟨p1, p2, p3, p4, p5⟩ := h.pr k hp
    refine ⟨Nat.lt_of_lt_of_le p1 hU.size, p2, ?_, p4, ?_⟩
    · rcases hv with hv | hv
      · rw [hv]; exact p3
      · rw [hv]; intro hh; injection hh with hh; omega
    · intro f hf
      rcases List.mem_append.1 hf with hf | hf
      · exact p5 f hf
      · rw [List.mem_singleton.1 hf]; exact fun hk => hpr k hk hp
  · intro i f hf
    rcases get_snoc hf with hf' | ⟨hi0, ef⟩
    · refine ⟨(h.en i f hf').1, fun a b => ?_⟩
      rcases hhi with ⟨rfl, _⟩ | ⟨rfl, rfl, _, _⟩
      · exact (h.en i f hf').2 a b
      · exact (h.en i f hf').2 a (List.getElem?_eq_some_iff.1 hf').1
    · rw [ef]
      refine ⟨hn, fun a b => ?_⟩
      rcases hhi with ⟨rfl, hle⟩ | ⟨rfl, rfl, h16, _⟩
      · omega
      · exact h16
/-- One more mark. -/
theorem Bk.push2 (h : Bk w base Pr bb E E2 lo hi vb vo bat tn dn us) (e : Ent)
    {o : Obj} {v' : Value} (hr : Own w4 base 3 1 v' (E2.length + 1) (E2.map Ent.mval ++ [e.mval])) (hg : (w.alloc o).grownBy w4 vo.ownBlock) (hv : v'.ownBlock = vo.ownBlock ∨ v'.ownBlock = some (w.heap.size + 1)) :
    Bk (w4.setCell ⟨bb, 1, none⟩ v') base Pr bb E (E2 ++ [e]) lo hi vb v' bat tn dn us := by
  obtain ⟨cur, hh, hk⟩ := h.blk
  have hU : Upd (fun k => k = bb ∨ vo.ownBlock = some k) w (w4.setCell ⟨bb, 1, none⟩ v') := push_upd hg
  have hU4 : Upd (fun k => vo.ownBlock = some k) w w4 := ((Upd.refl (fun k => vo.ownBlock = some k) w).alloc o).grown hg (fun _ h _ => h)
  have n1 : vb.ownBlock ≠ some bb := h.rows.not_at hh (by decide)
  have n2 : vo.ownBlock ≠ some bb := h.ofs.not_at hh (by decide)
  have n3 : ∀ f ∈ E, ¬ f.at_ bb := fun f hf => (h.ent f hf).not_at hh (by decide)
  have m2 : ∀ k, vb.ownBlock = some k → ¬ (k = bb ∨ vo.ownBlock = some k) := by
    rintro k hk (rfl | hb)
    · exact n1 hk
    · exact Own.ne_type h.rows h.ofs (by decide) k hk hb
  have m3 : ∀ f ∈ E, ∀ k, f.at_ k → ¬ (k = bb ∨ vo.ownBlock = some k) := by
    rintro f hf k hk (rfl | hb)
    · exact n3 f hf hk
    · exact Own.ne_type h.ofs (h.ent f hf) (by decide) k hb hk
  have h4 := (hU4.block bb (lt_of_block hh) n2).trans hh
  have n5 : v'.ownBlock ≠ some bb := hr.not_at h4 (by decide)
  refine ⟨⟨cur.setIfInBounds 1 v', set_blk v' h4, hk.s1 v'⟩, h.bbge, h.rows.upd hU m2, ?_, fun f hf => (h.ent f hf).upd hU (m3 f hf), h.ee, h.uq, ?_, h.en⟩
  · rw [List.length_append, List.map_append]
    exact hr.setCell_other n5 v'
  · intro k hp
    obtain ⟨p1, p2, p3, p4, p5⟩ := h.pr k hp
    refine ⟨Nat.lt_of_lt_of_le p1 hU.size, p2, p3, ?_, p5⟩
    rcases hv with hv | hv
    · rw [hv]; exact p4
    · rw [hv]; intro hh; injection hh with hh; omega
end
set_option maxRecDepth 100000 in
theorem tight_yes (w : World) (bb us n : Nat) (hc : w.cell? ⟨bb, 74, none⟩ = some (.int .i64 us)) (h1 : us ≤ 16777216) (hn : n ≤ 10000000000000) (h : 16777216 < us + n) :
    Calls Tryz.prog 68 #[.pointer (some ⟨bb, 0, none⟩), .int .i64 n] w fun r w' => r = .returned (.bool true) ∧ w = w' := by
  have t : decide ((16777216 : Int) < (us : Int) + (n : Int)) = true := decide_eq_true (by omega)
  have t' : decide (16777216 < us + n) = true := decide_eq_true h
  go_enter Tryz.func68, Tryz.ntmps68
  go_wp2
  go_ret
  exact ⟨rfl, rfl⟩
set_option maxRecDepth 100000 in
theorem tight_no (w : World) (bb us n : Nat) (hc : w.cell? ⟨bb, 74, none⟩ = some (.int .i64 us)) (hf : w.frozen? ⟨bb, 74, none⟩ = false) (h1 : us ≤ 16777216) (hn : n ≤ 10000000000000) (h : ¬ 16777216 < us + n) :
    Calls Tryz.prog 68 #[.pointer (some ⟨bb, 0, none⟩), .int .i64 n] w fun r w' => r = .returned (.bool false) ∧ w.setCell ⟨bb, 74, none⟩ (.int .i64 ((us + n : Nat) : Int)) = w' := by
  have t : decide ((16777216 : Int) < (us : Int) + (n : Int)) = false := decide_eq_false (by omega)
  have t' : decide (16777216 < us + n) = false := decide_eq_false h
  go_enter Tryz.func68, Tryz.ntmps68
  go_wp2
  go_ret
  exact ⟨rfl, rfl⟩
/-- So many lists, so much kept. -/
def Cnt (n bat us : Nat) : Prop := bat ≤ n ∧ 120 * bat + 1200 * (n - bat) ≤ us ∧ us ≤ 16777216
/-- What becomes of a book that takes a list at a. -/
def BytesP (w w' : World) (base : Nat) (Pr : Nat → Prop) (bb : Nat) (E : List Ent) (vb vo : Value) (bat : Nat) (dn : Int) (v : Value) : Prop :=
  ∃ (E' : List Ent) (vb' vo' : Value) (tn' : Int) (us' : Nat), Bk w' base Pr bb E' E' bat E'.length vb' vo' bat tn' dn us' ∧ Cnt E'.length bat us' ∧
    (∀ k, BkF bb vb' vo' E' k → BkF bb vb vo E k ∨ w.heap.size ≤ k ∨ v.ownBlock = some k) ∧ (∀ e ∈ E', e ∈ E ∨ e.val = v) ∧ Upd (fun k => k = bb ∨ vb.ownBlock = some k ∨ vo.ownBlock = some k ∨ v.ownBlock = some k) w w'
set_option maxRecDepth 100000 in
set_option maxHeartbeats 2000000 in
theorem BkBytes_calls (w : World) (base : Nat) (Pr : Nat → Prop) (bb : Nat) (E : List Ent) (vb vo : Value) (bat : Nat) (tn dn : Int) (us : Nat) (h : Bk w base Pr bb E E bat E.length vb vo bat tn dn us) (hc : Cnt E.length bat us)
    (a : Option Addr) (n c : Nat) (x : List UInt8) (ho : Own w base 5 1 (.slice a n c) n (bys x)) (hn : n ≤ 1000000000000) (hd : ∀ k, (Value.slice a n c).ownBlock = some k → ¬ Pr k ∧ ∀ e ∈ E, ¬ e.at_ k) :
    Calls Tryz.prog 39 #[.pointer (some ⟨bb, 0, none⟩), .slice a n c] w fun r w' => r = .returned (.tuple #[]) ∧ BytesP w w' base Pr bb E vb vo bat dn (.slice a n c) := by
  have hx : x.length = n := by have := ho.1; rw [bys_length, Nat.mul_one] at this; exact this
  have c72 := h.k72
  have f72 := h.froz 72
  obtain ⟨tn1, htn⟩ : ∃ q, wrap64 (tn + 1) = q := ⟨_, rfl⟩
  have H1 := Lib.hid (h.put 72 (.int .i64 tn1) (fun cur hk => hk.s72 tn1))
  obtain ⟨cur, hh, _⟩ := h.blk
  have abb : (Value.slice a n c).ownBlock ≠ some bb := ho.not_at hh (by decide)
  have U1 : Hid (Upd (fun k => k = bb) w (w.setCell ⟨bb, 72, none⟩ (.int .i64 tn1))) := (Upd.refl (fun k => k = bb) w).setCell (p := ⟨bb, 72, none⟩) (fun _ => rfl) _
  have O1 := Lib.hid (ho.upd U1.out (fun k hk e => abb (by rw [hk, e])))
  have D0 := Lib.hid hd
  have CN := Lib.hid hc
  have HX := Lib.hid hx
  have ABB := Lib.hid abb
  have H0 := Lib.hid h
  clear h hh ho hd hc abb hx
  go_enter Tryz.func39, Tryz.ntmps39
  go_wp2
  generalize w.setCell ⟨bb, 72, none⟩ (.int .i64 tn1) = w1 at *
  clear c72 f72 htn
  go_loopw [5] (fun vi wr => ∃ i : Nat, vi = .int .i64 i ∧ i ≤ n ∧ Own wr base 5 1 (.slice a n c) n (bys (mks tn1 i ++ x.drop i)) ∧ Bk wr base Pr bb E E bat E.length vb vo bat tn1 dn us ∧ Upd (fun k => (Value.slice a n c).ownBlock = some k) w1 wr) (fun vi _ => n - (intOf vi).toNat)
  case atStart => exact ⟨0, rfl, by omega, by simpa [mks] using O1.out, H1.out, Upd.refl _ _⟩
  case round =>
    obtain ⟨i, rfl, hi, ho, hb, hu⟩ := hrel
    have OW := Lib.hid ho; have HB := Lib.hid hb; have UW := Lib.hid hu; clear ho hb hu
    by_cases hlt : i < n
    · have t1 : decide ((i : Int) < (n : Int)) = true := decide_eq_true (by omega)
      have t1' : decide (i < n) = true := decide_eq_true hlt
      obtain ⟨g, cc, hv⟩ := OW.out.shape (by omega)
      cases hv
      have q2 := OW.out.frozenAt i (by omega)
      have hlen : (mks tn1 i ++ x.drop i).length = n := by have := HX.out; rw [List.length_append, mks_length, List.length_drop]; omega
      obtain ⟨yi, q3⟩ : ∃ y : Int, wr.cell? ⟨g, i, none⟩ = some (.int .u8 y) := ⟨_, (OW.out.cellAt i (by omega)).trans (bys_get (show i < (mks tn1 i ++ x.drop i).length by omega))⟩
      have HS : Hid ((mks tn1 i ++ x.drop i).set i (atB tn1 i) = mks tn1 (i + 1) ++ x.drop (i + 1)) := by
        show _ = _
        have e : x.drop i = x[i]'(by have := HX.out; omega) :: x.drop (i + 1) := List.drop_eq_getElem_cons _
        rw [List.set_append_right _ _ (by rw [mks_length]; omega), mks_length, Nat.sub_self, e, List.set_cons_zero, mks_succ, List.append_assoc, List.singleton_append]
      have OS := Lib.hid (OW.out.set i (.int .u8 ((atB tn1 i).toNat : Int)))
      rw [bys_set, HS.out] at OS
      have US := Lib.hid (UW.out.setCell (p := ⟨g, i, none⟩) (fun _ => rfl) (.int .u8 ((atB tn1 i).toNat : Int)))
      have HS2 := Lib.hid (HB.out.upd ((Upd.refl (fun k => k = g) wr).setCell (p := ⟨g, i, none⟩) (fun _ => rfl) (.int .u8 ((atB tn1 i).toNat : Int))) (by
        rintro k rfl hf
        have d := D0.out k rfl
        obtain ⟨cur, hh, _⟩ := HB.out.blk
        rcases hf with rfl | hf | hf | ⟨e, he, hf⟩
        · exact ABB.out rfl
        · exact Own.ne_type HB.out.rows OW.out (by decide) _ hf rfl
        · exact Own.ne_type HB.out.ofs OW.out (by decide) _ hf rfl
        · exact d.2 e he hf))
      have AT := Lib.hid (fun w => at_calls tn1 i w (by omega))
      clear HS hlen
      go_wp2_with fail
      refine (AT.out _).mono ?_
      rintro r wx ⟨rfl, rfl⟩
      clear AT
      generalize (atB tn1 i).toNat = z at *
      go_wp2
      go_roundw
      case rel => exact ⟨i + 1, by go_num, by omega, OS.out, HS2.out, US.out⟩
      case measure => simp [intOf]; omega
    · have t1 : decide ((i : Int) < (n : Int)) = false := decide_eq_false (by omega)
      have t1' : decide (i < n) = false := decide_eq_false hlt
      have ho := OW.out
      have hil : i = n := by omega
      rw [hil, List.drop_of_length_le (by rw [HX.out]; exact Nat.le_refl _), List.append_nil] at ho
      have O2 := Lib.hid ho
      clear ho hil
      have us1 := CN.out.2.2
      have k74 := HB.out.k74
      have f74 := HB.out.froz 74
      have UT := Lib.hid (show Upd (fun k => k = bb ∨ vb.ownBlock = some k ∨ vo.ownBlock = some k ∨ (Value.slice a n c).ownBlock = some k) w wr from U1.out.trans UW.out (fun k h _ => .inl h) (fun k h _ => .inr (.inr (.inr h))))
      by_cases ht : 16777216 < us + (1200 + 3 * n)
      · have TY := Lib.hid (tight_yes wr bb us (1200 + 3 * n) k74 us1 (by omega) ht)
        clear k74 f74 us1
        go_wp2_with fail
        refine TY.out.mono ?_
        rintro r wx ⟨rfl, rfl⟩
        clear TY
        go_wp2
        ((try simp only [Exit.inBlock, Exit.then]); refine bodyPost_ret (results_none rfl _ _ _) rfl ?_)
        exact ⟨rfl, E, vb, vo, tn1, us, HB.out, CN.out, fun k hk => .inl hk, fun e he => .inl he, UT.out⟩
      · have TY := Lib.hid (tight_no wr bb us (1200 + 3 * n) k74 f74 us1 (by omega) ht)
        have hn2 : n ≤ 16777216 := by omega
        clear k74 f74 us1
        go_wp2_with fail
        refine TY.out.mono ?_
        rintro r wx ⟨rfl, rfl⟩
        clear TY
        have H3 := Lib.hid (HB.out.put 74 (.int .i64 ((us + (1200 + 3 * n) : Nat) : Int)) (fun cur hk => hk.s74 _))
        have O3 : Hid (Own (wr.setCell ⟨bb, 74, none⟩ (.int .i64 ((us + (1200 + 3 * n) : Nat) : Int))) base 5 1 (.slice a n c) n (bys (mks tn1 n))) := O2.out.setCell_other ABB.out _
        have U3 := Lib.hid (UT.out.setCell (p := ⟨bb, 74, none⟩) (fun _ => .inl rfl) (.int .i64 ((us + (1200 + 3 * n) : Nat) : Int)))
        generalize wr.setCell ⟨bb, 74, none⟩ (.int .i64 ((us + (1200 + 3 * n) : Nat) : Int)) = w3 at *
        have c0 := H3.out.k0
        have f0 := H3.out.froz 0
        have el : E.length ≤ 139810 := by obtain ⟨p, q, r⟩ := CN.out; omega
        have M1 : Hid (E.length + 1 ≤ maxLen) := by show _ ≤ _; unfold maxLen; omega
        have M2 : Hid ((E.length + 1) * 24 ≤ 140737488355328) := by show _ ≤ _; omega
        have M3 : Hid ((E.length + 1) * 8 ≤ 140737488355328) := by show _ ≤ _; omega
        have B3 : Hid (base ≤ (w3.alloc (.cells #[.slice a n c] 74)).heap.size) := by show _ ≤ _; have := H3.out.bbge; have := H3.out.bblt; simp; omega
        go_wp2_with (at_builtin; refine wpList_append2 rfl (.tmp 39) (.tmp 41) 37 37 rfl base 74 (.slice none 0 0) 1 24 Tryz.underlying37 infoRow rfl (n := E.length) (xs := E.map Ent.val) (H3.out.rows.alloc _) rfl (xv := .slice (some ⟨w3.heap.size, 0, none⟩) 1 1) (m := 1) (news := [.slice a n c]) (Src_new Tryz.underlying37 (e := 74) (heap_alloc_new w3 _) rfl) rfl M1.out M2.out B3.out ?_)
        intro v4 w4 ho4 hg4 hv4 _
        obtain ⟨g4, d4, rfl⟩ := ho4.shape (by omega)
        have P4 := Lib.hid (H3.out.push1 ⟨a, n, c, tn1⟩ (show Own w3 base 5 1 (.slice a n c) n (bys (mks tn1 n)) from O3.out) (show n ≤ 16777312 by omega) (fun f hf k ha hb => absurd hb ((D0.out k ha).2 f hf)) (fun k ha => (D0.out k ha).1) (hi' := E.length + 1) (fun i _ _ f hf k hb ha => (D0.out k ha).2 f (List.mem_of_getElem? hf) hb) (.inr ⟨rfl, rfl, (show n ≤ 16777216 from hn2), fun f hf k ha => (D0.out k ha).2 f hf⟩) ho4 hg4 hv4)
        have U4 := Lib.hid (show Upd (fun k => vb.ownBlock = some k) w3 w4 from ((Upd.refl (fun k => vb.ownBlock = some k) w3).alloc _).grown hg4 (fun _ h _ => h))
        have c4 : w4.cell? ⟨bb, 0, none⟩ = some vb := U4.out.cell' c0 H3.out.vb_ne
        have f4 : w4.frozen? ⟨bb, 0, none⟩ = false := by have h := P4.out.froz 0; rwa [frozen_same] at h
        have U5 := Lib.hid (show Upd (fun k => k = bb ∨ vb.ownBlock = some k) w3 (w4.setCell ⟨bb, 0, none⟩ (.slice (some ⟨g4, 0, none⟩) (E.length + 1) d4)) from push_upd hg4)
        have V4 := Lib.hid hv4
        have k4 : w4.cell? ⟨bb, 1, none⟩ = some vo := U4.out.cell' H3.out.k1 H3.out.vb_ne
        have k1 := P4.out.k1
        have f1 := P4.out.froz 1
        have HS5 : Hid ((w4.setCell ⟨bb, 0, none⟩ (.slice (some ⟨g4, 0, none⟩) (E.length + 1) d4)).heap.size = w4.heap.size) := by show _ = _; simp [World.setCell]
        have B5 : Hid (base ≤ ((w4.setCell ⟨bb, 0, none⟩ (.slice (some ⟨g4, 0, none⟩) (E.length + 1) d4)).alloc (.cells #[.int .i64 tn1] 3)).heap.size) := by show _ ≤ _; have h1 := P4.out.bbge; have h2 := P4.out.bblt; rw [World.size_alloc]; omega
        have S5 : Hid (Src Tryz.prog 1 38 (.slice (some ⟨w4.heap.size, 0, none⟩) 1 1) 1 [.int .i64 tn1] ((w4.setCell ⟨bb, 0, none⟩ (.slice (some ⟨g4, 0, none⟩) (E.length + 1) d4)).alloc (.cells #[.int .i64 tn1] 3))) := by
          have h := heap_alloc_new (w4.setCell ⟨bb, 0, none⟩ (.slice (some ⟨g4, 0, none⟩) (E.length + 1) d4)) (.cells #[.int .i64 tn1] 3)
          rw [HS5.out] at h
          exact Src_new Tryz.underlying38 (e := 3) h rfl
        clear ho4 hg4 hv4 c0 f0 k1 f1
        go_wp2_with (at_builtin; refine wpList_append2 rfl (.tmp 49) (.tmp 51) 38 38 rfl base 3 (.int .i64 0) 1 8 Tryz.underlying38 infoInt rfl (n := E.length) (xs := E.map Ent.mval) (P4.out.ofs.alloc _) rfl (xv := .slice (some ⟨w4.heap.size, 0, none⟩) 1 1) (m := 1) (news := [.int .i64 tn1]) S5.out rfl M1.out M3.out B5.out ?_)
        intro v6 w6 ho6 hg6 hv6 _
        obtain ⟨g6, d6, rfl⟩ := ho6.shape (by omega)
        rw [← HS5.out] at hv6
        have k1 := P4.out.k1
        have f1 := P4.out.froz 1
        generalize (w4.setCell ⟨bb, 0, none⟩ (.slice (some ⟨g4, 0, none⟩) (E.length + 1) d4)) = w5 at *
        clear c4 f4 U4 k4
        have P6 := Lib.hid (P4.out.push2 ⟨a, n, c, tn1⟩ ho6 hg6 hv6)
        have U6 := Lib.hid (show Upd (fun k => vo.ownBlock = some k) w5 w6 from ((Upd.refl (fun k => vo.ownBlock = some k) w5).alloc _).grown hg6 (fun _ h _ => h))
        have c6 : w6.cell? ⟨bb, 1, none⟩ = some vo := U6.out.cell' k1 P4.out.vo_ne
        have f6 : w6.frozen? ⟨bb, 1, none⟩ = false := by have h := P6.out.froz 1; rwa [frozen_same] at h
        have U7 := Lib.hid (show Upd (fun k => k = bb ∨ vo.ownBlock = some k) w5 (w6.setCell ⟨bb, 1, none⟩ (.slice (some ⟨g6, 0, none⟩) (E.length + 1) d6)) from push_upd hg6)
        have V6 := Lib.hid hv6
        clear ho6 hg6 hv6 k1 f1
        go_wp2
        go_end0
        generalize w6.setCell ⟨bb, 1, none⟩ (.slice (some ⟨g6, 0, none⟩) (E.length + 1) d6) = w7 at *
        have s3 := U3.out.size
        have s5 := U5.out.size
        refine ⟨rfl, E ++ [⟨a, n, c, tn1⟩], _, _, tn1, us + (1200 + 3 * n), by rw [List.length_append]; exact P6.out, ?_, ?_, ?_, ?_⟩
        · obtain ⟨p, q, r⟩ := CN.out
          rw [List.length_append]
          exact ⟨by simp; omega, by simp; omega, by omega⟩
        · rintro k (rfl | hk | hk | ⟨e, he, hk⟩)
          · exact .inl (.inl rfl)
          · rcases V4.out with h | h
            · exact .inl (.inr (.inl (by rw [← h]; exact hk)))
            · rw [h] at hk; injection hk with hk; exact .inr (.inl (by omega))
          · rcases V6.out with h | h
            · exact .inl (.inr (.inr (.inl (by rw [← h]; exact hk))))
            · rw [h] at hk; injection hk with hk; exact .inr (.inl (by omega))
          · rcases List.mem_append.1 he with he | he
            · exact .inl (.inr (.inr (.inr ⟨e, he, hk⟩)))
            · rw [List.mem_singleton.1 he] at hk; exact .inr (.inr hk)
        · intro e he
          rcases List.mem_append.1 he with he | he
          · exact .inl he
          · rw [List.mem_singleton.1 he]; exact .inr rfl
        · refine (U3.out.trans U5.out (fun k h _ => h) (fun k h _ => ?_)).trans U7.out (fun k h _ => h) (fun k h _ => ?_)
          · rcases h with h | h
            · exact .inl h
            · exact .inr (.inl h)
          · rcases h with h | h
            · exact .inl h
            · exact .inr (.inr (.inl h))
end Go.Proofs.YtnbpkignkfabkaaGreatDoor
/- posternlaw1.Book: what is kept still holds its marks. -/
namespace Go.Proofs.YtnbpkignkfabkaaGreatDoor
set_option linter.unusedVariables false
set_option linter.unusedSimpArgs false
open Go.RowKit
set_option maxRecDepth 100000 in
set_option maxHeartbeats 2000000 in
theorem plain_calls (w : World) (base : Nat) (Pr : Nat → Prop) (bb : Nat) (E : List Ent) (lo hi : Nat) (vb vo : Value) (bat : Nat) (tn dn : Int) (us : Nat) (h : Bk w base Pr bb E E lo hi vb vo bat tn dn us) (hl : E.length ≤ 1400000) :
    Calls Tryz.prog 69 #[.pointer (some ⟨bb, 0, none⟩)] w fun r w' => ∃ n, r = .returned (.bool true) ∧ w' = w.drewN n := by
  have c0 := h.k0
  have c1 := h.k1
  have c3 : w.cell? ⟨bb, 3, none⟩ = some (.slice none 0 0) := h.nilB.cell 3 (by decide) (by decide)
  obtain ⟨av, cv, hvb, _, _, _⟩ := h.rows.shape'
  obtain ⟨ao, co, hvo, _, _, _⟩ := h.ofs.shape'
  subst hvb
  subst hvo
  have H := Lib.hid h; clear h
  have tz : decide ((0 : Int) < 0) = false := by decide
  go_enter Tryz.func69, Tryz.ntmps69
  go_wp2
  go_loopw [3] (fun vi wr => ∃ i : Nat, vi = .int .i64 i ∧ i ≤ E.length ∧ ∃ n, wr = w.drewN n) (fun vi _ => E.length - (intOf vi).toNat)
  case atStart => exact ⟨0, rfl, by omega, 0, rfl⟩
  case round =>
    obtain ⟨i, rfl, hi, q, rfl⟩ := hrel
    by_cases hlt : i < E.length
    · have t1 : decide ((i : Int) < (E.length : Int)) = true := decide_eq_true (by omega)
      have t1' : decide (i < E.length) = true := decide_eq_true hlt
      obtain ⟨e, he⟩ : ∃ e, E[i] = e := ⟨_, rfl⟩
      have hmem : e ∈ E := by rw [← he]; exact List.getElem_mem hlt
      have hE := H.out.ent e hmem
      have hn := H.out.en1 e hmem
      obtain ⟨g1, d1, hv1⟩ := H.out.rows.shape (by omega)
      cases hv1
      obtain ⟨g2, d2, hv2⟩ := H.out.ofs.shape (by omega)
      cases hv2
      have q1 : w.cell? ⟨g1, i, none⟩ = some (.slice e.a e.n e.c) := by
        rw [H.out.rows.cellAt i (by omega)]
        simp [hlt, he, Ent.val]
      have q2 : w.cell? ⟨g2, i, none⟩ = some (.int .i64 e.m) := by
        rw [H.out.ofs.cellAt i (by omega)]
        simp [hlt, he, Ent.mval]
      unfold Ent.val at hE
      generalize e.a = ea at *
      generalize e.n = en at *
      generalize e.c = ec at *
      generalize e.m = em at *
      have HE := Lib.hid hE
      clear hE he hmem
      go_wp2
      go_loopw [4] (fun vk wr => ∃ k : Nat, vk = .int .i64 k ∧ k ≤ en ∧ ∃ n, wr = w.drewN n) (fun vk _ => en - (intOf vk).toNat)
      case atStart => exact ⟨0, rfl, by omega, q, rfl⟩
      case round =>
        obtain ⟨k, rfl, hk, q', rfl⟩ := hrel
        by_cases hlk : k < en
        · have t2 : decide ((k : Int) < (en : Int)) = true := decide_eq_true (by omega)
          have t2' : decide (k < en) = true := decide_eq_true hlk
          obtain ⟨g3, d3, hv3⟩ := HE.out.shape (by omega)
          cases hv3
          have q3 : w.cell? ⟨g3, k, none⟩ = some (.int .u8 ((atB em k).toNat : Int)) := by
            rw [HE.out.cellAt k (by omega)]
            simp only [bys, List.getElem?_map, mks_get em en k hlk, Option.map_some]
          have AT := Lib.hid (fun w => at_calls em k w (by omega))
          have i1 : (i : Int) < (E.length : Int) := by omega
          have i2 : (k : Int) < (en : Int) := by omega
          generalize (atB em k).toNat = z at *
          go_wp2_with fail
          go_quiet ((go_at_call 67; exact qtwo (AT.out _)))
          go_wp2
          go_roundw
          case rel => exact ⟨k + 1, by go_num, by omega, _, rfl⟩
          case measure => simp [intOf]; omega
        · have t2 : decide ((k : Int) < (en : Int)) = false := decide_eq_false (by omega)
          have t2' : decide (k < en) = false := decide_eq_false hlk
          go_wp2
          go_roundw
          case rel => exact ⟨i + 1, by go_num, by omega, _, rfl⟩
          case measure => simp [intOf]; omega
    · have t1 : decide ((i : Int) < (E.length : Int)) = false := decide_eq_false (by omega)
      have t1' : decide (i < E.length) = false := decide_eq_false hlt
      go_wp2
      go_loopw [5] (fun vi wr => vi = .int .i64 0 ∧ wr = w.drewN q) (fun _ _ => 0)
      case atStart => exact ⟨rfl, rfl⟩
      case round =>
        obtain ⟨rfl, rfl⟩ := hrel
        go_wp2
        go_ret
        exact ⟨_, rfl, rfl⟩
end Go.Proofs.YtnbpkignkfabkaaGreatDoor
/- posternlaw1.Book.growBytes: what a list becomes that is appended to. -/
namespace Go.Proofs.YtnbpkignkfabkaaGreatDoor
set_option linter.unusedVariables false
set_option linter.unusedSimpArgs false
open Go.RowKit
theorem Pre.alloc {n : Nat} {w w' : World} {g : Nat} {o : Obj} (h : Pre n (w.alloc o) w' g) (hg : g < w.heap.size) : Pre n w w' g := fun cur e fr hc => h cur e fr ((Below.heap_alloc w o g hg).trans hc)
section
variable {w0 w w' : World} {base : Nat} {Pr : Nat → Prop} {bb : Nat} {E E1 E2 : List Ent} {lo hi : Nat} {vb vo vb1 vo1 : Value} {bat : Nat} {tn dn : Int} {us : Nat}
/-- A row that is appended to, whose block no longer list of the book shares. -/
theorem Bk.gpre (h : Bk w base Pr bb E E2 lo hi vb vo bat tn dn us) {v : Value} {N : Nat} {xs : List Value} (hu : Upd (fun j => v.ownBlock = some j) w w') (hv : Own w base 5 1 v N xs) (hf : ∀ f ∈ E, ∀ j, v.ownBlock = some j → f.at_ j → f.n ≤ N)
    (hp : ∀ j, v.ownBlock = some j → Pre N w w' j) : Bk w' base Pr bb E E2 lo hi vb vo bat tn dn us := by
  obtain ⟨cur, hh, hk⟩ := h.blk
  have n1 : v.ownBlock ≠ some bb := hv.not_at hh (by decide)
  refine ⟨⟨cur, (hu.block bb (lt_of_block hh) n1).trans hh, hk⟩, h.bbge, h.rows.upd hu (fun k a b => Own.ne_type h.rows hv (by decide) k a b), h.ofs.upd hu (fun k a b => Own.ne_type h.ofs hv (by decide) k a b), ?_, h.ee, h.uq, fun k hq => ⟨Nat.lt_of_lt_of_le (h.pr k hq).1 hu.size, (h.pr k hq).2⟩, h.en⟩
  intro f hf'
  by_cases c : ∃ j, v.ownBlock = some j ∧ f.at_ j
  · obtain ⟨j, h1, h2⟩ := c
    refine (h.ent f hf').preN (n := N) (by have := hf f hf' j h1 h2; omega) ?_
    intro g hg
    have : g = j := by have e := hg.symm.trans h2; injection e
    subst this
    exact hp g h1
  · exact (h.ent f hf').upd hu (fun k hk hs => c ⟨k, hs, hk⟩)
/-- The inner round's state: the row that grows, and the book. -/
structure GS (w0 w : World) (base : Nat) (Pr : Nat → Prop) (bb : Nat) (E : List Ent) (n0 : Nat) (vb vo : Value) (k : Nat) (em : Int) (g : Value) (gn cn : Nat) (E1 : List Ent) (vb1 vo1 : Value) (bat : Nat) (tn dn : Int) (us : Nat) : Prop where
  ext : ∃ P1, E1 = E ++ P1 ∧ P1.length = cn
  bk : Bk w base Pr bb E1 E1 k n0 vb1 vo1 bat tn dn us
  own : Own w base 5 1 g gn (bys (mks em gn))
  sh : ∀ f ∈ E1, ∀ j, g.ownBlock = some j → f.at_ j → f.m = em ∧ f.n ≤ gn
  un : ∀ i, k ≤ i → i < n0 → ∀ f, E1[i]? = some f → ∀ j, f.at_ j → ¬ g.ownBlock = some j
  np : ∀ j, g.ownBlock = some j → ¬ Pr j ∧ (BkF bb vb vo E j ∨ w0.heap.size ≤ j)
  ft : ∀ j, BkF bb vb1 vo1 E1 j → BkF bb vb vo E j ∨ w0.heap.size ≤ j
  up : Upd (BkF bb vb vo E) w0 w
variable {n0 k gn cn : Nat} {em : Int} {g : Value}
theorem GS.bksame {w' : World} (h : Bk w base Pr bb E E2 lo hi vb vo bat tn dn us) (hu : Upd (fun _ => False) w w') : Bk w' base Pr bb E E2 lo hi vb vo bat tn dn us := h.upd hu (fun _ s => s.elim)
/-- The row grows by its mark. -/
theorem GS.grow (h : GS w0 w base Pr bb E n0 vb vo k em g gn cn E1 vb1 vo1 bat tn dn us) {o : Obj} {w4 : World} {v4 : Value} (ho : Own w4 base 5 1 v4 (gn + 1) (bys (mks em gn) ++ [.int .u8 ((atB em gn).toNat : Int)])) (hg : (w.alloc o).grownBy w4 g.ownBlock)
    (hv : v4.ownBlock = g.ownBlock ∨ v4.ownBlock = some (w.heap.size + 1)) (hp : ∀ j, g.ownBlock = some j → Pre gn (w.alloc o) w4 j) :
    GS w0 w4 base Pr bb E n0 vb vo k em v4 (gn + 1) cn E1 vb1 vo1 bat tn dn us := by
  have hu : Upd (fun j => g.ownBlock = some j) w w4 := ((Upd.refl (fun j => g.ownBlock = some j) w).alloc o).grown hg (fun _ h _ => h)
  have hlt : ∀ f ∈ E1, ∀ j, f.at_ j → j < w.heap.size := fun f hf j hj => ((h.bk.ent f hf).lt j hj).2
  refine ⟨h.ext, h.bk.gpre hu h.own (fun f hf j a b => (h.sh f hf j a b).2) (fun j hj => (hp j hj).alloc (h.own.lt j hj).2), ?_, ?_, ?_, ?_, h.ft, ?_⟩
  · rw [bys_one_snoc, ← mks_succ] at ho
    exact ho
  · intro f hf j a b
    rcases hv with e | e
    · rw [e] at a
      have := h.sh f hf j a b
      exact ⟨this.1, by omega⟩
    · rw [e] at a
      injection a with a
      have := hlt f hf j b
      omega
  · intro i h1 h2 f hf j a b
    rcases hv with e | e
    · exact h.un i h1 h2 f hf j a (by rw [← e]; exact b)
    · rw [e] at b
      injection b with b
      have := hlt f (List.mem_of_getElem? hf) j a
      omega
  · intro j a
    rcases hv with e | e
    · exact h.np j (by rw [← e]; exact a)
    · rw [e] at a
      injection a with a
      have := h.up.size
      exact ⟨fun hq => by have := (h.bk.pr j hq).1; omega, .inr (by omega)⟩
  · refine h.up.trans hu (fun _ s _ => s) (fun i s hi => ?_)
    rcases (h.np i s).2 with q | q
    · exact q
    · omega
/-- The row is kept. -/
theorem GS.push {ga : Option Addr} {gc : Nat} (h : GS w0 w base Pr bb E n0 vb vo k em (.slice ga gn gc) gn cn E1 vb1 vo1 bat tn dn us) (hn : gn ≤ 16777312) (hle : n0 ≤ E1.length) {o o' : Obj} {w5 w6 : World} {v5 v6 : Value}
    (ho5 : Own w5 base 74 1 v5 (E1.length + 1) (E1.map Ent.val ++ [.slice ga gn gc])) (hg5 : (w.alloc o).grownBy w5 vb1.ownBlock) (hv5 : v5.ownBlock = vb1.ownBlock ∨ v5.ownBlock = some (w.heap.size + 1))
    (ho6 : Own w6 base 3 1 v6 (E1.length + 1) (E1.map Ent.mval ++ [.int .i64 em])) (hg6 : ((w5.setCell ⟨bb, 0, none⟩ v5).alloc o').grownBy w6 vo1.ownBlock) (hv6 : v6.ownBlock = vo1.ownBlock ∨ v6.ownBlock = some ((w5.setCell ⟨bb, 0, none⟩ v5).heap.size + 1)) :
    GS w0 (w6.setCell ⟨bb, 1, none⟩ v6) base Pr bb E n0 vb vo k em (.slice ga gn gc) gn (cn + 1) (E1 ++ [⟨ga, gn, gc, em⟩]) v5 v6 bat tn dn us := by
  have P5 := h.bk.push1 ⟨ga, gn, gc, em⟩ h.own hn (fun f hf j a b => ((h.sh f hf j a b).1).symm) (fun j a => (h.np j a).1) (hi' := n0) h.un (.inl ⟨rfl, hle⟩) ho5 hg5 hv5
  have P6 := P5.push2 ⟨ga, gn, gc, em⟩ ho6 hg6 hv6
  have U5 : Upd (fun b => b = bb ∨ vb1.ownBlock = some b) w (w5.setCell ⟨bb, 0, none⟩ v5) := push_upd hg5
  have U6 : Upd (fun b => b = bb ∨ vo1.ownBlock = some b) (w5.setCell ⟨bb, 0, none⟩ v5) (w6.setCell ⟨bb, 1, none⟩ v6) := push_upd hg6
  have U : Upd (fun b => b = bb ∨ vb1.ownBlock = some b ∨ vo1.ownBlock = some b) w (w6.setCell ⟨bb, 1, none⟩ v6) := U5.trans U6 (fun i s _ => by rcases s with s | s; exact .inl s; exact .inr (.inl s)) (fun i s _ => by rcases s with s | s; exact .inl s; exact .inr (.inr s))
  obtain ⟨cur, hh, _⟩ := h.bk.blk
  have nb : (Value.slice ga gn gc).ownBlock ≠ some bb := h.own.not_at hh (by decide)
  have s5 := U5.size
  have s0 := h.up.size
  obtain ⟨P1, hP, hPl⟩ := h.ext
  refine ⟨⟨P1 ++ [⟨ga, gn, gc, em⟩], by rw [hP, List.append_assoc], by simp [hPl]⟩, P6, ?_, ?_, ?_, h.np, ?_, ?_⟩
  · refine h.own.upd U ?_
    rintro j hj (rfl | s | s)
    · exact nb hj
    · exact Own.ne_type h.own h.bk.rows (by decide) j hj s
    · exact Own.ne_type h.own h.bk.ofs (by decide) j hj s
  · intro f hf j a b
    rcases List.mem_append.1 hf with hf | hf
    · exact h.sh f hf j a b
    · rw [List.mem_singleton.1 hf]; exact ⟨rfl, Nat.le_refl _⟩
  · intro i h1 h2 f hf j a b
    rcases get_snoc hf with hf' | ⟨hi0, _⟩
    · exact h.un i h1 h2 f hf' j a b
    · omega
  · rintro j (rfl | hj | hj | ⟨e, he, hj⟩)
    · exact .inl (.inl rfl)
    · rcases hv5 with e | e
      · exact h.ft j (.inr (.inl (by rw [← e]; exact hj)))
      · rw [e] at hj; injection hj with hj; exact .inr (by omega)
    · rcases hv6 with e | e
      · exact h.ft j (.inr (.inr (.inl (by rw [← e]; exact hj))))
      · rw [e] at hj; injection hj with hj; exact .inr (by omega)
    · rcases List.mem_append.1 he with he | he
      · exact h.ft j (.inr (.inr (.inr ⟨e, he, hj⟩)))
      · rw [List.mem_singleton.1 he] at hj; exact (h.np j hj).2
  · refine h.up.trans U (fun _ s _ => s) (fun i s hi => ?_)
    have q : BkF bb vb1 vo1 E1 i := by
      rcases s with s | s | s
      · exact .inl s
      · exact .inr (.inl s)
      · exact .inr (.inr (.inl s))
    rcases h.ft i q with q | q
    · exact q
    · omega
/-- A list of the book begins to grow. -/
theorem GS.start (hx : ∃ P1, E1 = E ++ P1 ∧ P1.length = cn) (hb : Bk w base Pr bb E1 E1 k n0 vb1 vo1 bat tn dn us) (hft : ∀ j, BkF bb vb1 vo1 E1 j → BkF bb vb vo E j ∨ w0.heap.size ≤ j) (hup : Upd (BkF bb vb vo E) w0 w) {e : Ent} (hk : k < n0) (he : E1[k]? = some e) :
    GS w0 w base Pr bb E n0 vb vo (k + 1) e.m e.val e.n cn E1 vb1 vo1 bat tn dn us := by
  have hm := List.mem_of_getElem? he
  refine ⟨hx, ⟨hb.blk, hb.bbge, hb.rows, hb.ofs, hb.ent, hb.ee, fun i j h1 h2 => hb.uq i j (by omega) h2, hb.pr, fun i f hf => ⟨(hb.en i f hf).1, fun a b => (hb.en i f hf).2 (by omega) b⟩⟩, hb.ent e hm, ?_, ?_, ?_, hft, hup⟩
  · intro f hf j a b
    obtain ⟨i, hi⟩ := List.getElem?_of_mem hf
    by_cases c : i = k
    · subst c
      rw [he] at hi
      cases hi
      exact ⟨rfl, Nat.le_refl _⟩
    · exact absurd b (hb.uq k i (Nat.le_refl _) hk (fun e => c e.symm) e f he hi j a)
  · intro i h1 h2 f hf j a b
    exact hb.uq i k (by omega) h2 (by omega) f e hf he j a b
  · intro j a
    exact ⟨fun hq => (hb.pr j hq).2.2.2.2 e hm a, hft j (.inr (.inr (.inr ⟨e, hm, a⟩)))⟩
end
/-- So many rows are kept while one grows by so many. -/
def cnt (j : Nat) : Nat := (if j ≤ 3 then j else 3) + j / 16
theorem cnt_yes (j : Nat) (h : j + 1 < 4 ∨ (j + 1) % 16 = 0) : cnt (j + 1) = cnt j + 1 := by
  unfold cnt
  split <;> split <;> omega
theorem cnt_no (j : Nat) (h : ¬ (j + 1 < 4 ∨ (j + 1) % 16 = 0)) : cnt (j + 1) = cnt j := by
  unfold cnt
  split <;> split <;> omega
theorem cnt_le (j : Nat) (h : j ≤ 96) : cnt j ≤ 9 := by
  unfold cnt
  split <;> omega
end Go.Proofs.YtnbpkignkfabkaaGreatDoor
/- posternlaw1.Book.growBytes: its walk. -/
namespace Go.Proofs.YtnbpkignkfabkaaGreatDoor
set_option linter.unusedVariables false
set_option linter.unusedSimpArgs false
open Go.RowKit
/-- What becomes of a book whose lists grow. -/
def GrowP (w w' : World) (base : Nat) (Pr : Nat → Prop) (bb : Nat) (E : List Ent) (vb vo : Value) (tn dn : Int) (us : Nat) : Prop :=
  ∃ (E' : List Ent) (vb' vo' : Value), Bk w' base Pr bb E' E' E'.length E'.length vb' vo' E'.length tn dn us ∧ Cnt E'.length E'.length us ∧ (∀ k, BkF bb vb' vo' E' k → BkF bb vb vo E k ∨ w.heap.size ≤ k) ∧ Upd (BkF bb vb vo E) w w'
set_option maxRecDepth 100000 in
set_option maxHeartbeats 4000000 in
theorem growBytes_calls (w : World) (base : Nat) (Pr : Nat → Prop) (bb : Nat) (E : List Ent) (vb vo : Value) (bat : Nat) (tn dn : Int) (us : Nat) (h : Bk w base Pr bb E E bat E.length vb vo bat tn dn us) (hc : Cnt E.length bat us) :
    Calls Tryz.prog 76 #[.pointer (some ⟨bb, 0, none⟩)] w fun r w' => r = .returned (.tuple #[]) ∧ GrowP w w' base Pr bb E vb vo tn dn us := by
  have c0 := h.k0
  have c2 := h.k2
  obtain ⟨av, cv, hvb, _, _, _⟩ := h.rows.shape'
  subst hvb
  obtain ⟨n1, n2, n3⟩ := hc
  have H := Lib.hid h; clear h
  have hF : Hid (∀ k, BkF bb (.slice av E.length cv) vo E k → BkF bb (.slice av E.length cv) vo E k ∨ w.heap.size ≤ k) := fun k hk => .inl hk
  have hle : E.length ≤ 139810 := by omega
  have hle2 : E.length - bat ≤ 13981 := by omega
  go_enter Tryz.func76, Tryz.ntmps76
  go_wp2
  clear c0 c2
  go_loopw [3] (fun vk wr => ∃ (k : Nat) (E1 : List Ent) (vb1 vo1 : Value), vk = .int .i64 k ∧ bat ≤ k ∧ k ≤ E.length ∧ (∃ P1, E1 = E ++ P1 ∧ P1.length = 9 * (k - bat)) ∧ Bk wr base Pr bb E1 E1 k E.length vb1 vo1 bat tn dn us ∧
      (∀ j, BkF bb vb1 vo1 E1 j → BkF bb (.slice av E.length cv) vo E j ∨ w.heap.size ≤ j) ∧ Upd (BkF bb (.slice av E.length cv) vo E) w wr) (fun vk _ => E.length - (intOf vk).toNat)
  case atStart => exact ⟨bat, E, _, vo, rfl, Nat.le_refl _, n1, ⟨[], by simp, by simp⟩, H.out, hF.out, Upd.refl _ _⟩
  case round =>
    obtain ⟨k, E1, vb1, vo1, rfl, hk1, hk2, hx, hb, hft, hup⟩ := hrel
    have HX := Lib.hid hx; have HB := Lib.hid hb; have HFT := Lib.hid hft; have HU := Lib.hid hup
    clear hx hb hft hup
    have l1 : E1.length = E.length + 9 * (k - bat) := by obtain ⟨P1, hP, hl⟩ := HX.out; rw [hP, List.length_append, hl]
    have LL := Lib.hid l1
    by_cases hlt : k < E.length
    · have t1 : decide ((k : Int) < (E.length : Int)) = true := decide_eq_true (by omega)
      have t1' : decide (k < E.length) = true := decide_eq_true hlt
      have hk3 : k < E1.length := by omega
      obtain ⟨e, he⟩ : ∃ e, E1[k]? = some e := ⟨_, List.getElem?_eq_getElem hk3⟩
      have hn := (HB.out.en k e he).2 (Nat.le_refl _) hlt
      have GS0 := Lib.hid (GS.start HX.out HB.out HFT.out HU.out hlt he)
      have c0 := HB.out.k0
      have c1 := HB.out.k1
      obtain ⟨g1, d1, hv1⟩ := HB.out.rows.shape (by omega)
      obtain ⟨g2, d2, hv2⟩ := HB.out.ofs.shape (by omega)
      have q1 : wr.cell? ⟨g1, k, none⟩ = some (.slice e.a e.n e.c) := by
        have h := HB.out.rows
        rw [hv1] at h
        rw [h.cellAt k (by omega)]
        simp [he, Ent.val]
      have q2 : wr.cell? ⟨g2, k, none⟩ = some (.int .i64 e.m) := by
        have h := HB.out.ofs
        rw [hv2] at h
        rw [h.cellAt k (by omega)]
        simp [he, Ent.mval]
      rw [hv1] at c0
      rw [hv2] at c1
      have i1 : k < E1.length := hk3
      unfold Ent.val at GS0
      have E1le : E1.length ≤ 300000 := by omega
      clear l1 hv1 hv2 he
      generalize e.a = ea at *
      generalize e.n = en0 at *
      generalize e.c = ec at *
      generalize e.m = em at *
      go_wp2
      clear c0 c1 q1 q2
      go_loopw [4, 6] (fun vg vi wr => ∃ (j : Nat) (E1 : List Ent) (vb1 vo1 : Value) (ga : Option Addr) (gc : Nat), vi = .int .i64 ((j + 1 : Nat) : Int) ∧ j ≤ 96 ∧ vg = .slice ga (en0 + j) gc ∧
          GS w wr base Pr bb E E.length (.slice av E.length cv) vo (k + 1) em (.slice ga (en0 + j) gc) (en0 + j) (9 * (k - bat) + cnt j) E1 vb1 vo1 bat tn dn us) (fun _ vi _ => 97 - (intOf vi).toNat)
      case atStart => exact ⟨0, E1, vb1, vo1, ea, ec, rfl, by omega, rfl, GS0.out⟩
      case round =>
        clear GS0 HX HB HFT HU LL i1 hk3 E1le
        obtain ⟨j, E1, vb1, vo1, ga, gc, rfl, hj, rfl, hgs⟩ := hrel
        have GW := Lib.hid hgs; clear hgs
        have l1 : E1.length = E.length + (9 * (k - bat) + cnt j) := by obtain ⟨P1, hP, hl⟩ := GW.out.ext; rw [hP, List.length_append, hl]
        have cle := cnt_le j hj
        have E1le : E1.length ≤ 300000 := by omega
        have L1 : Hid (E.length ≤ E1.length) := by show _ ≤ _; omega
        have M1 : Hid (E1.length + 1 ≤ maxLen) := by show _ ≤ _; unfold maxLen; omega
        have M2 : Hid ((E1.length + 1) * 24 ≤ 140737488355328) := by show _ ≤ _; omega
        have M3 : Hid ((E1.length + 1) * 8 ≤ 140737488355328) := by show _ ≤ _; omega
        have LL := Lib.hid l1
        clear l1 cle
        by_cases hj2 : j < 96
        · have t2 : decide (((j + 1 : Nat) : Int) ≤ 96) = true := decide_eq_true (by omega)
          have t2' : decide ((j : Int) + 1 ≤ 96) = true := decide_eq_true (by omega)
          have AT : Calls Tryz.prog 67 #[.int .i64 em, .int .i64 ((en0 : Int) + (j : Int))] wr fun r w' => r = .returned (.int .u8 ((atB em (en0 + j)).toNat : Int)) ∧ wr = w' := by
            have h := at_calls em (en0 + j) wr (by omega)
            push_cast at h
            exact h
          have ATH := Lib.hid AT; clear AT
          go_wp2_with fail
          refine ATH.out.mono ?_
          rintro r wx ⟨rfl, rfl⟩
          clear ATH
          obtain ⟨z, hz⟩ : ∃ z, (atB em (en0 + j)).toNat = z := ⟨_, rfl⟩
          have HZ := Lib.hid hz
          rw [hz]
          clear hz
          have N1 : Hid (en0 + j + 1 ≤ maxLen) := by show _ ≤ _; unfold maxLen; omega
          have N2 : Hid ((en0 + j + 1) * 1 ≤ 140737488355328) := by show _ ≤ _; omega
          have BA : Hid (base ≤ (wr.alloc (.cells #[.int .u8 (z : Int)] 5)).heap.size) := by show base ≤ _; have h1 := GW.out.bk.bbge; have h2 := GW.out.bk.bblt; rw [World.size_alloc]; omega
          go_wp2_with (at_builtin; refine wpList_append2 rfl (.tmp 39) (.tmp 44) 74 74 rfl base 5 (.int .u8 0) 1 1 Tryz.underlying74 infoByte rfl (n := en0 + j) (xs := bys (mks em (en0 + j))) (GW.out.own.alloc _) rfl (xv := .slice (some ⟨wr.heap.size, 0, none⟩) 1 1) (m := 1) (news := [.int .u8 (z : Int)]) (Src_new Tryz.underlying74 (e := 5) (heap_alloc_new wr _) rfl) rfl N1.out N2.out BA.out ?_)
          intro v4 w4 ho4 hg4 hv4 hp4
          obtain ⟨g4, d4, rfl⟩ := ho4.shape (by omega)
          rw [← HZ.out] at ho4
          have G4 := Lib.hid (GW.out.grow ho4 hg4 hv4 hp4)
          clear ho4 hg4 hv4 hp4 GW BA HZ
          by_cases c1 : j + 1 < 4
          · have t3 : decide (((j + 1 : Nat) : Int) < 4) = true := decide_eq_true (by omega)
            have t3' : decide ((j : Int) + 1 < 4) = true := decide_eq_true (by omega)
            have c0 := G4.out.bk.k0
            have f0 := G4.out.bk.froz 0
            have B4 : Hid (base ≤ (w4.alloc (.cells #[.slice (some ⟨g4, 0, none⟩) (en0 + j + 1) d4] 74)).heap.size) := by show base ≤ _; have h1 := G4.out.bk.bbge; have h2 := G4.out.bk.bblt; rw [World.size_alloc]; omega
            go_wp2_with (at_builtin; refine wpList_append2 rfl (.tmp 57) (.tmp 59) 37 37 rfl base 74 (.slice none 0 0) 1 24 Tryz.underlying37 infoRow rfl (n := E1.length) (xs := E1.map Ent.val) (G4.out.bk.rows.alloc _) rfl (xv := .slice (some ⟨w4.heap.size, 0, none⟩) 1 1) (m := 1) (news := [.slice (some ⟨g4, 0, none⟩) (en0 + j + 1) d4]) (Src_new Tryz.underlying37 (e := 74) (heap_alloc_new w4 _) rfl) rfl M1.out M2.out B4.out ?_)
            intro v5 w5 ho5 hg5 hv5 _
            obtain ⟨g5, d5, rfl⟩ := ho5.shape (by omega)
            have U5 := Lib.hid (show Upd (fun b => vb1.ownBlock = some b) w4 w5 from ((Upd.refl (fun b => vb1.ownBlock = some b) w4).alloc _).grown hg5 (fun _ h _ => h))
            have c5 : w5.cell? ⟨bb, 0, none⟩ = some vb1 := U5.out.cell' c0 G4.out.bk.vb_ne
            have hz : Hid (∀ q, w5.frozen? ⟨bb, q, none⟩ = false) := fun q => (U5.out.frozen (p := ⟨bb, q, none⟩) G4.out.bk.bblt G4.out.bk.vb_ne).trans (G4.out.bk.froz q)
            have f5 := hz.out 0
            have k5 : w5.cell? ⟨bb, 1, none⟩ = some vo1 := U5.out.cell' G4.out.bk.k1 G4.out.bk.vb_ne
            have X5 := Lib.hid (show Upd (fun b => b = bb ∨ vb1.ownBlock = some b) w4 (w5.setCell ⟨bb, 0, none⟩ (.slice (some ⟨g5, 0, none⟩) (E1.length + 1) d5)) from push_upd hg5)
            have HS5 : Hid ((w5.setCell ⟨bb, 0, none⟩ (.slice (some ⟨g5, 0, none⟩) (E1.length + 1) d5)).heap.size = w5.heap.size) := by show _ = _; simp [World.setCell]
            have OF5 := Lib.hid (G4.out.bk.ofs.upd X5.out (fun b h => by
              rintro (s | s)
              · exact G4.out.bk.vo_ne (by rw [h, s])
              · exact Own.ne_type G4.out.bk.ofs G4.out.bk.rows (by decide) b h s))
            have B5 : Hid (base ≤ ((w5.setCell ⟨bb, 0, none⟩ (.slice (some ⟨g5, 0, none⟩) (E1.length + 1) d5)).alloc (.cells #[.int .i64 em] 3)).heap.size) := by show base ≤ _; have h1 := G4.out.bk.bbge; have h2 := G4.out.bk.bblt; have h3 := X5.out.size; rw [World.size_alloc]; omega
            have S5 : Hid (Src Tryz.prog 1 38 (.slice (some ⟨w5.heap.size, 0, none⟩) 1 1) 1 [.int .i64 em] ((w5.setCell ⟨bb, 0, none⟩ (.slice (some ⟨g5, 0, none⟩) (E1.length + 1) d5)).alloc (.cells #[.int .i64 em] 3))) := by
              have h := heap_alloc_new (w5.setCell ⟨bb, 0, none⟩ (.slice (some ⟨g5, 0, none⟩) (E1.length + 1) d5)) (.cells #[.int .i64 em] 3)
              rw [HS5.out] at h
              exact Src_new Tryz.underlying38 (e := 3) h rfl
            have O5 := Lib.hid ho5; have HG5 := Lib.hid hg5; have HV5 := Lib.hid hv5
            clear ho5 hg5 hv5 c0 f0
            go_wp2_with (at_builtin; refine wpList_append2 rfl (.tmp 67) (.tmp 69) 38 38 rfl base 3 (.int .i64 0) 1 8 Tryz.underlying38 infoInt rfl (n := E1.length) (xs := E1.map Ent.mval) (OF5.out.alloc _) rfl (xv := .slice (some ⟨w5.heap.size, 0, none⟩) 1 1) (m := 1) (news := [.int .i64 em]) S5.out rfl M1.out M3.out B5.out ?_)
            intro v6 w6 ho6 hg6 hv6 _
            obtain ⟨g6, d6, rfl⟩ := ho6.shape (by omega)
            rw [← HS5.out] at hv6
            have GP := Lib.hid (G4.out.push (by omega) L1.out O5.out HG5.out HV5.out ho6 hg6 hv6)
            have U6 := Lib.hid (show Upd (fun b => vo1.ownBlock = some b) (w5.setCell ⟨bb, 0, none⟩ (.slice (some ⟨g5, 0, none⟩) (E1.length + 1) d5)) w6 from ((Upd.refl (fun b => vo1.ownBlock = some b) (w5.setCell ⟨bb, 0, none⟩ (.slice (some ⟨g5, 0, none⟩) (E1.length + 1) d5))).alloc _).grown hg6 (fun _ h _ => h))
            have b5 : bb < (w5.setCell ⟨bb, 0, none⟩ (.slice (some ⟨g5, 0, none⟩) (E1.length + 1) d5)).heap.size := Nat.lt_of_lt_of_le G4.out.bk.bblt X5.out.size
            have c6 : w6.cell? ⟨bb, 1, none⟩ = some vo1 := U6.out.cell' ((cell_other _ (by decide)).trans k5) G4.out.bk.vo_ne
            have f6 : w6.frozen? ⟨bb, 1, none⟩ = false := (U6.out.frozen (p := ⟨bb, 1, none⟩) b5 G4.out.bk.vo_ne).trans ((frozen_same _ _ _ _).trans (hz.out 1))
            clear ho6 hg6 hv6 c5 f5 k5 b5
            go_wp2
            go_roundw
            case rel => exact ⟨j + 1, _, _, _, _, _, by go_num, by omega, rfl, by rw [cnt_yes j (.inl c1)]; exact GP.out⟩
            case measure => simp [intOf]; omega
          · have t3 : decide (((j + 1 : Nat) : Int) < 4) = false := decide_eq_false (by omega)
            have t3' : decide ((j : Int) + 1 < 4) = false := decide_eq_false (by omega)
            by_cases c2 : (j + 1) % 16 = 0
            · have t4 : ((((j + 1 : Nat) : Int) % 16) == 0) = true := by rw [beq_iff_eq]; omega
              have t4' : ((((j : Int) + 1) % 16) == 0) = true := by rw [beq_iff_eq]; omega
              have c0 := G4.out.bk.k0
              have f0 := G4.out.bk.froz 0
              have B4 : Hid (base ≤ (w4.alloc (.cells #[.slice (some ⟨g4, 0, none⟩) (en0 + j + 1) d4] 74)).heap.size) := by show base ≤ _; have h1 := G4.out.bk.bbge; have h2 := G4.out.bk.bblt; rw [World.size_alloc]; omega
              go_wp2_with (at_builtin; refine wpList_append2 rfl (.tmp 57) (.tmp 59) 37 37 rfl base 74 (.slice none 0 0) 1 24 Tryz.underlying37 infoRow rfl (n := E1.length) (xs := E1.map Ent.val) (G4.out.bk.rows.alloc _) rfl (xv := .slice (some ⟨w4.heap.size, 0, none⟩) 1 1) (m := 1) (news := [.slice (some ⟨g4, 0, none⟩) (en0 + j + 1) d4]) (Src_new Tryz.underlying37 (e := 74) (heap_alloc_new w4 _) rfl) rfl M1.out M2.out B4.out ?_)
              intro v5 w5 ho5 hg5 hv5 _
              obtain ⟨g5, d5, rfl⟩ := ho5.shape (by omega)
              have U5 := Lib.hid (show Upd (fun b => vb1.ownBlock = some b) w4 w5 from ((Upd.refl (fun b => vb1.ownBlock = some b) w4).alloc _).grown hg5 (fun _ h _ => h))
              have c5 : w5.cell? ⟨bb, 0, none⟩ = some vb1 := U5.out.cell' c0 G4.out.bk.vb_ne
              have hz : Hid (∀ q, w5.frozen? ⟨bb, q, none⟩ = false) := fun q => (U5.out.frozen (p := ⟨bb, q, none⟩) G4.out.bk.bblt G4.out.bk.vb_ne).trans (G4.out.bk.froz q)
              have f5 := hz.out 0
              have k5 : w5.cell? ⟨bb, 1, none⟩ = some vo1 := U5.out.cell' G4.out.bk.k1 G4.out.bk.vb_ne
              have X5 := Lib.hid (show Upd (fun b => b = bb ∨ vb1.ownBlock = some b) w4 (w5.setCell ⟨bb, 0, none⟩ (.slice (some ⟨g5, 0, none⟩) (E1.length + 1) d5)) from push_upd hg5)
              have HS5 : Hid ((w5.setCell ⟨bb, 0, none⟩ (.slice (some ⟨g5, 0, none⟩) (E1.length + 1) d5)).heap.size = w5.heap.size) := by show _ = _; simp [World.setCell]
              have OF5 := Lib.hid (G4.out.bk.ofs.upd X5.out (fun b h => by
                rintro (s | s)
                · exact G4.out.bk.vo_ne (by rw [h, s])
                · exact Own.ne_type G4.out.bk.ofs G4.out.bk.rows (by decide) b h s))
              have B5 : Hid (base ≤ ((w5.setCell ⟨bb, 0, none⟩ (.slice (some ⟨g5, 0, none⟩) (E1.length + 1) d5)).alloc (.cells #[.int .i64 em] 3)).heap.size) := by show base ≤ _; have h1 := G4.out.bk.bbge; have h2 := G4.out.bk.bblt; have h3 := X5.out.size; rw [World.size_alloc]; omega
              have S5 : Hid (Src Tryz.prog 1 38 (.slice (some ⟨w5.heap.size, 0, none⟩) 1 1) 1 [.int .i64 em] ((w5.setCell ⟨bb, 0, none⟩ (.slice (some ⟨g5, 0, none⟩) (E1.length + 1) d5)).alloc (.cells #[.int .i64 em] 3))) := by
                have h := heap_alloc_new (w5.setCell ⟨bb, 0, none⟩ (.slice (some ⟨g5, 0, none⟩) (E1.length + 1) d5)) (.cells #[.int .i64 em] 3)
                rw [HS5.out] at h
                exact Src_new Tryz.underlying38 (e := 3) h rfl
              have O5 := Lib.hid ho5; have HG5 := Lib.hid hg5; have HV5 := Lib.hid hv5
              clear ho5 hg5 hv5 c0 f0
              go_wp2_with (at_builtin; refine wpList_append2 rfl (.tmp 67) (.tmp 69) 38 38 rfl base 3 (.int .i64 0) 1 8 Tryz.underlying38 infoInt rfl (n := E1.length) (xs := E1.map Ent.mval) (OF5.out.alloc _) rfl (xv := .slice (some ⟨w5.heap.size, 0, none⟩) 1 1) (m := 1) (news := [.int .i64 em]) S5.out rfl M1.out M3.out B5.out ?_)
              intro v6 w6 ho6 hg6 hv6 _
              obtain ⟨g6, d6, rfl⟩ := ho6.shape (by omega)
              rw [← HS5.out] at hv6
              have GP := Lib.hid (G4.out.push (by omega) L1.out O5.out HG5.out HV5.out ho6 hg6 hv6)
              have U6 := Lib.hid (show Upd (fun b => vo1.ownBlock = some b) (w5.setCell ⟨bb, 0, none⟩ (.slice (some ⟨g5, 0, none⟩) (E1.length + 1) d5)) w6 from ((Upd.refl (fun b => vo1.ownBlock = some b) (w5.setCell ⟨bb, 0, none⟩ (.slice (some ⟨g5, 0, none⟩) (E1.length + 1) d5))).alloc _).grown hg6 (fun _ h _ => h))
              have b5 : bb < (w5.setCell ⟨bb, 0, none⟩ (.slice (some ⟨g5, 0, none⟩) (E1.length + 1) d5)).heap.size := Nat.lt_of_lt_of_le G4.out.bk.bblt X5.out.size
              have c6 : w6.cell? ⟨bb, 1, none⟩ = some vo1 := U6.out.cell' ((cell_other _ (by decide)).trans k5) G4.out.bk.vo_ne
              have f6 : w6.frozen? ⟨bb, 1, none⟩ = false := (U6.out.frozen (p := ⟨bb, 1, none⟩) b5 G4.out.bk.vo_ne).trans ((frozen_same _ _ _ _).trans (hz.out 1))
              clear ho6 hg6 hv6 c5 f5 k5 b5
              go_wp2
              go_roundw
              case rel => exact ⟨j + 1, _, _, _, _, _, by go_num, by omega, rfl, by rw [cnt_yes j (.inr c2)]; exact GP.out⟩
              case measure => simp [intOf]; omega
            · have t4 : ((((j + 1 : Nat) : Int) % 16) == 0) = false := by rw [beq_eq_false_iff_ne]; omega
              have t4' : ((((j : Int) + 1) % 16) == 0) = false := by rw [beq_eq_false_iff_ne]; omega
              go_wp2
              go_roundw
              case rel => exact ⟨j + 1, _, _, _, _, _, by go_num, by omega, rfl, by rw [cnt_no j (fun h => h.elim c1 c2)]; exact G4.out⟩
              case measure => simp [intOf]; omega
        · have t2 : decide (((j + 1 : Nat) : Int) ≤ 96) = false := decide_eq_false (by omega)
          have t2' : decide ((j : Int) + 1 ≤ 96) = false := decide_eq_false (by omega)
          obtain rfl : j = 96 := by omega
          have hx : ∃ P1, E1 = E ++ P1 ∧ P1.length = 9 * (k + 1 - bat) := by
            obtain ⟨P1, hP, hl⟩ := GW.out.ext
            exact ⟨P1, hP, by rw [hl, show cnt 96 = 9 from rfl]; omega⟩
          have HX2 := Lib.hid hx; clear hx
          go_wp2
          go_roundw
          case rel => exact ⟨k + 1, E1, vb1, vo1, by go_num, by omega, by omega, HX2.out, GW.out.bk, GW.out.ft, GW.out.up⟩
          case measure => simp [intOf]; omega
    · have t1 : decide ((k : Int) < (E.length : Int)) = false := decide_eq_false (by omega)
      have t1' : decide (k < E.length) = false := decide_eq_false hlt
      have c0 := HB.out.k0
      have c2 := HB.out.k2
      have f2 := HB.out.froz 2
      obtain ⟨a1, d1, hv1, _, _, _⟩ := HB.out.rows.shape'
      rw [hv1] at c0
      have HP := Lib.hid (HB.out.put 2 (.int .i64 E1.length) (fun cur hk => hk.s2 E1.length))
      have hC : Hid (Cnt E1.length E1.length us) := by show Cnt _ _ _; exact ⟨Nat.le_refl _, by omega, n3⟩
      have HU2 : Hid (Upd (BkF bb (.slice av E.length cv) vo E) w (wr.setCell ⟨bb, 2, none⟩ (.int .i64 E1.length))) := HU.out.setCell (p := ⟨bb, 2, none⟩) (fun _ => .inl rfl) _
      clear hv1 l1
      go_wp2
      go_end0
      refine ⟨rfl, E1, vb1, vo1, ?_, hC.out, HFT.out, HU2.out⟩
      have h := HP.out
      exact ⟨h.blk, h.bbge, h.rows, h.ofs, h.ent, h.ee, fun i j h1 h2 => absurd h2 (by omega), h.pr, fun i f hf => ⟨(h.en i f hf).1, fun a b => absurd b (by omega)⟩⟩
end Go.Proofs.YtnbpkignkfabkaaGreatDoor
namespace Go.Proofs.YtnbpkignkfabkaaGreatDoor
set_option linter.unusedVariables false
set_option linter.unusedSimpArgs false
open Go.RowKit
theorem NilB.drewN {w : World} {bb : Nat} (h : NilB w bb) (n : Nat) : NilB (w.drewN n) bb := ⟨h.cell, h.froz⟩
set_option maxRecDepth 100000 in
set_option maxHeartbeats 1000000 in
theorem holds_calls (w : World) (base : Nat) (Pr : Nat → Prop) (bb : Nat) (E : List Ent) (lo hi : Nat) (vb vo : Value) (bat : Nat) (tn dn : Int) (us : Nat) (h : Bk w base Pr bb E E lo hi vb vo bat tn dn us) (hl : E.length ≤ 1400000) :
    Calls Tryz.prog 40 #[.pointer (some ⟨bb, 0, none⟩)] w fun r w' => ∃ n, r = .returned (.bool true) ∧ w' = w.drewN n := by
  have HP := Lib.hid (plain_calls w base Pr bb E lo hi vb vo bat tn dn us h hl)
  have HN := Lib.hid h.nilB
  clear h
  go_enter Tryz.func40, Tryz.ntmps40
  go_wp2_with fail
  refine HP.out.mono ?_
  rintro r w1 ⟨n, rfl, rfl⟩
  have HM := Lib.hid (HN.out.drewN n)
  go_wp2_with fail
  refine (kept_calls bb _ HM.out).mono ?_
  rintro r w1 ⟨rfl, rfl⟩
  go_wp2_with fail
  refine (told_calls bb _ HM.out).mono ?_
  rintro r w1 ⟨rfl, rfl⟩
  go_wp2_with fail
  refine (held_calls bb _ HM.out).mono ?_
  rintro r w1 ⟨rfl, rfl⟩
  go_wp2_with fail
  refine (sent_calls bb _ HM.out).mono ?_
  rintro r w1 ⟨rfl, rfl⟩
  go_wp2_with fail
  refine (given_calls bb _ HM.out).mono ?_
  rintro r w1 ⟨rfl, rfl⟩
  go_wp2_with fail
  refine (seen_calls bb _ HM.out).mono ?_
  rintro r w1 ⟨rfl, rfl⟩
  go_wp2
  go_ret
  exact ⟨_, rfl, rfl⟩
set_option maxRecDepth 100000 in
set_option maxHeartbeats 1000000 in
theorem grow_calls (w : World) (base : Nat) (Pr : Nat → Prop) (bb : Nat) (E : List Ent) (vb vo : Value) (bat : Nat) (tn dn : Int) (us : Nat) (h : Bk w base Pr bb E E bat E.length vb vo bat tn dn us) (hc : Cnt E.length bat us) :
    Calls Tryz.prog 41 #[.pointer (some ⟨bb, 0, none⟩)] w fun r w' => r = .returned (.tuple #[]) ∧ GrowP w w' base Pr bb E vb vo tn tn us := by
  have HP := Lib.hid (growBytes_calls w base Pr bb E vb vo bat tn dn us h hc)
  clear h hc
  go_enter Tryz.func41, Tryz.ntmps41
  go_wp2_with fail
  refine HP.out.mono ?_
  rintro r w1 ⟨rfl, E', vb', vo', hb, hc, hf, hu⟩
  have HB := Lib.hid hb; have HC := Lib.hid hc; have HF := Lib.hid hf; have HU := Lib.hid hu
  have HN := Lib.hid hb.nilB
  clear hb hc hf hu HP
  go_wp2_with fail
  refine (growRows_calls bb _ HN.out).mono ?_
  rintro r w2 ⟨rfl, rfl⟩
  go_wp2_with fail
  refine (growTexts_calls bb _ HN.out).mono ?_
  rintro r w2 ⟨rfl, rfl⟩
  go_wp2_with fail
  refine (growInts_calls bb _ HN.out).mono ?_
  rintro r w2 ⟨rfl, rfl⟩
  go_wp2_with fail
  refine (growWords_calls bb _ HN.out).mono ?_
  rintro r w2 ⟨rfl, rfl⟩
  go_wp2_with fail
  refine (growIds_calls bb _ HN.out).mono ?_
  rintro r w2 ⟨rfl, rfl⟩
  go_wp2_with fail
  refine (growKeys_calls bb _ HN.out).mono ?_
  rintro r w2 ⟨rfl, rfl⟩
  go_wp2_with fail
  refine (growUsers_calls bb _ HN.out).mono ?_
  rintro r w2 ⟨rfl, rfl⟩
  go_wp2_with fail
  refine (growSessions_calls bb _ HN.out).mono ?_
  rintro r w2 ⟨rfl, rfl⟩
  go_wp2_with fail
  refine (growRefreshes_calls bb _ HN.out).mono ?_
  rintro r w2 ⟨rfl, rfl⟩
  go_wp2_with fail
  refine (growRevokeds_calls bb _ HN.out).mono ?_
  rintro r w2 ⟨rfl, rfl⟩
  go_wp2_with fail
  refine (growFields_calls bb _ HN.out).mono ?_
  rintro r w2 ⟨rfl, rfl⟩
  go_wp2_with fail
  refine (growFiles_calls bb _ HN.out).mono ?_
  rintro r w2 ⟨rfl, rfl⟩
  go_wp2_with fail
  refine (growPairs_calls bb _ HN.out).mono ?_
  rintro r w2 ⟨rfl, rfl⟩
  go_wp2_with fail
  refine (growChanges_calls bb _ HN.out).mono ?_
  rintro r w2 ⟨rfl, rfl⟩
  go_wp2_with fail
  refine (growValues_calls bb _ HN.out).mono ?_
  rintro r w2 ⟨rfl, rfl⟩
  go_wp2_with fail
  refine (growClients_calls bb _ HN.out).mono ?_
  rintro r w2 ⟨rfl, rfl⟩
  go_wp2_with fail
  refine (growConsents_calls bb _ HN.out).mono ?_
  rintro r w2 ⟨rfl, rfl⟩
  go_wp2_with fail
  refine (growCodes_calls bb _ HN.out).mono ?_
  rintro r w2 ⟨rfl, rfl⟩
  go_wp2_with fail
  refine (growGrants_calls bb _ HN.out).mono ?_
  rintro r w2 ⟨rfl, rfl⟩
  go_wp2_with fail
  refine (growClaims_calls bb _ HN.out).mono ?_
  rintro r w2 ⟨rfl, rfl⟩
  go_wp2_with fail
  refine (growRoutes_calls bb _ HN.out).mono ?_
  rintro r w2 ⟨rfl, rfl⟩
  go_wp2_with fail
  refine (growAnswers_calls bb _ HN.out).mono ?_
  rintro r w2 ⟨rfl, rfl⟩
  go_wp2_with fail
  refine (growHelds_calls bb _ HN.out).mono ?_
  rintro r w2 ⟨rfl, rfl⟩
  have c72 := HB.out.k72
  have c73 := HB.out.k73
  have f73 := HB.out.froz 73
  have HQ := Lib.hid (HB.out.put 73 (.int .i64 tn) (fun cur hk => hk.s73 tn))
  have HU2 : Hid (Upd (BkF bb vb vo E) w (w1.setCell ⟨bb, 73, none⟩ (.int .i64 tn))) := HU.out.setCell (p := ⟨bb, 73, none⟩) (fun _ => .inl rfl) _
  go_wp2
  go_end0
  exact ⟨rfl, E', vb', vo', HQ.out, HC.out, HF.out, HU2.out⟩
/-- What becomes of a book that is looked at. -/
def LookP (w w' : World) (base : Nat) (Pr : Nat → Prop) (bb : Nat) (E : List Ent) (vb vo : Value) (tn : Int) (us : Nat) : Prop :=
  ∃ (E' : List Ent) (vb' vo' : Value) (bat' : Nat) (dn' : Int), Bk w' base Pr bb E' E' bat' E'.length vb' vo' bat' tn dn' us ∧ Cnt E'.length bat' us ∧ (∀ k, BkF bb vb' vo' E' k → BkF bb vb vo E k ∨ w.heap.size ≤ k) ∧ Upd (BkF bb vb vo E) w w'
theorem Bk.drewN {w : World} {base : Nat} {Pr : Nat → Prop} {bb : Nat} {E E2 : List Ent} {lo hi : Nat} {vb vo : Value} {bat : Nat} {tn dn : Int} {us : Nat} (h : Bk w base Pr bb E E2 lo hi vb vo bat tn dn us) (n : Nat) : Bk (w.drewN n) base Pr bb E E2 lo hi vb vo bat tn dn us :=
  h.upd ((Upd.refl (fun _ => False) w).drewN n) (fun _ s => s.elim)
theorem Upd.undrewN {S : Nat → Prop} {w w' : World} {n : Nat} (h : Upd S (w.drewN n) w') : Upd S w w' := ⟨h.os, h.tape, h.output, h.size, h.block⟩
set_option maxRecDepth 100000 in
set_option maxHeartbeats 1000000 in
theorem Look_calls (w : World) (base : Nat) (Pr : Nat → Prop) (bb : Nat) (E : List Ent) (vb vo : Value) (bat : Nat) (tn dn : Int) (us : Nat) (h : Bk w base Pr bb E E bat E.length vb vo bat tn dn us) (hc : Cnt E.length bat us) :
    Calls Tryz.prog 13 #[.pointer (some ⟨bb, 0, none⟩)] w fun r w' => r = .returned (.bool true) ∧ LookP w w' base Pr bb E vb vo tn us := by
  have hl : E.length ≤ 1400000 := by obtain ⟨a, b, c⟩ := hc; omega
  have HP := Lib.hid (holds_calls w base Pr bb E _ _ vb vo bat tn dn us h hl)
  have c72 := h.k72
  have c73 := h.k73
  have H := Lib.hid h; have HC := Lib.hid hc
  clear h hc
  go_enter Tryz.func13, Tryz.ntmps13
  go_wp2_with fail
  refine HP.out.mono ?_
  rintro r w1 ⟨n, rfl, rfl⟩
  by_cases hd : dn = tn
  · have td : (dn == tn) = true := by rw [beq_iff_eq]; exact hd
    clear hd
    go_wp2_with fail
    go_quiet (fail)
    go_wp2
    go_ret
    exact ⟨rfl, E, vb, vo, bat, dn, (H.out.drewN _).drewN _, HC.out, fun k hk => .inl hk, ((Upd.refl _ w).drewN _).drewN _⟩
  · have td : (dn == tn) = false := by rw [beq_eq_false_iff_ne]; exact hd
    clear hd
    go_wp2_with fail
    go_quiet (fail)
    clear c72 c73 td
    go_wp2_with fail
    refine (grow_calls _ base Pr bb E vb vo bat tn dn us (by first | exact H.out.drewN _ | exact (H.out.drewN _).drewN _) HC.out).mono ?_
    rintro r w2 ⟨rfl, E', vb', vo', hb, hc, hf, hu⟩
    have HB := Lib.hid hb; have HC2 := Lib.hid hc
    have HF : Hid (∀ k, BkF bb vb' vo' E' k → BkF bb vb vo E k ∨ w.heap.size ≤ k) := hf
    have HU : Hid (Upd (BkF bb vb vo E) w w2) := ⟨hu.os, hu.tape, hu.output, hu.size, hu.block⟩
    have hl2 : E'.length ≤ 1400000 := by obtain ⟨a, b, c⟩ := hc; omega
    clear hb hc hf hu
    have HP2 := Lib.hid (holds_calls w2 base Pr bb E' _ _ vb' vo' _ tn tn us HB.out hl2)
    go_wp2_with fail
    refine HP2.out.mono ?_
    rintro r w3 ⟨n3, rfl, rfl⟩
    go_wp2
    go_ret
    exact ⟨rfl, E', vb', vo', _, tn, HB.out.drewN _, HC2.out, HF.out, HU.out.drewN _⟩
end Go.Proofs.YtnbpkignkfabkaaGreatDoor
