/- posternlaw1.Book: a list that is taken. -/
import Derived.Test.YtjiciklnhcmfaaaGreatDoorBook
import Derived.Test.YtjiciklnhcmfaaaGreatDoorBox
namespace Go.Proofs.YtjiciklnhcmfaaaGreatDoor
set_option linter.unusedVariables false
set_option linter.unusedSimpArgs false
open Go.RowKit
theorem infoInt : (Tryz.prog.info? 3).map (fun i => (i.zero, i.size, i.bytes)) = some (some (.int .i64 0), 1, 8) := by kernel_rfl
theorem get_snoc {α : Type} {l : List α} {x y : α} {i : Nat} (h : (l ++ [x])[i]? = some y) : l[i]? = some y ∨ (i = l.length ∧ y = x) := by
  by_cases c : i < l.length
  · rw [List.getElem?_append_left c] at h; exact .inl h
  · rw [List.getElem?_append_right (by omega)] at h
    by_cases d : i = l.length
    · subst d; simp at h; exact .inr ⟨rfl, h.symm⟩
    · rw [List.getElem?_eq_none (by simp; omega)] at h; cases h
section
variable {w w4 : World} {base : Nat} {Pr : Nat → Prop} {bb : Nat} {E E2 : List Ent} {lo hi : Nat} {vb vo : Value} {bat : Nat} {tn dn : Int} {us : Nat}
theorem Bk.vb_ne (h : Bk w base Pr bb E E2 lo hi vb vo bat tn dn us) : vb.ownBlock ≠ some bb := by obtain ⟨cur, hh, _⟩ := h.blk; exact h.rows.not_at hh (by decide)
theorem Bk.vo_ne (h : Bk w base Pr bb E E2 lo hi vb vo bat tn dn us) : vo.ownBlock ≠ some bb := by obtain ⟨cur, hh, _⟩ := h.blk; exact h.ofs.not_at hh (by decide)
theorem push_upd {o : Obj} {v v' : Value} {j : Nat} (hg : (w.alloc o).grownBy w4 v.ownBlock) : Upd (fun k => k = bb ∨ v.ownBlock = some k) w (w4.setCell ⟨bb, j, none⟩ v') :=
  (((Upd.refl (fun k => k = bb ∨ v.ownBlock = some k) w).alloc o).grown hg (fun _ h _ => .inr h)).setCell (p := ⟨bb, j, none⟩) (fun _ => .inl rfl) v'
/-- One more row. -/
theorem Bk.push1 (h : Bk w base Pr bb E E2 lo hi vb vo bat tn dn us) (e : Ent) (he : Own w base 5 1 e.val e.n (bys (mks e.m e.n))) (hn : e.n ≤ 16777312)
    (hee : ∀ f ∈ E, ∀ k, e.at_ k → f.at_ k → e.m = f.m) (hpr : ∀ k, e.at_ k → ¬ Pr k) {hi' : Nat}
    (huq : ∀ i, lo ≤ i → i < hi' → ∀ f, E[i]? = some f → ∀ k, f.at_ k → ¬ e.at_ k) (hhi : hi' = hi ∧ hi ≤ E.length ∨ hi = E.length ∧ hi' = E.length + 1 ∧ e.n ≤ 16777216 ∧ ∀ f ∈ E, ∀ k, e.at_ k → ¬ f.at_ k)
    {o : Obj} {v' : Value} (hr : Own w4 base 23 1 v' (E.length + 1) (E.map Ent.val ++ [e.val])) (hg : (w.alloc o).grownBy w4 vb.ownBlock) (hv : v'.ownBlock = vb.ownBlock ∨ v'.ownBlock = some (w.heap.size + 1)) :
    Bk (w4.setCell ⟨bb, 0, none⟩ v') base Pr bb (E ++ [e]) E2 lo hi' v' vo bat tn dn us := by
  obtain ⟨cur, hh, hk⟩ := h.blk
  have hU : Upd (fun k => k = bb ∨ vb.ownBlock = some k) w (w4.setCell ⟨bb, 0, none⟩ v') := push_upd hg
  have hU4 : Upd (fun k => vb.ownBlock = some k) w w4 := ((Upd.refl (fun k => vb.ownBlock = some k) w).alloc o).grown hg (fun _ h _ => h)
  have n1 : vb.ownBlock ≠ some bb := h.rows.not_at hh (by decide)
  have n2 : vo.ownBlock ≠ some bb := h.ofs.not_at hh (by decide)
  have n3 : ∀ f ∈ E, ¬ f.at_ bb := fun f hf => (h.ent f hf).not_at hh (by decide)
  have n4 : ¬ e.at_ bb := he.not_at hh (by decide)
  have m2 : ∀ k, vo.ownBlock = some k → ¬ (k = bb ∨ vb.ownBlock = some k) := by
    rintro k hk (rfl | hb)
    · exact n2 hk
    · exact Own.ne_type h.rows h.ofs (by decide) k hb hk
  have m3 : ∀ f ∈ E, ∀ k, f.at_ k → ¬ (k = bb ∨ vb.ownBlock = some k) := by
    rintro f hf k hk (rfl | hb)
    · exact n3 f hf hk
    · exact Own.ne_type h.rows (h.ent f hf) (by decide) k hb hk
  have m4 : ∀ k, e.at_ k → ¬ (k = bb ∨ vb.ownBlock = some k) := by
    rintro k hk (rfl | hb)
    · exact n4 hk
    · exact Own.ne_type h.rows he (by decide) k hb hk
  have h4 := (hU4.block bb (lt_of_block hh) n1).trans hh
  have n5 : v'.ownBlock ≠ some bb := hr.not_at h4 (by decide)
  refine ⟨⟨cur.setIfInBounds 0 v', set_blk v' h4, hk.s0 v'⟩, h.bbge, ?_, h.ofs.upd hU m2, ?_, ?_, ?_, ?_, ?_⟩
  · rw [List.length_append, List.map_append]
    exact hr.setCell_other n5 v'
  · intro f hf
    rcases List.mem_append.1 hf with hf | hf
    · exact (h.ent f hf).upd hU (m3 f hf)
    · rw [List.mem_singleton.1 hf]; exact he.upd hU m4
  · intro f hf g hg k a b
    rcases List.mem_append.1 hf with hf | hf
    · rcases List.mem_append.1 hg with hg | hg
      · exact h.ee f hf g hg k a b
      · rw [List.mem_singleton.1 hg] at b ⊢; exact (hee f hf k b a).symm
    · rw [List.mem_singleton.1 hf] at a ⊢
      rcases List.mem_append.1 hg with hg | hg
      · exact hee g hg k a b
      · rw [List.mem_singleton.1 hg]
  · intro i j h1 h2 hij f g hf hg k a b
    rcases get_snoc hf with hf' | ⟨hi0, ef⟩
    · rcases get_snoc hg with hg' | ⟨hj0, eg⟩
      · rcases hhi with ⟨rfl, hle⟩ | ⟨rfl, rfl, _, _⟩
        · exact h.uq i j h1 h2 hij f g hf' hg' k a b
        · exact h.uq i j h1 (List.getElem?_eq_some_iff.1 hf').1 hij f g hf' hg' k a b
      · rw [eg] at b
        exact huq i h1 h2 f hf' k a b
    · rcases hhi with ⟨rfl, hle⟩ | ⟨rfl, rfl, _, hnew⟩
      · omega
      · rcases get_snoc hg with hg' | ⟨hj0, _⟩
        · rw [ef] at a
          exact hnew g (List.mem_of_getElem? hg') k a b
        · omega
  · intro k hp
    obtain ⟨p1, p2, p3, p4, p5⟩ := h.pr k hp
    refine ⟨Nat.lt_of_lt_of_le p1 hU.size, p2, ?_, p4, ?_⟩
    · rcases hv with hv | hv
      · rw [hv]; exact p3
      · rw [hv]; intro hh; injection hh with hh; omega
    · intro f hf
      rcases List.mem_append.1 hf with hf | hf
      · exact p5 f hf
      · rw [List.mem_singleton.1 hf]; exact fun hk => hpr k hk hp
  · intro i f hf
    rcases get_snoc hf with hf' | ⟨hi0, ef⟩
    · refine ⟨(h.en i f hf').1, fun a b => ?_⟩
      rcases hhi with ⟨rfl, _⟩ | ⟨rfl, rfl, _, _⟩
      · exact (h.en i f hf').2 a b
      · exact (h.en i f hf').2 a (List.getElem?_eq_some_iff.1 hf').1
    · rw [ef]
      refine ⟨hn, fun a b => ?_⟩
      rcases hhi with ⟨rfl, hle⟩ | ⟨rfl, rfl, h16, _⟩
      · omega
      · exact h16
/-- One more mark. -/
theorem Bk.push2 (h : Bk w base Pr bb E E2 lo hi vb vo bat tn dn us) (e : Ent)
    {o : Obj} {v' : Value} (hr : Own w4 base 3 1 v' (E2.length + 1) (E2.map Ent.mval ++ [e.mval])) (hg : (w.alloc o).grownBy w4 vo.ownBlock) (hv : v'.ownBlock = vo.ownBlock ∨ v'.ownBlock = some (w.heap.size + 1)) :
    Bk (w4.setCell ⟨bb, 1, none⟩ v') base Pr bb E (E2 ++ [e]) lo hi vb v' bat tn dn us := by
  obtain ⟨cur, hh, hk⟩ := h.blk
  have hU : Upd (fun k => k = bb ∨ vo.ownBlock = some k) w (w4.setCell ⟨bb, 1, none⟩ v') := push_upd hg
  have hU4 : Upd (fun k => vo.ownBlock = some k) w w4 := ((Upd.refl (fun k => vo.ownBlock = some k) w).alloc o).grown hg (fun _ h _ => h)
  have n1 : vb.ownBlock ≠ some bb := h.rows.not_at hh (by decide)
  have n2 : vo.ownBlock ≠ some bb := h.ofs.not_at hh (by decide)
  have n3 : ∀ f ∈ E, ¬ f.at_ bb := fun f hf => (h.ent f hf).not_at hh (by decide)
  have m2 : ∀ k, vb.ownBlock = some k → ¬ (k = bb ∨ vo.ownBlock = some k) := by
    rintro k hk (rfl | hb)
    · exact n1 hk
    · exact Own.ne_type h.rows h.ofs (by decide) k hk hb
  have m3 : ∀ f ∈ E, ∀ k, f.at_ k → ¬ (k = bb ∨ vo.ownBlock = some k) := by
    rintro f hf k hk (rfl | hb)
    · exact n3 f hf hk
    · exact Own.ne_type h.ofs (h.ent f hf) (by decide) k hb hk
  have h4 := (hU4.block bb (lt_of_block hh) n2).trans hh
  have n5 : v'.ownBlock ≠ some bb := hr.not_at h4 (by decide)
  refine ⟨⟨cur.setIfInBounds 1 v', set_blk v' h4, hk.s1 v'⟩, h.bbge, h.rows.upd hU m2, ?_, fun f hf => (h.ent f hf).upd hU (m3 f hf), h.ee, h.uq, ?_, h.en⟩
  · rw [List.length_append, List.map_append]
    exact hr.setCell_other n5 v'
  · intro k hp
    obtain ⟨p1, p2, p3, p4, p5⟩ := h.pr k hp
    refine ⟨Nat.lt_of_lt_of_le p1 hU.size, p2, p3, ?_, p5⟩
    rcases hv with hv | hv
    · rw [hv]; exact p4
    · rw [hv]; intro hh; injection hh with hh; omega
end
set_option maxRecDepth 100000 in
theorem tight_yes (w : World) (bb us n : Nat) (hc : w.cell? ⟨bb, 74, none⟩ = some (.int .i64 us)) (h1 : us ≤ 16777216) (hn : n ≤ 10000000000000) (h : 16777216 < us + n) :
    Calls Tryz.prog 45 #[.pointer (some ⟨bb, 0, none⟩), .int .i64 n] w fun r w' => r = .returned (.bool true) ∧ w = w' := by
  have t : decide ((16777216 : Int) < (us : Int) + (n : Int)) = true := decide_eq_true (by omega)
  have t' : decide (16777216 < us + n) = true := decide_eq_true h
  go_enter Tryz.func45, Tryz.ntmps45
  go_wp2
  go_ret
  exact ⟨rfl, rfl⟩
set_option maxRecDepth 100000 in
theorem tight_no (w : World) (bb us n : Nat) (hc : w.cell? ⟨bb, 74, none⟩ = some (.int .i64 us)) (hf : w.frozen? ⟨bb, 74, none⟩ = false) (h1 : us ≤ 16777216) (hn : n ≤ 10000000000000) (h : ¬ 16777216 < us + n) :
    Calls Tryz.prog 45 #[.pointer (some ⟨bb, 0, none⟩), .int .i64 n] w fun r w' => r = .returned (.bool false) ∧ w.setCell ⟨bb, 74, none⟩ (.int .i64 ((us + n : Nat) : Int)) = w' := by
  have t : decide ((16777216 : Int) < (us : Int) + (n : Int)) = false := decide_eq_false (by omega)
  have t' : decide (16777216 < us + n) = false := decide_eq_false h
  go_enter Tryz.func45, Tryz.ntmps45
  go_wp2
  go_ret
  exact ⟨rfl, rfl⟩
/-- So many lists, so much kept. -/
def Cnt (n bat us : Nat) : Prop := bat ≤ n ∧ 120 * bat + 1200 * (n - bat) ≤ us ∧ us ≤ 16777216
/-- What becomes of a book that takes a list at a. -/
def BytesP (w w' : World) (base : Nat) (Pr : Nat → Prop) (bb : Nat) (E : List Ent) (vb vo : Value) (bat : Nat) (dn : Int) (v : Value) : Prop :=
  ∃ (E' : List Ent) (vb' vo' : Value) (tn' : Int) (us' : Nat), Bk w' base Pr bb E' E' bat E'.length vb' vo' bat tn' dn us' ∧ Cnt E'.length bat us' ∧
    (∀ k, BkF bb vb' vo' E' k → BkF bb vb vo E k ∨ w.heap.size ≤ k ∨ v.ownBlock = some k) ∧ (∀ e ∈ E', e ∈ E ∨ e.val = v) ∧ Upd (fun k => k = bb ∨ vb.ownBlock = some k ∨ vo.ownBlock = some k ∨ v.ownBlock = some k) w w'
set_option maxRecDepth 100000 in
set_option maxHeartbeats 2000000 in
theorem BkBytes_calls (w : World) (base : Nat) (Pr : Nat → Prop) (bb : Nat) (E : List Ent) (vb vo : Value) (bat : Nat) (tn dn : Int) (us : Nat) (h : Bk w base Pr bb E E bat E.length vb vo bat tn dn us) (hc : Cnt E.length bat us)
    (a : Option Addr) (n c : Nat) (x : List UInt8) (ho : Own w base 5 1 (.slice a n c) n (bys x)) (hn : n ≤ 1000000000000) (hd : ∀ k, (Value.slice a n c).ownBlock = some k → ¬ Pr k ∧ ∀ e ∈ E, ¬ e.at_ k) :
    Calls Tryz.prog 29 #[.pointer (some ⟨bb, 0, none⟩), .slice a n c] w fun r w' => r = .returned (.tuple #[]) ∧ BytesP w w' base Pr bb E vb vo bat dn (.slice a n c) := by
  have hx : x.length = n := by have := ho.1; rw [bys_length, Nat.mul_one] at this; exact this
  have c72 := h.k72
  have f72 := h.froz 72
  obtain ⟨tn1, htn⟩ : ∃ q, wrap64 (tn + 1) = q := ⟨_, rfl⟩
  have H1 := Lib.hid (h.put 72 (.int .i64 tn1) (fun cur hk => hk.s72 tn1))
  obtain ⟨cur, hh, _⟩ := h.blk
  have abb : (Value.slice a n c).ownBlock ≠ some bb := ho.not_at hh (by decide)
  have U1 : Hid (Upd (fun k => k = bb) w (w.setCell ⟨bb, 72, none⟩ (.int .i64 tn1))) := (Upd.refl (fun k => k = bb) w).setCell (p := ⟨bb, 72, none⟩) (fun _ => rfl) _
  have O1 := Lib.hid (ho.upd U1.out (fun k hk e => abb (by rw [hk, e])))
  have D0 := Lib.hid hd
  have CN := Lib.hid hc
  have HX := Lib.hid hx
  have ABB := Lib.hid abb
  have H0 := Lib.hid h
  clear h hh ho hd hc abb hx
  go_enter Tryz.func29, Tryz.ntmps29
  go_wp2
  generalize w.setCell ⟨bb, 72, none⟩ (.int .i64 tn1) = w1 at *
  clear c72 f72 htn
  go_loopw [5] (fun vi wr => ∃ i : Nat, vi = .int .i64 i ∧ i ≤ n ∧ Own wr base 5 1 (.slice a n c) n (bys (mks tn1 i ++ x.drop i)) ∧ Bk wr base Pr bb E E bat E.length vb vo bat tn1 dn us ∧ Upd (fun k => (Value.slice a n c).ownBlock = some k) w1 wr) (fun vi _ => n - (intOf vi).toNat)
  case atStart => exact ⟨0, rfl, by omega, by simpa [mks] using O1.out, H1.out, Upd.refl _ _⟩
  case round =>
    obtain ⟨i, rfl, hi, ho, hb, hu⟩ := hrel
    have OW := Lib.hid ho; have HB := Lib.hid hb; have UW := Lib.hid hu; clear ho hb hu
    by_cases hlt : i < n
    · have t1 : decide ((i : Int) < (n : Int)) = true := decide_eq_true (by omega)
      have t1' : decide (i < n) = true := decide_eq_true hlt
      obtain ⟨g, cc, hv⟩ := OW.out.shape (by omega)
      cases hv
      have q2 := OW.out.frozenAt i (by omega)
      have hlen : (mks tn1 i ++ x.drop i).length = n := by have := HX.out; rw [List.length_append, mks_length, List.length_drop]; omega
      obtain ⟨yi, q3⟩ : ∃ y : Int, wr.cell? ⟨g, i, none⟩ = some (.int .u8 y) := ⟨_, (OW.out.cellAt i (by omega)).trans (bys_get (show i < (mks tn1 i ++ x.drop i).length by omega))⟩
      have HS : Hid ((mks tn1 i ++ x.drop i).set i (atB tn1 i) = mks tn1 (i + 1) ++ x.drop (i + 1)) := by
        show _ = _
        have e : x.drop i = x[i]'(by have := HX.out; omega) :: x.drop (i + 1) := List.drop_eq_getElem_cons _
        rw [List.set_append_right _ _ (by rw [mks_length]; omega), mks_length, Nat.sub_self, e, List.set_cons_zero, mks_succ, List.append_assoc, List.singleton_append]
      have OS := Lib.hid (OW.out.set i (.int .u8 ((atB tn1 i).toNat : Int)))
      rw [bys_set, HS.out] at OS
      have US := Lib.hid (UW.out.setCell (p := ⟨g, i, none⟩) (fun _ => rfl) (.int .u8 ((atB tn1 i).toNat : Int)))
      have HS2 := Lib.hid (HB.out.upd ((Upd.refl (fun k => k = g) wr).setCell (p := ⟨g, i, none⟩) (fun _ => rfl) (.int .u8 ((atB tn1 i).toNat : Int))) (by
        rintro k rfl hf
        have d := D0.out k rfl
        obtain ⟨cur, hh, _⟩ := HB.out.blk
        rcases hf with rfl | hf | hf | ⟨e, he, hf⟩
        · exact ABB.out rfl
        · exact Own.ne_type HB.out.rows OW.out (by decide) _ hf rfl
        · exact Own.ne_type HB.out.ofs OW.out (by decide) _ hf rfl
        · exact d.2 e he hf))
      have AT := Lib.hid (fun w => at_calls tn1 i w (by omega))
      clear HS hlen
      go_wp2_with fail
      refine (AT.out _).mono ?_
      rintro r wx ⟨rfl, rfl⟩
      clear AT
      generalize (atB tn1 i).toNat = z at *
      go_wp2
      go_roundw
      case rel => exact ⟨i + 1, by go_num, by omega, OS.out, HS2.out, US.out⟩
      case measure => simp [intOf]; omega
    · have t1 : decide ((i : Int) < (n : Int)) = false := decide_eq_false (by omega)
      have t1' : decide (i < n) = false := decide_eq_false hlt
      have ho := OW.out
      have hil : i = n := by omega
      rw [hil, List.drop_of_length_le (by rw [HX.out]; exact Nat.le_refl _), List.append_nil] at ho
      have O2 := Lib.hid ho
      clear ho hil
      have us1 := CN.out.2.2
      have k74 := HB.out.k74
      have f74 := HB.out.froz 74
      have UT := Lib.hid (show Upd (fun k => k = bb ∨ vb.ownBlock = some k ∨ vo.ownBlock = some k ∨ (Value.slice a n c).ownBlock = some k) w wr from U1.out.trans UW.out (fun k h _ => .inl h) (fun k h _ => .inr (.inr (.inr h))))
      by_cases ht : 16777216 < us + (1200 + 3 * n)
      · have TY := Lib.hid (tight_yes wr bb us (1200 + 3 * n) k74 us1 (by omega) ht)
        clear k74 f74 us1
        go_wp2_with fail
        refine TY.out.mono ?_
        rintro r wx ⟨rfl, rfl⟩
        clear TY
        go_wp2
        ((try simp only [Exit.inBlock, Exit.then]); refine bodyPost_ret (results_none rfl _ _ _) rfl ?_)
        exact ⟨rfl, E, vb, vo, tn1, us, HB.out, CN.out, fun k hk => .inl hk, fun e he => .inl he, UT.out⟩
      · have TY := Lib.hid (tight_no wr bb us (1200 + 3 * n) k74 f74 us1 (by omega) ht)
        have hn2 : n ≤ 16777216 := by omega
        clear k74 f74 us1
        go_wp2_with fail
        refine TY.out.mono ?_
        rintro r wx ⟨rfl, rfl⟩
        clear TY
        have H3 := Lib.hid (HB.out.put 74 (.int .i64 ((us + (1200 + 3 * n) : Nat) : Int)) (fun cur hk => hk.s74 _))
        have O3 : Hid (Own (wr.setCell ⟨bb, 74, none⟩ (.int .i64 ((us + (1200 + 3 * n) : Nat) : Int))) base 5 1 (.slice a n c) n (bys (mks tn1 n))) := O2.out.setCell_other ABB.out _
        have U3 := Lib.hid (UT.out.setCell (p := ⟨bb, 74, none⟩) (fun _ => .inl rfl) (.int .i64 ((us + (1200 + 3 * n) : Nat) : Int)))
        generalize wr.setCell ⟨bb, 74, none⟩ (.int .i64 ((us + (1200 + 3 * n) : Nat) : Int)) = w3 at *
        have c0 := H3.out.k0
        have f0 := H3.out.froz 0
        have el : E.length ≤ 139810 := by obtain ⟨p, q, r⟩ := CN.out; omega
        have M1 : Hid (E.length + 1 ≤ maxLen) := by show _ ≤ _; unfold maxLen; omega
        have M2 : Hid ((E.length + 1) * 24 ≤ 140737488355328) := by show _ ≤ _; omega
        have M3 : Hid ((E.length + 1) * 8 ≤ 140737488355328) := by show _ ≤ _; omega
        have B3 : Hid (base ≤ (w3.alloc (.cells #[.slice a n c] 23)).heap.size) := by show _ ≤ _; have := H3.out.bbge; have := H3.out.bblt; simp; omega
        go_wp2_with (at_builtin; refine wpList_append2 rfl (.tmp 39) (.tmp 41) 32 32 rfl base 23 (.slice none 0 0) 1 24 Tryz.underlying32 infoRow rfl (n := E.length) (xs := E.map Ent.val) (H3.out.rows.alloc _) rfl (xv := .slice (some ⟨w3.heap.size, 0, none⟩) 1 1) (m := 1) (news := [.slice a n c]) (Src_new Tryz.underlying32 (e := 23) (heap_alloc_new w3 _) rfl) rfl M1.out M2.out B3.out ?_)
        intro v4 w4 ho4 hg4 hv4 _
        obtain ⟨g4, d4, rfl⟩ := ho4.shape (by omega)
        have P4 := Lib.hid (H3.out.push1 ⟨a, n, c, tn1⟩ (show Own w3 base 5 1 (.slice a n c) n (bys (mks tn1 n)) from O3.out) (show n ≤ 16777312 by omega) (fun f hf k ha hb => absurd hb ((D0.out k ha).2 f hf)) (fun k ha => (D0.out k ha).1) (hi' := E.length + 1) (fun i _ _ f hf k hb ha => (D0.out k ha).2 f (List.mem_of_getElem? hf) hb) (.inr ⟨rfl, rfl, (show n ≤ 16777216 from hn2), fun f hf k ha => (D0.out k ha).2 f hf⟩) ho4 hg4 hv4)
        have U4 := Lib.hid (show Upd (fun k => vb.ownBlock = some k) w3 w4 from ((Upd.refl (fun k => vb.ownBlock = some k) w3).alloc _).grown hg4 (fun _ h _ => h))
        have c4 : w4.cell? ⟨bb, 0, none⟩ = some vb := U4.out.cell' c0 H3.out.vb_ne
        have f4 : w4.frozen? ⟨bb, 0, none⟩ = false := by have h := P4.out.froz 0; rwa [frozen_same] at h
        have U5 := Lib.hid (show Upd (fun k => k = bb ∨ vb.ownBlock = some k) w3 (w4.setCell ⟨bb, 0, none⟩ (.slice (some ⟨g4, 0, none⟩) (E.length + 1) d4)) from push_upd hg4)
        have V4 := Lib.hid hv4
        have k4 : w4.cell? ⟨bb, 1, none⟩ = some vo := U4.out.cell' H3.out.k1 H3.out.vb_ne
        have k1 := P4.out.k1
        have f1 := P4.out.froz 1
        have HS5 : Hid ((w4.setCell ⟨bb, 0, none⟩ (.slice (some ⟨g4, 0, none⟩) (E.length + 1) d4)).heap.size = w4.heap.size) := by show _ = _; simp [World.setCell]
        have B5 : Hid (base ≤ ((w4.setCell ⟨bb, 0, none⟩ (.slice (some ⟨g4, 0, none⟩) (E.length + 1) d4)).alloc (.cells #[.int .i64 tn1] 3)).heap.size) := by show _ ≤ _; have h1 := P4.out.bbge; have h2 := P4.out.bblt; rw [World.size_alloc]; omega
        have S5 : Hid (Src Tryz.prog 1 33 (.slice (some ⟨w4.heap.size, 0, none⟩) 1 1) 1 [.int .i64 tn1] ((w4.setCell ⟨bb, 0, none⟩ (.slice (some ⟨g4, 0, none⟩) (E.length + 1) d4)).alloc (.cells #[.int .i64 tn1] 3))) := by
          have h := heap_alloc_new (w4.setCell ⟨bb, 0, none⟩ (.slice (some ⟨g4, 0, none⟩) (E.length + 1) d4)) (.cells #[.int .i64 tn1] 3)
          rw [HS5.out] at h
          exact Src_new Tryz.underlying33 (e := 3) h rfl
        clear ho4 hg4 hv4 c0 f0 k1 f1
        go_wp2_with (at_builtin; refine wpList_append2 rfl (.tmp 49) (.tmp 51) 33 33 rfl base 3 (.int .i64 0) 1 8 Tryz.underlying33 infoInt rfl (n := E.length) (xs := E.map Ent.mval) (P4.out.ofs.alloc _) rfl (xv := .slice (some ⟨w4.heap.size, 0, none⟩) 1 1) (m := 1) (news := [.int .i64 tn1]) S5.out rfl M1.out M3.out B5.out ?_)
        intro v6 w6 ho6 hg6 hv6 _
        obtain ⟨g6, d6, rfl⟩ := ho6.shape (by omega)
        rw [← HS5.out] at hv6
        have k1 := P4.out.k1
        have f1 := P4.out.froz 1
        generalize (w4.setCell ⟨bb, 0, none⟩ (.slice (some ⟨g4, 0, none⟩) (E.length + 1) d4)) = w5 at *
        clear c4 f4 U4 k4
        have P6 := Lib.hid (P4.out.push2 ⟨a, n, c, tn1⟩ ho6 hg6 hv6)
        have U6 := Lib.hid (show Upd (fun k => vo.ownBlock = some k) w5 w6 from ((Upd.refl (fun k => vo.ownBlock = some k) w5).alloc _).grown hg6 (fun _ h _ => h))
        have c6 : w6.cell? ⟨bb, 1, none⟩ = some vo := U6.out.cell' k1 P4.out.vo_ne
        have f6 : w6.frozen? ⟨bb, 1, none⟩ = false := by have h := P6.out.froz 1; rwa [frozen_same] at h
        have U7 := Lib.hid (show Upd (fun k => k = bb ∨ vo.ownBlock = some k) w5 (w6.setCell ⟨bb, 1, none⟩ (.slice (some ⟨g6, 0, none⟩) (E.length + 1) d6)) from push_upd hg6)
        have V6 := Lib.hid hv6
        clear ho6 hg6 hv6 k1 f1
        go_wp2
        go_end0
        generalize w6.setCell ⟨bb, 1, none⟩ (.slice (some ⟨g6, 0, none⟩) (E.length + 1) d6) = w7 at *
        have s3 := U3.out.size
        have s5 := U5.out.size
        refine ⟨rfl, E ++ [⟨a, n, c, tn1⟩], _, _, tn1, us + (1200 + 3 * n), by rw [List.length_append]; exact P6.out, ?_, ?_, ?_, ?_⟩
        · obtain ⟨p, q, r⟩ := CN.out
          rw [List.length_append]
          exact ⟨by simp; omega, by simp; omega, by omega⟩
        · rintro k (rfl | hk | hk | ⟨e, he, hk⟩)
          · exact .inl (.inl rfl)
          · rcases V4.out with h | h
            · exact .inl (.inr (.inl (by rw [← h]; exact hk)))
            · rw [h] at hk; injection hk with hk; exact .inr (.inl (by omega))
          · rcases V6.out with h | h
            · exact .inl (.inr (.inr (.inl (by rw [← h]; exact hk))))
            · rw [h] at hk; injection hk with hk; exact .inr (.inl (by omega))
          · rcases List.mem_append.1 he with he | he
            · exact .inl (.inr (.inr (.inr ⟨e, he, hk⟩)))
            · rw [List.mem_singleton.1 he] at hk; exact .inr (.inr hk)
        · intro e he
          rcases List.mem_append.1 he with he | he
          · exact .inl he
          · rw [List.mem_singleton.1 he]; exact .inr rfl
        · refine (U3.out.trans U5.out (fun k h _ => h) (fun k h _ => ?_)).trans U7.out (fun k h _ => h) (fun k h _ => ?_)
          · rcases h with h | h
            · exact .inl h
            · exact .inr (.inl h)
          · rcases h with h | h
            · exact .inl h
            · exact .inr (.inr (.inl h))
end Go.Proofs.YtjiciklnhcmfaaaGreatDoor
