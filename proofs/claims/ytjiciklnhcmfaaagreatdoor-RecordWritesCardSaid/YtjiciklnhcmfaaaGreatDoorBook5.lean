/- posternlaw1.Book.growBytes: its walk. -/
import Derived.Test.YtjiciklnhcmfaaaGreatDoorBook4
namespace Go.Proofs.YtjiciklnhcmfaaaGreatDoor
set_option linter.unusedVariables false
set_option linter.unusedSimpArgs false
open Go.RowKit
/-- What becomes of a book whose lists grow. -/
def GrowP (w w' : World) (base : Nat) (Pr : Nat → Prop) (bb : Nat) (E : List Ent) (vb vo : Value) (tn dn : Int) (us : Nat) : Prop :=
  ∃ (E' : List Ent) (vb' vo' : Value), Bk w' base Pr bb E' E' E'.length E'.length vb' vo' E'.length tn dn us ∧ Cnt E'.length E'.length us ∧ (∀ k, BkF bb vb' vo' E' k → BkF bb vb vo E k ∨ w.heap.size ≤ k) ∧ Upd (BkF bb vb vo E) w w'
set_option maxRecDepth 100000 in
set_option maxHeartbeats 4000000 in
theorem growBytes_calls (w : World) (base : Nat) (Pr : Nat → Prop) (bb : Nat) (E : List Ent) (vb vo : Value) (bat : Nat) (tn dn : Int) (us : Nat) (h : Bk w base Pr bb E E bat E.length vb vo bat tn dn us) (hc : Cnt E.length bat us) :
    Calls Tryz.prog 53 #[.pointer (some ⟨bb, 0, none⟩)] w fun r w' => r = .returned (.tuple #[]) ∧ GrowP w w' base Pr bb E vb vo tn dn us := by
  have c0 := h.k0
  have c2 := h.k2
  obtain ⟨av, cv, hvb, _, _, _⟩ := h.rows.shape'
  subst hvb
  obtain ⟨n1, n2, n3⟩ := hc
  have H := Lib.hid h; clear h
  have hF : Hid (∀ k, BkF bb (.slice av E.length cv) vo E k → BkF bb (.slice av E.length cv) vo E k ∨ w.heap.size ≤ k) := fun k hk => .inl hk
  have hle : E.length ≤ 139810 := by omega
  have hle2 : E.length - bat ≤ 13981 := by omega
  go_enter Tryz.func53, Tryz.ntmps53
  go_wp2
  clear c0 c2
  go_loopw [3] (fun vk wr => ∃ (k : Nat) (E1 : List Ent) (vb1 vo1 : Value), vk = .int .i64 k ∧ bat ≤ k ∧ k ≤ E.length ∧ (∃ P1, E1 = E ++ P1 ∧ P1.length = 9 * (k - bat)) ∧ Bk wr base Pr bb E1 E1 k E.length vb1 vo1 bat tn dn us ∧
      (∀ j, BkF bb vb1 vo1 E1 j → BkF bb (.slice av E.length cv) vo E j ∨ w.heap.size ≤ j) ∧ Upd (BkF bb (.slice av E.length cv) vo E) w wr) (fun vk _ => E.length - (intOf vk).toNat)
  case atStart => exact ⟨bat, E, _, vo, rfl, Nat.le_refl _, n1, ⟨[], by simp, by simp⟩, H.out, hF.out, Upd.refl _ _⟩
  case round =>
    obtain ⟨k, E1, vb1, vo1, rfl, hk1, hk2, hx, hb, hft, hup⟩ := hrel
    have HX := Lib.hid hx; have HB := Lib.hid hb; have HFT := Lib.hid hft; have HU := Lib.hid hup
    clear hx hb hft hup
    have l1 : E1.length = E.length + 9 * (k - bat) := by obtain ⟨P1, hP, hl⟩ := HX.out; rw [hP, List.length_append, hl]
    have LL := Lib.hid l1
    by_cases hlt : k < E.length
    · have t1 : decide ((k : Int) < (E.length : Int)) = true := decide_eq_true (by omega)
      have t1' : decide (k < E.length) = true := decide_eq_true hlt
      have hk3 : k < E1.length := by omega
      obtain ⟨e, he⟩ : ∃ e, E1[k]? = some e := ⟨_, List.getElem?_eq_getElem hk3⟩
      have hn := (HB.out.en k e he).2 (Nat.le_refl _) hlt
      have GS0 := Lib.hid (GS.start HX.out HB.out HFT.out HU.out hlt he)
      have c0 := HB.out.k0
      have c1 := HB.out.k1
      obtain ⟨g1, d1, hv1⟩ := HB.out.rows.shape (by omega)
      obtain ⟨g2, d2, hv2⟩ := HB.out.ofs.shape (by omega)
      have q1 : wr.cell? ⟨g1, k, none⟩ = some (.slice e.a e.n e.c) := by
        have h := HB.out.rows
        rw [hv1] at h
        rw [h.cellAt k (by omega)]
        simp [he, Ent.val]
      have q2 : wr.cell? ⟨g2, k, none⟩ = some (.int .i64 e.m) := by
        have h := HB.out.ofs
        rw [hv2] at h
        rw [h.cellAt k (by omega)]
        simp [he, Ent.mval]
      rw [hv1] at c0
      rw [hv2] at c1
      have i1 : k < E1.length := hk3
      unfold Ent.val at GS0
      have E1le : E1.length ≤ 300000 := by omega
      clear l1 hv1 hv2 he
      generalize e.a = ea at *
      generalize e.n = en0 at *
      generalize e.c = ec at *
      generalize e.m = em at *
      go_wp2
      clear c0 c1 q1 q2
      go_loopw [4, 6] (fun vg vi wr => ∃ (j : Nat) (E1 : List Ent) (vb1 vo1 : Value) (ga : Option Addr) (gc : Nat), vi = .int .i64 ((j + 1 : Nat) : Int) ∧ j ≤ 96 ∧ vg = .slice ga (en0 + j) gc ∧
          GS w wr base Pr bb E E.length (.slice av E.length cv) vo (k + 1) em (.slice ga (en0 + j) gc) (en0 + j) (9 * (k - bat) + cnt j) E1 vb1 vo1 bat tn dn us) (fun _ vi _ => 97 - (intOf vi).toNat)
      case atStart => exact ⟨0, E1, vb1, vo1, ea, ec, rfl, by omega, rfl, GS0.out⟩
      case round =>
        clear GS0 HX HB HFT HU LL i1 hk3 E1le
        obtain ⟨j, E1, vb1, vo1, ga, gc, rfl, hj, rfl, hgs⟩ := hrel
        have GW := Lib.hid hgs; clear hgs
        have l1 : E1.length = E.length + (9 * (k - bat) + cnt j) := by obtain ⟨P1, hP, hl⟩ := GW.out.ext; rw [hP, List.length_append, hl]
        have cle := cnt_le j hj
        have E1le : E1.length ≤ 300000 := by omega
        have L1 : Hid (E.length ≤ E1.length) := by show _ ≤ _; omega
        have M1 : Hid (E1.length + 1 ≤ maxLen) := by show _ ≤ _; unfold maxLen; omega
        have M2 : Hid ((E1.length + 1) * 24 ≤ 140737488355328) := by show _ ≤ _; omega
        have M3 : Hid ((E1.length + 1) * 8 ≤ 140737488355328) := by show _ ≤ _; omega
        have LL := Lib.hid l1
        clear l1 cle
        by_cases hj2 : j < 96
        · have t2 : decide (((j + 1 : Nat) : Int) ≤ 96) = true := decide_eq_true (by omega)
          have t2' : decide ((j : Int) + 1 ≤ 96) = true := decide_eq_true (by omega)
          have AT : Calls Tryz.prog 44 #[.int .i64 em, .int .i64 ((en0 : Int) + (j : Int))] wr fun r w' => r = .returned (.int .u8 ((atB em (en0 + j)).toNat : Int)) ∧ wr = w' := by
            have h := at_calls em (en0 + j) wr (by omega)
            push_cast at h
            exact h
          have ATH := Lib.hid AT; clear AT
          go_wp2_with fail
          refine ATH.out.mono ?_
          rintro r wx ⟨rfl, rfl⟩
          clear ATH
          obtain ⟨z, hz⟩ : ∃ z, (atB em (en0 + j)).toNat = z := ⟨_, rfl⟩
          have HZ := Lib.hid hz
          rw [hz]
          clear hz
          have N1 : Hid (en0 + j + 1 ≤ maxLen) := by show _ ≤ _; unfold maxLen; omega
          have N2 : Hid ((en0 + j + 1) * 1 ≤ 140737488355328) := by show _ ≤ _; omega
          have BA : Hid (base ≤ (wr.alloc (.cells #[.int .u8 (z : Int)] 5)).heap.size) := by show base ≤ _; have h1 := GW.out.bk.bbge; have h2 := GW.out.bk.bblt; rw [World.size_alloc]; omega
          go_wp2_with (at_builtin; refine wpList_append2 rfl (.tmp 39) (.tmp 44) 23 23 rfl base 5 (.int .u8 0) 1 1 Tryz.underlying23 infoByte rfl (n := en0 + j) (xs := bys (mks em (en0 + j))) (GW.out.own.alloc _) rfl (xv := .slice (some ⟨wr.heap.size, 0, none⟩) 1 1) (m := 1) (news := [.int .u8 (z : Int)]) (Src_new Tryz.underlying23 (e := 5) (heap_alloc_new wr _) rfl) rfl N1.out N2.out BA.out ?_)
          intro v4 w4 ho4 hg4 hv4 hp4
          obtain ⟨g4, d4, rfl⟩ := ho4.shape (by omega)
          rw [← HZ.out] at ho4
          have G4 := Lib.hid (GW.out.grow ho4 hg4 hv4 hp4)
          clear ho4 hg4 hv4 hp4 GW BA HZ
          by_cases c1 : j + 1 < 4
          · have t3 : decide (((j + 1 : Nat) : Int) < 4) = true := decide_eq_true (by omega)
            have t3' : decide ((j : Int) + 1 < 4) = true := decide_eq_true (by omega)
            have c0 := G4.out.bk.k0
            have f0 := G4.out.bk.froz 0
            have B4 : Hid (base ≤ (w4.alloc (.cells #[.slice (some ⟨g4, 0, none⟩) (en0 + j + 1) d4] 23)).heap.size) := by show base ≤ _; have h1 := G4.out.bk.bbge; have h2 := G4.out.bk.bblt; rw [World.size_alloc]; omega
            go_wp2_with (at_builtin; refine wpList_append2 rfl (.tmp 57) (.tmp 59) 32 32 rfl base 23 (.slice none 0 0) 1 24 Tryz.underlying32 infoRow rfl (n := E1.length) (xs := E1.map Ent.val) (G4.out.bk.rows.alloc _) rfl (xv := .slice (some ⟨w4.heap.size, 0, none⟩) 1 1) (m := 1) (news := [.slice (some ⟨g4, 0, none⟩) (en0 + j + 1) d4]) (Src_new Tryz.underlying32 (e := 23) (heap_alloc_new w4 _) rfl) rfl M1.out M2.out B4.out ?_)
            intro v5 w5 ho5 hg5 hv5 _
            obtain ⟨g5, d5, rfl⟩ := ho5.shape (by omega)
            have U5 := Lib.hid (show Upd (fun b => vb1.ownBlock = some b) w4 w5 from ((Upd.refl (fun b => vb1.ownBlock = some b) w4).alloc _).grown hg5 (fun _ h _ => h))
            have c5 : w5.cell? ⟨bb, 0, none⟩ = some vb1 := U5.out.cell' c0 G4.out.bk.vb_ne
            have hz : Hid (∀ q, w5.frozen? ⟨bb, q, none⟩ = false) := fun q => (U5.out.frozen (p := ⟨bb, q, none⟩) G4.out.bk.bblt G4.out.bk.vb_ne).trans (G4.out.bk.froz q)
            have f5 := hz.out 0
            have k5 : w5.cell? ⟨bb, 1, none⟩ = some vo1 := U5.out.cell' G4.out.bk.k1 G4.out.bk.vb_ne
            have X5 := Lib.hid (show Upd (fun b => b = bb ∨ vb1.ownBlock = some b) w4 (w5.setCell ⟨bb, 0, none⟩ (.slice (some ⟨g5, 0, none⟩) (E1.length + 1) d5)) from push_upd hg5)
            have HS5 : Hid ((w5.setCell ⟨bb, 0, none⟩ (.slice (some ⟨g5, 0, none⟩) (E1.length + 1) d5)).heap.size = w5.heap.size) := by show _ = _; simp [World.setCell]
            have OF5 := Lib.hid (G4.out.bk.ofs.upd X5.out (fun b h => by
              rintro (s | s)
              · exact G4.out.bk.vo_ne (by rw [h, s])
              · exact Own.ne_type G4.out.bk.ofs G4.out.bk.rows (by decide) b h s))
            have B5 : Hid (base ≤ ((w5.setCell ⟨bb, 0, none⟩ (.slice (some ⟨g5, 0, none⟩) (E1.length + 1) d5)).alloc (.cells #[.int .i64 em] 3)).heap.size) := by show base ≤ _; have h1 := G4.out.bk.bbge; have h2 := G4.out.bk.bblt; have h3 := X5.out.size; rw [World.size_alloc]; omega
            have S5 : Hid (Src Tryz.prog 1 33 (.slice (some ⟨w5.heap.size, 0, none⟩) 1 1) 1 [.int .i64 em] ((w5.setCell ⟨bb, 0, none⟩ (.slice (some ⟨g5, 0, none⟩) (E1.length + 1) d5)).alloc (.cells #[.int .i64 em] 3))) := by
              have h := heap_alloc_new (w5.setCell ⟨bb, 0, none⟩ (.slice (some ⟨g5, 0, none⟩) (E1.length + 1) d5)) (.cells #[.int .i64 em] 3)
              rw [HS5.out] at h
              exact Src_new Tryz.underlying33 (e := 3) h rfl
            have O5 := Lib.hid ho5; have HG5 := Lib.hid hg5; have HV5 := Lib.hid hv5
            clear ho5 hg5 hv5 c0 f0
            go_wp2_with (at_builtin; refine wpList_append2 rfl (.tmp 67) (.tmp 69) 33 33 rfl base 3 (.int .i64 0) 1 8 Tryz.underlying33 infoInt rfl (n := E1.length) (xs := E1.map Ent.mval) (OF5.out.alloc _) rfl (xv := .slice (some ⟨w5.heap.size, 0, none⟩) 1 1) (m := 1) (news := [.int .i64 em]) S5.out rfl M1.out M3.out B5.out ?_)
            intro v6 w6 ho6 hg6 hv6 _
            obtain ⟨g6, d6, rfl⟩ := ho6.shape (by omega)
            rw [← HS5.out] at hv6
            have GP := Lib.hid (G4.out.push (by omega) L1.out O5.out HG5.out HV5.out ho6 hg6 hv6)
            have U6 := Lib.hid (show Upd (fun b => vo1.ownBlock = some b) (w5.setCell ⟨bb, 0, none⟩ (.slice (some ⟨g5, 0, none⟩) (E1.length + 1) d5)) w6 from ((Upd.refl (fun b => vo1.ownBlock = some b) (w5.setCell ⟨bb, 0, none⟩ (.slice (some ⟨g5, 0, none⟩) (E1.length + 1) d5))).alloc _).grown hg6 (fun _ h _ => h))
            have b5 : bb < (w5.setCell ⟨bb, 0, none⟩ (.slice (some ⟨g5, 0, none⟩) (E1.length + 1) d5)).heap.size := Nat.lt_of_lt_of_le G4.out.bk.bblt X5.out.size
            have c6 : w6.cell? ⟨bb, 1, none⟩ = some vo1 := U6.out.cell' ((cell_other _ (by decide)).trans k5) G4.out.bk.vo_ne
            have f6 : w6.frozen? ⟨bb, 1, none⟩ = false := (U6.out.frozen (p := ⟨bb, 1, none⟩) b5 G4.out.bk.vo_ne).trans ((frozen_same _ _ _ _).trans (hz.out 1))
            clear ho6 hg6 hv6 c5 f5 k5 b5
            go_wp2
            go_roundw
            case rel => exact ⟨j + 1, _, _, _, _, _, by go_num, by omega, rfl, by rw [cnt_yes j (.inl c1)]; exact GP.out⟩
            case measure => simp [intOf]; omega
          · have t3 : decide (((j + 1 : Nat) : Int) < 4) = false := decide_eq_false (by omega)
            have t3' : decide ((j : Int) + 1 < 4) = false := decide_eq_false (by omega)
            by_cases c2 : (j + 1) % 16 = 0
            · have t4 : ((((j + 1 : Nat) : Int) % 16) == 0) = true := by rw [beq_iff_eq]; omega
              have t4' : ((((j : Int) + 1) % 16) == 0) = true := by rw [beq_iff_eq]; omega
              have c0 := G4.out.bk.k0
              have f0 := G4.out.bk.froz 0
              have B4 : Hid (base ≤ (w4.alloc (.cells #[.slice (some ⟨g4, 0, none⟩) (en0 + j + 1) d4] 23)).heap.size) := by show base ≤ _; have h1 := G4.out.bk.bbge; have h2 := G4.out.bk.bblt; rw [World.size_alloc]; omega
              go_wp2_with (at_builtin; refine wpList_append2 rfl (.tmp 57) (.tmp 59) 32 32 rfl base 23 (.slice none 0 0) 1 24 Tryz.underlying32 infoRow rfl (n := E1.length) (xs := E1.map Ent.val) (G4.out.bk.rows.alloc _) rfl (xv := .slice (some ⟨w4.heap.size, 0, none⟩) 1 1) (m := 1) (news := [.slice (some ⟨g4, 0, none⟩) (en0 + j + 1) d4]) (Src_new Tryz.underlying32 (e := 23) (heap_alloc_new w4 _) rfl) rfl M1.out M2.out B4.out ?_)
              intro v5 w5 ho5 hg5 hv5 _
              obtain ⟨g5, d5, rfl⟩ := ho5.shape (by omega)
              have U5 := Lib.hid (show Upd (fun b => vb1.ownBlock = some b) w4 w5 from ((Upd.refl (fun b => vb1.ownBlock = some b) w4).alloc _).grown hg5 (fun _ h _ => h))
              have c5 : w5.cell? ⟨bb, 0, none⟩ = some vb1 := U5.out.cell' c0 G4.out.bk.vb_ne
              have hz : Hid (∀ q, w5.frozen? ⟨bb, q, none⟩ = false) := fun q => (U5.out.frozen (p := ⟨bb, q, none⟩) G4.out.bk.bblt G4.out.bk.vb_ne).trans (G4.out.bk.froz q)
              have f5 := hz.out 0
              have k5 : w5.cell? ⟨bb, 1, none⟩ = some vo1 := U5.out.cell' G4.out.bk.k1 G4.out.bk.vb_ne
              have X5 := Lib.hid (show Upd (fun b => b = bb ∨ vb1.ownBlock = some b) w4 (w5.setCell ⟨bb, 0, none⟩ (.slice (some ⟨g5, 0, none⟩) (E1.length + 1) d5)) from push_upd hg5)
              have HS5 : Hid ((w5.setCell ⟨bb, 0, none⟩ (.slice (some ⟨g5, 0, none⟩) (E1.length + 1) d5)).heap.size = w5.heap.size) := by show _ = _; simp [World.setCell]
              have OF5 := Lib.hid (G4.out.bk.ofs.upd X5.out (fun b h => by
                rintro (s | s)
                · exact G4.out.bk.vo_ne (by rw [h, s])
                · exact Own.ne_type G4.out.bk.ofs G4.out.bk.rows (by decide) b h s))
              have B5 : Hid (base ≤ ((w5.setCell ⟨bb, 0, none⟩ (.slice (some ⟨g5, 0, none⟩) (E1.length + 1) d5)).alloc (.cells #[.int .i64 em] 3)).heap.size) := by show base ≤ _; have h1 := G4.out.bk.bbge; have h2 := G4.out.bk.bblt; have h3 := X5.out.size; rw [World.size_alloc]; omega
              have S5 : Hid (Src Tryz.prog 1 33 (.slice (some ⟨w5.heap.size, 0, none⟩) 1 1) 1 [.int .i64 em] ((w5.setCell ⟨bb, 0, none⟩ (.slice (some ⟨g5, 0, none⟩) (E1.length + 1) d5)).alloc (.cells #[.int .i64 em] 3))) := by
                have h := heap_alloc_new (w5.setCell ⟨bb, 0, none⟩ (.slice (some ⟨g5, 0, none⟩) (E1.length + 1) d5)) (.cells #[.int .i64 em] 3)
                rw [HS5.out] at h
                exact Src_new Tryz.underlying33 (e := 3) h rfl
              have O5 := Lib.hid ho5; have HG5 := Lib.hid hg5; have HV5 := Lib.hid hv5
              clear ho5 hg5 hv5 c0 f0
              go_wp2_with (at_builtin; refine wpList_append2 rfl (.tmp 67) (.tmp 69) 33 33 rfl base 3 (.int .i64 0) 1 8 Tryz.underlying33 infoInt rfl (n := E1.length) (xs := E1.map Ent.mval) (OF5.out.alloc _) rfl (xv := .slice (some ⟨w5.heap.size, 0, none⟩) 1 1) (m := 1) (news := [.int .i64 em]) S5.out rfl M1.out M3.out B5.out ?_)
              intro v6 w6 ho6 hg6 hv6 _
              obtain ⟨g6, d6, rfl⟩ := ho6.shape (by omega)
              rw [← HS5.out] at hv6
              have GP := Lib.hid (G4.out.push (by omega) L1.out O5.out HG5.out HV5.out ho6 hg6 hv6)
              have U6 := Lib.hid (show Upd (fun b => vo1.ownBlock = some b) (w5.setCell ⟨bb, 0, none⟩ (.slice (some ⟨g5, 0, none⟩) (E1.length + 1) d5)) w6 from ((Upd.refl (fun b => vo1.ownBlock = some b) (w5.setCell ⟨bb, 0, none⟩ (.slice (some ⟨g5, 0, none⟩) (E1.length + 1) d5))).alloc _).grown hg6 (fun _ h _ => h))
              have b5 : bb < (w5.setCell ⟨bb, 0, none⟩ (.slice (some ⟨g5, 0, none⟩) (E1.length + 1) d5)).heap.size := Nat.lt_of_lt_of_le G4.out.bk.bblt X5.out.size
              have c6 : w6.cell? ⟨bb, 1, none⟩ = some vo1 := U6.out.cell' ((cell_other _ (by decide)).trans k5) G4.out.bk.vo_ne
              have f6 : w6.frozen? ⟨bb, 1, none⟩ = false := (U6.out.frozen (p := ⟨bb, 1, none⟩) b5 G4.out.bk.vo_ne).trans ((frozen_same _ _ _ _).trans (hz.out 1))
              clear ho6 hg6 hv6 c5 f5 k5 b5
              go_wp2
              go_roundw
              case rel => exact ⟨j + 1, _, _, _, _, _, by go_num, by omega, rfl, by rw [cnt_yes j (.inr c2)]; exact GP.out⟩
              case measure => simp [intOf]; omega
            · have t4 : ((((j + 1 : Nat) : Int) % 16) == 0) = false := by rw [beq_eq_false_iff_ne]; omega
              have t4' : ((((j : Int) + 1) % 16) == 0) = false := by rw [beq_eq_false_iff_ne]; omega
              go_wp2
              go_roundw
              case rel => exact ⟨j + 1, _, _, _, _, _, by go_num, by omega, rfl, by rw [cnt_no j (fun h => h.elim c1 c2)]; exact G4.out⟩
              case measure => simp [intOf]; omega
        · have t2 : decide (((j + 1 : Nat) : Int) ≤ 96) = false := decide_eq_false (by omega)
          have t2' : decide ((j : Int) + 1 ≤ 96) = false := decide_eq_false (by omega)
          obtain rfl : j = 96 := by omega
          have hx : ∃ P1, E1 = E ++ P1 ∧ P1.length = 9 * (k + 1 - bat) := by
            obtain ⟨P1, hP, hl⟩ := GW.out.ext
            exact ⟨P1, hP, by rw [hl, show cnt 96 = 9 from rfl]; omega⟩
          have HX2 := Lib.hid hx; clear hx
          go_wp2
          go_roundw
          case rel => exact ⟨k + 1, E1, vb1, vo1, by go_num, by omega, by omega, HX2.out, GW.out.bk, GW.out.ft, GW.out.up⟩
          case measure => simp [intOf]; omega
    · have t1 : decide ((k : Int) < (E.length : Int)) = false := decide_eq_false (by omega)
      have t1' : decide (k < E.length) = false := decide_eq_false hlt
      have c0 := HB.out.k0
      have c2 := HB.out.k2
      have f2 := HB.out.froz 2
      obtain ⟨a1, d1, hv1, _, _, _⟩ := HB.out.rows.shape'
      rw [hv1] at c0
      have HP := Lib.hid (HB.out.put 2 (.int .i64 E1.length) (fun cur hk => hk.s2 E1.length))
      have hC : Hid (Cnt E1.length E1.length us) := by show Cnt _ _ _; exact ⟨Nat.le_refl _, by omega, n3⟩
      have HU2 : Hid (Upd (BkF bb (.slice av E.length cv) vo E) w (wr.setCell ⟨bb, 2, none⟩ (.int .i64 E1.length))) := HU.out.setCell (p := ⟨bb, 2, none⟩) (fun _ => .inl rfl) _
      clear hv1 l1
      go_wp2
      go_end0
      refine ⟨rfl, E1, vb1, vo1, ?_, hC.out, HFT.out, HU2.out⟩
      have h := HP.out
      exact ⟨h.blk, h.bbge, h.rows, h.ofs, h.ent, h.ee, fun i j h1 h2 => absurd h2 (by omega), h.pr, fun i f hf => ⟨(h.en i f hf).1, fun a b => absurd b (by omega)⟩⟩
end Go.Proofs.YtjiciklnhcmfaaaGreatDoor
