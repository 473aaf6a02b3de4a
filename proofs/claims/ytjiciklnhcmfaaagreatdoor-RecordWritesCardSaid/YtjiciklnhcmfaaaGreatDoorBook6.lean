/- posternlaw1.Book.Look: all that is kept holds its marks, is appended to, and holds them still. -/
import Derived.Test.YtjiciklnhcmfaaaGreatDoorBook5
namespace Go.Proofs.YtjiciklnhcmfaaaGreatDoor
set_option linter.unusedVariables false
set_option linter.unusedSimpArgs false
open Go.RowKit
theorem NilB.drewN {w : World} {bb : Nat} (h : NilB w bb) (n : Nat) : NilB (w.drewN n) bb := ⟨h.cell, h.froz⟩
set_option maxRecDepth 100000 in
set_option maxHeartbeats 1000000 in
theorem holds_calls (w : World) (base : Nat) (Pr : Nat → Prop) (bb : Nat) (E : List Ent) (lo hi : Nat) (vb vo : Value) (bat : Nat) (tn dn : Int) (us : Nat) (h : Bk w base Pr bb E E lo hi vb vo bat tn dn us) (hl : E.length ≤ 1400000) :
    Calls Tryz.prog 30 #[.pointer (some ⟨bb, 0, none⟩)] w fun r w' => ∃ n, r = .returned (.bool true) ∧ w' = w.drewN n := by
  have HP := Lib.hid (plain_calls w base Pr bb E lo hi vb vo bat tn dn us h hl)
  have HN := Lib.hid h.nilB
  clear h
  go_enter Tryz.func30, Tryz.ntmps30
  go_wp2_with fail
  refine HP.out.mono ?_
  rintro r w1 ⟨n, rfl, rfl⟩
  have HM := Lib.hid (HN.out.drewN n)
  go_wp2_with fail
  refine (kept_calls bb _ HM.out).mono ?_
  rintro r w1 ⟨rfl, rfl⟩
  go_wp2_with fail
  refine (told_calls bb _ HM.out).mono ?_
  rintro r w1 ⟨rfl, rfl⟩
  go_wp2_with fail
  refine (held_calls bb _ HM.out).mono ?_
  rintro r w1 ⟨rfl, rfl⟩
  go_wp2_with fail
  refine (sent_calls bb _ HM.out).mono ?_
  rintro r w1 ⟨rfl, rfl⟩
  go_wp2_with fail
  refine (given_calls bb _ HM.out).mono ?_
  rintro r w1 ⟨rfl, rfl⟩
  go_wp2_with fail
  refine (seen_calls bb _ HM.out).mono ?_
  rintro r w1 ⟨rfl, rfl⟩
  go_wp2
  go_ret
  exact ⟨_, rfl, rfl⟩
set_option maxRecDepth 100000 in
set_option maxHeartbeats 1000000 in
theorem grow_calls (w : World) (base : Nat) (Pr : Nat → Prop) (bb : Nat) (E : List Ent) (vb vo : Value) (bat : Nat) (tn dn : Int) (us : Nat) (h : Bk w base Pr bb E E bat E.length vb vo bat tn dn us) (hc : Cnt E.length bat us) :
    Calls Tryz.prog 31 #[.pointer (some ⟨bb, 0, none⟩)] w fun r w' => r = .returned (.tuple #[]) ∧ GrowP w w' base Pr bb E vb vo tn tn us := by
  have HP := Lib.hid (growBytes_calls w base Pr bb E vb vo bat tn dn us h hc)
  clear h hc
  go_enter Tryz.func31, Tryz.ntmps31
  go_wp2_with fail
  refine HP.out.mono ?_
  rintro r w1 ⟨rfl, E', vb', vo', hb, hc, hf, hu⟩
  have HB := Lib.hid hb; have HC := Lib.hid hc; have HF := Lib.hid hf; have HU := Lib.hid hu
  have HN := Lib.hid hb.nilB
  clear hb hc hf hu HP
  go_wp2_with fail
  refine (growRows_calls bb _ HN.out).mono ?_
  rintro r w2 ⟨rfl, rfl⟩
  go_wp2_with fail
  refine (growTexts_calls bb _ HN.out).mono ?_
  rintro r w2 ⟨rfl, rfl⟩
  go_wp2_with fail
  refine (growInts_calls bb _ HN.out).mono ?_
  rintro r w2 ⟨rfl, rfl⟩
  go_wp2_with fail
  refine (growWords_calls bb _ HN.out).mono ?_
  rintro r w2 ⟨rfl, rfl⟩
  go_wp2_with fail
  refine (growIds_calls bb _ HN.out).mono ?_
  rintro r w2 ⟨rfl, rfl⟩
  go_wp2_with fail
  refine (growKeys_calls bb _ HN.out).mono ?_
  rintro r w2 ⟨rfl, rfl⟩
  go_wp2_with fail
  refine (growUsers_calls bb _ HN.out).mono ?_
  rintro r w2 ⟨rfl, rfl⟩
  go_wp2_with fail
  refine (growSessions_calls bb _ HN.out).mono ?_
  rintro r w2 ⟨rfl, rfl⟩
  go_wp2_with fail
  refine (growRefreshes_calls bb _ HN.out).mono ?_
  rintro r w2 ⟨rfl, rfl⟩
  go_wp2_with fail
  refine (growRevokeds_calls bb _ HN.out).mono ?_
  rintro r w2 ⟨rfl, rfl⟩
  go_wp2_with fail
  refine (growFields_calls bb _ HN.out).mono ?_
  rintro r w2 ⟨rfl, rfl⟩
  go_wp2_with fail
  refine (growFiles_calls bb _ HN.out).mono ?_
  rintro r w2 ⟨rfl, rfl⟩
  go_wp2_with fail
  refine (growPairs_calls bb _ HN.out).mono ?_
  rintro r w2 ⟨rfl, rfl⟩
  go_wp2_with fail
  refine (growChanges_calls bb _ HN.out).mono ?_
  rintro r w2 ⟨rfl, rfl⟩
  go_wp2_with fail
  refine (growValues_calls bb _ HN.out).mono ?_
  rintro r w2 ⟨rfl, rfl⟩
  go_wp2_with fail
  refine (growClients_calls bb _ HN.out).mono ?_
  rintro r w2 ⟨rfl, rfl⟩
  go_wp2_with fail
  refine (growConsents_calls bb _ HN.out).mono ?_
  rintro r w2 ⟨rfl, rfl⟩
  go_wp2_with fail
  refine (growCodes_calls bb _ HN.out).mono ?_
  rintro r w2 ⟨rfl, rfl⟩
  go_wp2_with fail
  refine (growGrants_calls bb _ HN.out).mono ?_
  rintro r w2 ⟨rfl, rfl⟩
  go_wp2_with fail
  refine (growClaims_calls bb _ HN.out).mono ?_
  rintro r w2 ⟨rfl, rfl⟩
  go_wp2_with fail
  refine (growRoutes_calls bb _ HN.out).mono ?_
  rintro r w2 ⟨rfl, rfl⟩
  go_wp2_with fail
  refine (growAnswers_calls bb _ HN.out).mono ?_
  rintro r w2 ⟨rfl, rfl⟩
  go_wp2_with fail
  refine (growHelds_calls bb _ HN.out).mono ?_
  rintro r w2 ⟨rfl, rfl⟩
  have c72 := HB.out.k72
  have c73 := HB.out.k73
  have f73 := HB.out.froz 73
  have HQ := Lib.hid (HB.out.put 73 (.int .i64 tn) (fun cur hk => hk.s73 tn))
  have HU2 : Hid (Upd (BkF bb vb vo E) w (w1.setCell ⟨bb, 73, none⟩ (.int .i64 tn))) := HU.out.setCell (p := ⟨bb, 73, none⟩) (fun _ => .inl rfl) _
  go_wp2
  go_end0
  exact ⟨rfl, E', vb', vo', HQ.out, HC.out, HF.out, HU2.out⟩
/-- What becomes of a book that is looked at. -/
def LookP (w w' : World) (base : Nat) (Pr : Nat → Prop) (bb : Nat) (E : List Ent) (vb vo : Value) (tn : Int) (us : Nat) : Prop :=
  ∃ (E' : List Ent) (vb' vo' : Value) (bat' : Nat) (dn' : Int), Bk w' base Pr bb E' E' bat' E'.length vb' vo' bat' tn dn' us ∧ Cnt E'.length bat' us ∧ (∀ k, BkF bb vb' vo' E' k → BkF bb vb vo E k ∨ w.heap.size ≤ k) ∧ Upd (BkF bb vb vo E) w w'
theorem Bk.drewN {w : World} {base : Nat} {Pr : Nat → Prop} {bb : Nat} {E E2 : List Ent} {lo hi : Nat} {vb vo : Value} {bat : Nat} {tn dn : Int} {us : Nat} (h : Bk w base Pr bb E E2 lo hi vb vo bat tn dn us) (n : Nat) : Bk (w.drewN n) base Pr bb E E2 lo hi vb vo bat tn dn us :=
  h.upd ((Upd.refl (fun _ => False) w).drewN n) (fun _ s => s.elim)
theorem Upd.undrewN {S : Nat → Prop} {w w' : World} {n : Nat} (h : Upd S (w.drewN n) w') : Upd S w w' := ⟨h.os, h.tape, h.output, h.size, h.block⟩
set_option maxRecDepth 100000 in
set_option maxHeartbeats 1000000 in
theorem Look_calls (w : World) (base : Nat) (Pr : Nat → Prop) (bb : Nat) (E : List Ent) (vb vo : Value) (bat : Nat) (tn dn : Int) (us : Nat) (h : Bk w base Pr bb E E bat E.length vb vo bat tn dn us) (hc : Cnt E.length bat us) :
    Calls Tryz.prog 7 #[.pointer (some ⟨bb, 0, none⟩)] w fun r w' => r = .returned (.bool true) ∧ LookP w w' base Pr bb E vb vo tn us := by
  have hl : E.length ≤ 1400000 := by obtain ⟨a, b, c⟩ := hc; omega
  have HP := Lib.hid (holds_calls w base Pr bb E _ _ vb vo bat tn dn us h hl)
  have c72 := h.k72
  have c73 := h.k73
  have H := Lib.hid h; have HC := Lib.hid hc
  clear h hc
  go_enter Tryz.func7, Tryz.ntmps7
  go_wp2_with fail
  refine HP.out.mono ?_
  rintro r w1 ⟨n, rfl, rfl⟩
  by_cases hd : dn = tn
  · have td : (dn == tn) = true := by rw [beq_iff_eq]; exact hd
    clear hd
    go_wp2_with fail
    go_quiet (fail)
    go_wp2
    go_ret
    exact ⟨rfl, E, vb, vo, bat, dn, (H.out.drewN _).drewN _, HC.out, fun k hk => .inl hk, ((Upd.refl _ w).drewN _).drewN _⟩
  · have td : (dn == tn) = false := by rw [beq_eq_false_iff_ne]; exact hd
    clear hd
    go_wp2_with fail
    go_quiet (fail)
    clear c72 c73 td
    go_wp2_with fail
    refine (grow_calls _ base Pr bb E vb vo bat tn dn us (by first | exact H.out.drewN _ | exact (H.out.drewN _).drewN _) HC.out).mono ?_
    rintro r w2 ⟨rfl, E', vb', vo', hb, hc, hf, hu⟩
    have HB := Lib.hid hb; have HC2 := Lib.hid hc
    have HF : Hid (∀ k, BkF bb vb' vo' E' k → BkF bb vb vo E k ∨ w.heap.size ≤ k) := hf
    have HU : Hid (Upd (BkF bb vb vo E) w w2) := ⟨hu.os, hu.tape, hu.output, hu.size, hu.block⟩
    have hl2 : E'.length ≤ 1400000 := by obtain ⟨a, b, c⟩ := hc; omega
    clear hb hc hf hu
    have HP2 := Lib.hid (holds_calls w2 base Pr bb E' _ _ vb' vo' _ tn tn us HB.out hl2)
    go_wp2_with fail
    refine HP2.out.mono ?_
    rintro r w3 ⟨n3, rfl, rfl⟩
    go_wp2
    go_ret
    exact ⟨rfl, E', vb', vo', _, tn, HB.out.drewN _, HC2.out, HF.out, HU.out.drewN _⟩
end Go.Proofs.YtjiciklnhcmfaaaGreatDoor
