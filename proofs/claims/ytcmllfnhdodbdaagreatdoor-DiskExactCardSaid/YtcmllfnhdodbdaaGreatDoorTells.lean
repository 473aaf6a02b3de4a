/- posternlaw9: sum, tells. -/
import Derived.Test.YtcmllfnhdodbdaaGreatDoorFiles
import Derived.Test.YtcmllfnhdodbdaaGreatDoorOps9
import Derived.Laws.Cover1
/- disk.Names. -/
namespace Go.Proofs.YtcmllfnhdodbdaaGreatDoor
set_option linter.unusedVariables false
set_option linter.unusedSimpArgs false
open Go.RowKit Go.Maps Go.MuLone
/-- What Names comes to. -/
def NamesQ (o : Bool) (w w' : World) (base db mb : Nat) (k : DkV) (L : List Fl) (D : DataW Value) (C : Con) (r : Ending) : Prop :=
  ∃ v l, r = .returned (.tuple #[v, .int .i64 (if o = true then 94 else 0)]) ∧ l = (if o = true then [] else nmsC C) ∧ Own w' w.heap.size 9 1 v l.length (strs l) ∧ Dsk w' base db mb 0 k L D ∧ Upd (fun i => i = db) w w'
set_option maxRecDepth 100000 in
set_option maxHeartbeats 4000000 in
theorem Names_calls (base db mb : Nat) (k : DkV) (L : List Fl) (D : DataW Value) (C : Con) (w : World) (h : Dsk w base db mb 0 k L D) (hr : Rep L C) (hL : C.length ≤ 64) :
    Calls Tryz.prog 39 #[.pointer (some ⟨db, 0, none⟩)] w fun r w' => NamesQ k.off w w' base db mb k L D C r := by
  have H := Lib.hid h
  have H1 := Lib.hid (h.lock 1)
  have U1 := Lib.hid (upd_lock (db := db) (Below.refl w.heap.size w) (.int .i32 1))
  have NC := Lib.hid (names_calls base db mb 1 k L D C _ (h.lock 1) hr hL)
  have z0 : (w.setCell ⟨db, 0, none⟩ (.int .i32 1)).heap.size = w.heap.size := by simp [World.setCell]
  have Z0 := Lib.hid z0
  have c7 := (h.lock 1).cell 7
  rw [show (dcells 1 k mb)[7]? = some (.bool k.off) from rfl] at c7
  have c7' : w.cell? ⟨db, 7, none⟩ = some (.bool k.off) := h.cell 7
  have DL := h.lt
  clear h hr z0 c7
  obtain ⟨o, ho⟩ : ∃ o, k.off = o := ⟨_, rfl⟩
  rw [ho] at c7'
  rw [show NamesQ k.off = NamesQ o by rw [ho]]
  clear ho
  cases o with
  | true =>
    go_enter_defers Tryz.func39, Tryz.ntmps39
    go_wp2_with fail
    refine (lock_free muLib ⟨db, 0, none⟩ _ (H.out.cell 0) (H.out.froz 0)).mono ?_
    rintro r w1 ⟨rfl, rfl⟩
    go_wp2
    refine leaves_cons (f := 30) (args := #[.pointer (some ⟨db, 0, none⟩)]) (by simp) (by simp [go_sem]) ?_
    refine (unlock_deferred muLib ⟨db, 0, none⟩ .returning _ (H1.out.cell 0) (H1.out.froz 0)).mono ?_
    rintro r u' w5 ⟨rfl, rfl, rfl⟩
    exact ⟨_, results_tmp2 rfl _ _ _, .slice none 0 0, [], rfl, rfl, Own.nil _ _ _ _, H1.out.lock 0, U1.out.setCell (fun _ => rfl) _⟩
  | false =>
    go_enter_defers Tryz.func39, Tryz.ntmps39
    go_wp2_with fail
    refine (lock_free muLib ⟨db, 0, none⟩ _ (H.out.cell 0) (H.out.froz 0)).mono ?_
    rintro r w1 ⟨rfl, rfl⟩
    go_wp2_with fail
    refine NC.out.mono ?_
    rintro r w2 ⟨vn, rfl, on, b2⟩
    obtain ⟨an, cn, rfl, -, -, -⟩ := on.shape'
    have B2 := Lib.hid b2
    have H2 := Lib.hid (H1.out.below b2)
    have ON := Lib.hid on
    clear on b2 NC
    go_wp2
    refine leaves_cons (f := 30) (args := #[.pointer (some ⟨db, 0, none⟩)]) (by simp) (by simp [go_sem]) ?_
    refine (unlock_deferred muLib ⟨db, 0, none⟩ .returning _ (H2.out.cell 0) (H2.out.froz 0)).mono ?_
    rintro r u' w5 ⟨rfl, rfl, rfl⟩
    refine ⟨_, results_tmp2 rfl _ _ _, _, nmsC C, rfl, rfl, ?_, H2.out.lock 0, (U1.out.same ((Upd.ofBelow B2.out).mono (fun _ s _ => s.elim))).setCell (fun _ => rfl) _⟩
    have h9 := ON.out.setCell_other (a := ⟨db, 0, none⟩) (fun s => by have := (ON.out.lt db s).1; rw [Z0.out] at this; omega) (.int .i32 0)
    rw [Z0.out] at h9
    exact h9
end Go.Proofs.YtcmllfnhdodbdaaGreatDoor
namespace Go.Proofs.YtcmllfnhdodbdaaGreatDoor
set_option linter.unusedVariables false
set_option linter.unusedSimpArgs false
open Go.RowKit Go.Maps
theorem Names_s {w : World} {B db : Nat} {F : Nat → Prop} {s : DS} (h : DkS w B db F s) : Calls Tryz.prog 39 #[.pointer (some ⟨db, 0, none⟩)] w fun r w' =>
    ∃ v l, r = .returned (.tuple #[v, .int .i64 (if s.off = true then 94 else 0)]) ∧ l = (if s.off = true then [] else nmsC s.C) ∧ Own w' w.heap.size 9 1 v l.length (strs l) ∧ DkS w' B db F s ∧ Upd (fun i => i = db) w w' ∧ Below B w w' := by
  obtain ⟨mb, L, D, h1, hr, hok, hF⟩ := h.dk
  refine (Names_calls B db mb s.k L D s.C w h1 hr hok.len).mono ?_
  rintro r w' ⟨v, l, hv, hl, ho, g1, g2⟩
  obtain ⟨k1, _, k3⟩ := h.read (w' := w') ⟨mb, L, D, g1, hr, hok, hF⟩ g2
  exact ⟨v, l, hv, hl, ho, k1, g2, k3⟩
end Go.Proofs.YtcmllfnhdodbdaaGreatDoor
namespace Go.Proofs.YtcmllfnhdodbdaaGreatDoor
set_option linter.unusedVariables false
set_option linter.unusedSimpArgs false
open Go.RowKit Go.Maps
theorem bytesLess_lt : ∀ {a b : List UInt8}, a < b → Op.bytesLess a b = true
  | _, [], h => absurd h (List.not_lt_nil _)
  | [], _ :: _, _ => rfl
  | a :: x, b :: y, h => by
    rw [List.cons_lt_cons_iff] at h
    rcases h with h | ⟨rfl, h⟩
    · simp [Op.bytesLess, h]
    · simp [Op.bytesLess, bytesLess_lt h]
theorem sumC_take (C : Con) (i : Nat) (h : i < C.length) : sumC (C.take (i + 1)) = sumC (C.take i) + C[i].2.length := by
  have e : ([C[i]].map fun p => p.2.length).sum = C[i].2.length := by simp
  unfold sumC
  rw [List.take_succ_eq_append_getElem h, List.map_append, List.sum_append, e]
theorem sumC_take_le (C : Con) (i : Nat) : sumC (C.take i) ≤ sumC C := by
  have h : sumC C = sumC (C.take i) + sumC (C.drop i) := by
    unfold sumC
    rw [← List.sum_append, ← List.map_append, List.take_append_drop]
  omega
set_option maxRecDepth 100000 in
set_option maxHeartbeats 2000000 in
theorem sum9_calls (C : Con) (a : Option Addr) (c : Nat) (w : World) (hx : Fil w a C) (hl : C.length ≤ 140737488355328) (hs : sumC C ≤ 4611686018427387904) :
    Calls Tryz.prog 22 #[.slice a C.length c] w fun r w' => r = .returned (.int .i64 (sumC C : Nat)) ∧ w = w' := by
  have HX := Lib.hid hx; have HS := Lib.hid hs
  clear hx hs
  go_enter Tryz.func22, Tryz.ntmps22
  go_wp2
  go_loopw [3, 4] (fun vs vi wr => ∃ i : Nat, vs = .int .i64 (sumC (C.take i) : Nat) ∧ vi = .int .i64 i ∧ i ≤ C.length ∧ w = wr) (fun _ vi _ => C.length - (intOf vi).toNat)
  case atStart => exact ⟨0, rfl, rfl, Nat.zero_le _, rfl⟩
  case round =>
    obtain ⟨i, rfl, rfl, hi, rfl⟩ := hrel
    by_cases c1 : i < C.length
    · have t1 : decide ((i : Int) < (C.length : Int)) = true := decide_eq_true (by omega)
      have t1' : decide (i < C.length) = true := decide_eq_true c1
      obtain ⟨b1, o1, p1, k1, rfl, h1, h2, -, -⟩ := HX.out i c1
      have hst := sumC_take C i c1
      have hle := sumC_take_le C (i + 1)
      obtain ⟨t, ht⟩ : ∃ q, C[i].2 = q := ⟨_, rfl⟩
      rw [ht] at h2 hst
      obtain ⟨m, hm⟩ : ∃ m, sumC (C.take i) = m := ⟨_, rfl⟩
      rw [hm] at hst ⊢
      have HST := Lib.hid hst
      have hb : m + t.length ≤ 4611686018427387904 := by have := HS.out; omega
      have i2 : (i : Int) < (C.length : Int) := by omega
      clear ht h1 hst hle hm
      go_wp2
      go_roundw
      case rel => exact ⟨i + 1, by rw [HST.out]; go_num, by go_num, by omega, by first | rfl | trivial⟩
      case measure => simp [intOf]; omega
    · have t1 : decide ((i : Int) < (C.length : Int)) = false := decide_eq_false (by omega)
      have t1' : decide (i < C.length) = false := decide_eq_false c1
      have e : C.take i = C := List.take_of_length_le (by omega)
      rw [e]
      go_wp2
      go_ret
      exact ⟨rfl, rfl⟩
/-- What tells leaves. -/
def TellsP (w w' : World) (B db : Nat) (F : Nat → Prop) (s : DS) (r : Ending) : Prop := r = .returned (.bool true) ∧ DkS w' B db F s ∧ Upd (fun i => i = db) w w' ∧ Below B w w'
set_option maxRecDepth 100000 in
set_option maxHeartbeats 8000000 in
theorem tells9_calls (B db : Nat) (F : Nat → Prop) (s : DS) (Bd : Nat) (a : Option Addr) (c : Nat) (w : World) (h : DkS w B db F s) (ho : s.off = false) (hf : FilB w Bd a s.C) (hd : db < Bd) :
    Calls Tryz.prog 23 #[.pointer (some ⟨db, 0, none⟩), .slice a s.C.length c] w fun r w' => TellsP w w' B db F s r := by
  have NC0 := Names_s h
  rw [ho] at NC0
  have NC := Lib.hid NC0
  have dl := h.dk.lt
  have OK := Lib.hid h.dk.ok
  have CLEN := h.dk.ok.len
  have OFF := Lib.hid ho; have FB := Lib.hid hf; have H0 := Lib.hid h
  clear h ho hf NC0
  obtain ⟨C, hC⟩ : ∃ C, s.C = C := ⟨_, rfl⟩
  rw [hC] at FB CLEN NC ⊢
  have CE := Lib.hid hC
  clear hC
  go_enter Tryz.func23, Tryz.ntmps23
  go_wp2_with fail
  refine NC.out.mono ?_
  rintro r w1 ⟨v1, l1, rfl, hl1, o1, d1, u1', b1⟩
  have hl2 : l1 = nmsC C := by rw [hl1]; rfl
  subst hl2
  have nl : (nmsC C).length = C.length := by simp [nmsC]
  rw [nl] at o1
  obtain ⟨a1, cz, rfl, -, -, -⟩ := o1.shape'
  have O1 := Lib.hid o1; have D1 := Lib.hid d1; have U1 := Lib.hid u1'; have B1 := Lib.hid b1
  have F1 := Lib.hid (FB.out.upd u1' (fun k hk => by rw [hk]; exact hd))
  have t0 : ((C.length : Int) != (C.length : Int)) = false := by simp
  clear o1 d1 u1' b1 hl1 NC nl
  go_wp2_with (go_at_call 9; refine (num9_calls _ _).mono ?_; rintro r wx ⟨rfl, rfl⟩)
  clear t0
  go_loopw [7, 8, 9, 10, 11] (fun vi _ _ _ _ wr => ∃ i : Nat, vi = .int .i64 i ∧ i ≤ C.length ∧ DkS wr B db F s ∧ Upd (fun i => i = db) w1 wr ∧ Below B w1 wr) (fun vi _ _ _ _ _ => C.length - (intOf vi).toNat)
  case atStart => exact ⟨0, rfl, Nat.zero_le _, D1.out, Upd.refl _ _, Below.refl _ _⟩
  case round =>
    obtain ⟨i, rfl, hi, hdk, hu, hb⟩ := hrel
    have DR := Lib.hid hdk; have UR := Lib.hid hu; have BR := Lib.hid hb
    have FR := Lib.hid (F1.out.upd hu (fun k hk => by rw [hk]; exact hd))
    have OR := Lib.hid (O1.out.upd hu (fun k hk e => by have := (O1.out.lt k hk).1; omega))
    clear hdk hu hb
    by_cases c1 : i < C.length
    · have t1 : decide ((i : Int) < (C.length : Int)) = true := decide_eq_true (by omega)
      have t1' : decide (i < C.length) = true := decide_eq_true c1
      obtain ⟨ab, ao, p1, k1, rfl, h1, h2, h3, h4⟩ := FR.out.fil i c1
      have hmem : C[i] ∈ C := List.getElem_mem c1
      obtain ⟨nm, hnm⟩ : ∃ q, C[i].1 = q := ⟨_, rfl⟩
      obtain ⟨t, ht⟩ : ∃ q, C[i].2 = q := ⟨_, rfl⟩
      have hno : nmOk nm = true := by rw [← hnm]; exact OK.out.nm _ (by rw [CE.out]; exact hmem)
      have hbt : bytC s.C nm = t := by rw [← hnm, ← ht, CE.out]; exact bytC_mem (by rw [← CE.out]; exact OK.out.so) hmem
      have hhs : hasC s.C nm = true := by rw [← hnm, CE.out]; exact hasC_mem hmem
      have hmay : s.may true [nm] = 0 := by
        unfold DS.may
        rw [if_neg (by rw [OFF.out]; decide), if_neg (by simp [hno]), if_neg (by rintro ⟨_, h9⟩; rw [show [nm].headD [] = nm from rfl, hhs] at h9; cases h9)]
      have hrd : readB s nm = t := by unfold readB; rw [if_pos hmay, hbt]
      have hnl : nm.length ≤ 140737488351232 := by
        unfold nmOk at hno
        simp only [Bool.and_eq_true, decide_eq_true_eq] at hno
        omega
      have RC0 := Read_dk nm DR.out.dk hnl
      rw [hmay, hrd] at RC0
      have RC := Lib.hid RC0
      have HM := Lib.hid hmay; have HR := Lib.hid hrd; have HT := Lib.hid ht; have HNM := Lib.hid hnm
      rw [hnm] at h1
      rw [ht] at h2 h4
      have H4 := Lib.hid h4
      have i2 : (i : Int) < (C.length : Int) := by omega
      clear hno hbt hhs hmay hrd RC0 ht hnm h3 h4 hmem
      go_wp2_with fail
      refine RC.out.mono ?_
      rintro r w5 ⟨v5, rfl, o5, d5, u5'⟩
      obtain ⟨a5, c5, rfl, -, -, y5, -, hb5⟩ := own_val o5
      obtain ⟨d5', -, b5⟩ := DR.out.read d5 u5'
      have SC0 := Size_dk nm d5'.dk hnl
      rw [HM.out, HR.out] at SC0
      have SC := Lib.hid SC0
      have D5 := Lib.hid d5'; have U5 := Lib.hid u5'; have B5 := Lib.hid b5; have Y5 := Lib.hid y5; have HB5 := Lib.hid hb5
      obtain ⟨_, _, _, _, e, x1, x2, -, x4⟩ := (FR.out.upd u5' (fun k hk => by rw [hk]; exact hd)).fil i c1
      cases e
      rw [HNM.out] at x1
      clear h1 h2 x2 x4 o5 d5 d5' u5' b5 y5 hb5 SC0 RC
      go_wp2_with fail
      refine SC.out.mono ?_
      rintro r w6 ⟨rfl, d6, u6'⟩
      obtain ⟨d6', -, b6⟩ := D5.out.read d6 u6'
      have UU : Upd (fun i => i = db) wr w6 := U5.out.same u6'
      have D6 := Lib.hid d6'; have U6 := Lib.hid (UR.out.same UU); have B6 := Lib.hid ((BR.out.trans B5.out).trans b6)
      obtain ⟨_, _, p6, k6, e, z1, z2, -, z4⟩ := (FR.out.upd UU (fun k hk => by rw [hk]; exact hd)).fil i c1
      cases e
      rw [HNM.out] at z1
      rw [HT.out] at z2 z4
      have y6 : Byt w6 a5 t := Y5.out.upd u6' (fun ad ha _ e => by have := (HB5.out ad ha).2.1; have := D5.out.dk.lt; have := DR.out.dk.lt; omega)
      have cv1 : ∀ q, (convert 33 9 (.slice a5 t.length c5)).run Tryz.prog (w6.drewN q) = .ok (.string ⟨t.toArray⟩) (w6.drewN q) := fun q => conv_bytes Tryz.underlying33 Tryz.underlying5 Tryz.underlying9 (y6.drewN q)
      have cv2 : ∀ q, (convert 33 9 (.slice p6 t.length k6)).run Tryz.prog (w6.drewN q) = .ok (.string ⟨t.toArray⟩) (w6.drewN q) := fun q => conv_bytes Tryz.underlying33 Tryz.underlying5 Tryz.underlying9 (z4.drewN q)
      have tt : (t != t) = false := by simp
      have tl : ((t.length : Int) != (t.length : Int)) = false := by simp
      have OS := O1.out.upd U6.out (fun k hk e => by have := (O1.out.lt k hk).1; omega)
      obtain ⟨g, cy, hv⟩ := OS.shape (by omega)
      cases hv
      have hin : i < (nmsC C).length := by simp [nmsC]; exact c1
      have n0 := OS.cellAt i (by omega)
      rw [strs_get hin, show (nmsC C)[i] = nm by rw [← HNM.out]; simp [nmsC]] at n0
      have t3 : (nm != nm) = false := by simp
      by_cases iz : i = 0
      · subst iz
        simp only [Nat.zero_mul, Nat.add_zero] at z1 z2
        clear OS hin y6 z4
        go_wp2_with fail
        go_quiet ((go_at_call 9; exact qone (num9_calls _ _)))
        clear cv1 cv2
        have D7 := Lib.hid (D6.out.below (bel_drewN (Below.refl _ _) nq))
        go_wp2
        go_roundw
        case rel => exact ⟨0 + 1, by go_num, by omega, D7.out, U6.out.same ((Upd.refl _ _).drewN nq), bel_drewN B6.out nq⟩
        case measure => simp [intOf]; omega
      · obtain ⟨j, hj⟩ : ∃ j, i = j + 1 := ⟨i - 1, by omega⟩
        have hjn : j < (nmsC C).length := by omega
        have hjc : j < C.length := by simpa [nmsC] using hjn
        have n1 := OS.cellAt j (by omega)
        rw [strs_get hjn, show (nmsC C)[j] = C[j].1 by simp [nmsC]] at n1
        obtain ⟨pv, hpv⟩ : ∃ q, C[j].1 = q := ⟨_, rfl⟩
        rw [hpv] at n1
        have lt9 : pv < nm := by
          have hs := OK.out.so
          rw [CE.out] at hs
          have h9 := (List.pairwise_iff_getElem.1 hs) j i hjc (by omega) (by omega)
          rw [hpv, HNM.out] at h9
          exact h9
        have bl9 := bytesLess_lt lt9
        have j2 : (j : Int) < (C.length : Int) := by omega
        have ip : 0 < i := by omega
        have ew : IntKind.i64.wrap ((i : Int) - 1) = (j : Int) := (IntWalk.i64_in _ (by omega)).trans (by omega)
        clear OS hin hjn y6 z4 hpv lt9 iz hj
        go_wp2_with fail
        go_quiet ((go_at_call 9; exact qone (num9_calls _ _)))
        clear cv1 cv2 bl9 ew
        have D7 := Lib.hid (D6.out.below (bel_drewN (Below.refl _ _) nq))
        go_wp2
        go_roundw
        case rel => exact ⟨i + 1, by go_num, by omega, D7.out, U6.out.same ((Upd.refl _ _).drewN nq), bel_drewN B6.out nq⟩
        case measure => simp [intOf]; omega
    · have t1 : decide ((i : Int) < (C.length : Int)) = false := decide_eq_false (by omega)
      have t1' : decide (i < C.length) = false := decide_eq_false c1
      go_wp2
      go_ret
      exact ⟨rfl, DR.out, U1.out.same UR.out, B1.out.trans BR.out⟩
end Go.Proofs.YtcmllfnhdodbdaaGreatDoor
