/- posternlaw1.Book: what is kept still holds its marks. -/
import Derived.Test.YtjiciklnhcmfaaaGreatDoorBook2
namespace Go.Proofs.YtjiciklnhcmfaaaGreatDoor
set_option linter.unusedVariables false
set_option linter.unusedSimpArgs false
open Go.RowKit
set_option maxRecDepth 100000 in
set_option maxHeartbeats 2000000 in
theorem plain_calls (w : World) (base : Nat) (Pr : Nat → Prop) (bb : Nat) (E : List Ent) (lo hi : Nat) (vb vo : Value) (bat : Nat) (tn dn : Int) (us : Nat) (h : Bk w base Pr bb E E lo hi vb vo bat tn dn us) (hl : E.length ≤ 1400000) :
    Calls Tryz.prog 46 #[.pointer (some ⟨bb, 0, none⟩)] w fun r w' => ∃ n, r = .returned (.bool true) ∧ w' = w.drewN n := by
  have c0 := h.k0
  have c1 := h.k1
  have c3 : w.cell? ⟨bb, 3, none⟩ = some (.slice none 0 0) := h.nilB.cell 3 (by decide) (by decide)
  obtain ⟨av, cv, hvb, _, _, _⟩ := h.rows.shape'
  obtain ⟨ao, co, hvo, _, _, _⟩ := h.ofs.shape'
  subst hvb
  subst hvo
  have H := Lib.hid h; clear h
  have tz : decide ((0 : Int) < 0) = false := by decide
  go_enter Tryz.func46, Tryz.ntmps46
  go_wp2
  go_loopw [3] (fun vi wr => ∃ i : Nat, vi = .int .i64 i ∧ i ≤ E.length ∧ ∃ n, wr = w.drewN n) (fun vi _ => E.length - (intOf vi).toNat)
  case atStart => exact ⟨0, rfl, by omega, 0, rfl⟩
  case round =>
    obtain ⟨i, rfl, hi, q, rfl⟩ := hrel
    by_cases hlt : i < E.length
    · have t1 : decide ((i : Int) < (E.length : Int)) = true := decide_eq_true (by omega)
      have t1' : decide (i < E.length) = true := decide_eq_true hlt
      obtain ⟨e, he⟩ : ∃ e, E[i] = e := ⟨_, rfl⟩
      have hmem : e ∈ E := by rw [← he]; exact List.getElem_mem hlt
      have hE := H.out.ent e hmem
      have hn := H.out.en1 e hmem
      obtain ⟨g1, d1, hv1⟩ := H.out.rows.shape (by omega)
      cases hv1
      obtain ⟨g2, d2, hv2⟩ := H.out.ofs.shape (by omega)
      cases hv2
      have q1 : w.cell? ⟨g1, i, none⟩ = some (.slice e.a e.n e.c) := by
        rw [H.out.rows.cellAt i (by omega)]
        simp [hlt, he, Ent.val]
      have q2 : w.cell? ⟨g2, i, none⟩ = some (.int .i64 e.m) := by
        rw [H.out.ofs.cellAt i (by omega)]
        simp [hlt, he, Ent.mval]
      unfold Ent.val at hE
      generalize e.a = ea at *
      generalize e.n = en at *
      generalize e.c = ec at *
      generalize e.m = em at *
      have HE := Lib.hid hE
      clear hE he hmem
      go_wp2
      go_loopw [4] (fun vk wr => ∃ k : Nat, vk = .int .i64 k ∧ k ≤ en ∧ ∃ n, wr = w.drewN n) (fun vk _ => en - (intOf vk).toNat)
      case atStart => exact ⟨0, rfl, by omega, q, rfl⟩
      case round =>
        obtain ⟨k, rfl, hk, q', rfl⟩ := hrel
        by_cases hlk : k < en
        · have t2 : decide ((k : Int) < (en : Int)) = true := decide_eq_true (by omega)
          have t2' : decide (k < en) = true := decide_eq_true hlk
          obtain ⟨g3, d3, hv3⟩ := HE.out.shape (by omega)
          cases hv3
          have q3 : w.cell? ⟨g3, k, none⟩ = some (.int .u8 ((atB em k).toNat : Int)) := by
            rw [HE.out.cellAt k (by omega)]
            simp only [bys, List.getElem?_map, mks_get em en k hlk, Option.map_some]
          have AT := Lib.hid (fun w => at_calls em k w (by omega))
          have i1 : (i : Int) < (E.length : Int) := by omega
          have i2 : (k : Int) < (en : Int) := by omega
          generalize (atB em k).toNat = z at *
          go_wp2_with fail
          go_quiet ((go_at_call 44; exact qtwo (AT.out _)))
          go_wp2
          go_roundw
          case rel => exact ⟨k + 1, by go_num, by omega, _, rfl⟩
          case measure => simp [intOf]; omega
        · have t2 : decide ((k : Int) < (en : Int)) = false := decide_eq_false (by omega)
          have t2' : decide (k < en) = false := decide_eq_false hlk
          go_wp2
          go_roundw
          case rel => exact ⟨i + 1, by go_num, by omega, _, rfl⟩
          case measure => simp [intOf]; omega
    · have t1 : decide ((i : Int) < (E.length : Int)) = false := decide_eq_false (by omega)
      have t1' : decide (i < E.length) = false := decide_eq_false hlt
      go_wp2
      go_loopw [5] (fun vi wr => vi = .int .i64 0 ∧ wr = w.drewN q) (fun _ _ => 0)
      case atStart => exact ⟨rfl, rfl⟩
      case round =>
        obtain ⟨rfl, rfl⟩ := hrel
        go_wp2
        go_ret
        exact ⟨_, rfl, rfl⟩
end Go.Proofs.YtjiciklnhcmfaaaGreatDoor
