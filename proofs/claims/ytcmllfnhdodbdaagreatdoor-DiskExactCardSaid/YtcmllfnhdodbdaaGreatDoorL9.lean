/- posternlaw9's helpers: file, others, size, do. -/
import Derived.Test.YtcmllfnhdodbdaaGreatDoorEqF
import Derived.Test.YtcmllfnhdodbdaaGreatDoorDoP
import Derived.Test.YtcmllfnhdodbdaaGreatDoorWorks9
import Derived.Test.YtcmllfnhdodbdaaGreatDoorCutOn
import Derived.Test.YtcmllfnhdodbdaaGreatDoorRemOn
import Derived.Test.YtcmllfnhdodbdaaGreatDoorRenOn
namespace Go.Proofs.YtcmllfnhdodbdaaGreatDoor
set_option linter.unusedVariables false
set_option linter.unusedSimpArgs false
open Go.RowKit Go.Maps
theorem bytC_at {l : Con} {i : Nat} {nm : List UInt8} (hi : i < l.length) (h0 : hasC (l.take i) nm = false) (h1 : l[i].1 = nm) : bytC l nm = l[i].2 ∧ hasC l nm = true := by
  have e : l = l.take i ++ l[i] :: l.drop (i + 1) := by rw [← List.drop_eq_getElem_cons hi, List.take_append_drop]
  have hn : (l.take i).find? (fun p => p.1 == nm) = none := by
    rw [List.find?_eq_none]
    intro p hp
    have := hasC_no.1 h0 p hp
    simpa using this
  refine ⟨?_, hasC_iff.2 ⟨l[i], List.getElem_mem hi, h1⟩⟩
  obtain ⟨q, hq⟩ : ∃ q, l[i] = q := ⟨_, rfl⟩
  rw [hq] at e h1 ⊢
  have e2 : l.find? (fun p => p.1 == nm) = some q := by
    rw [e, List.find?_append, hn]
    simp [h1]
  unfold bytC
  rw [e2]
  rfl
theorem hasC_take {l : Con} {i : Nat} {nm : List UInt8} (hi : i < l.length) (h0 : hasC (l.take i) nm = false) (h1 : l[i].1 ≠ nm) : hasC (l.take (i + 1)) nm = false := by
  rw [hasC_no] at h0 ⊢
  intro p hp
  rw [List.take_succ_eq_append_getElem hi] at hp
  rcases List.mem_append.1 hp with hp | hp
  · exact h0 p hp
  · rw [List.mem_singleton] at hp; rw [hp]; exact h1
/-- What file answers. -/
def FileP (w w' : World) (l : Con) (nm : List UInt8) (r : Ending) : Prop := ∃ a c, r = .returned (.tuple #[.slice a (bytC l nm).length c, .bool (hasC l nm)]) ∧ Byt w a (bytC l nm) ∧ (bytC l nm).length ≤ c ∧ w = w'
set_option maxRecDepth 100000 in
set_option maxHeartbeats 2000000 in
theorem file9_calls (l : Con) (a : Option Addr) (c : Nat) (nm : List UInt8) (w : World) (hx : Fil w a l) (hl : l.length ≤ 140737488355328) :
    Calls Tryz.prog 20 #[.slice a l.length c, .string ⟨nm.toArray⟩] w fun r w' => FileP w w' l nm r := by
  have HX := Lib.hid hx
  clear hx
  go_enter Tryz.func20, Tryz.ntmps20
  go_wp2
  go_loopw [6] (fun vi wr => ∃ i : Nat, vi = .int .i64 i ∧ i ≤ l.length ∧ hasC (l.take i) nm = false ∧ w = wr) (fun vi _ => l.length - (intOf vi).toNat)
  case atStart => exact ⟨0, rfl, Nat.zero_le _, rfl, rfl⟩
  case round =>
    obtain ⟨i, rfl, hi, hh, rfl⟩ := hrel
    have HH := Lib.hid hh
    clear hh
    by_cases c1 : i < l.length
    · have t1 : decide ((i : Int) < (l.length : Int)) = true := decide_eq_true (by omega)
      have t1' : decide (i < l.length) = true := decide_eq_true c1
      obtain ⟨b1, o1, p1, k1, rfl, h1, h2, h3, h4⟩ := HX.out i c1
      obtain ⟨q, hq⟩ : ∃ q, l[i].1 = q := ⟨_, rfl⟩
      obtain ⟨t, ht⟩ : ∃ q, l[i].2 = q := ⟨_, rfl⟩
      rw [hq] at h1
      rw [ht] at h2 h3 h4
      have HQ := Lib.hid hq; have HT := Lib.hid ht; have H3 := Lib.hid h3; have H4 := Lib.hid h4
      have i2 : (i : Int) < (l.length : Int) := by omega
      clear hq ht h3 h4
      by_cases c2 : q = nm
      · subst c2
        obtain ⟨e1, e2⟩ := bytC_at c1 HH.out HQ.out
        rw [HT.out] at e1
        have E1 := Lib.hid e1; have E2 := Lib.hid e2
        clear e1 e2
        go_wp2
        go_ret2
        exact ⟨p1, k1, by rw [E1.out, E2.out]; rfl, by rw [E1.out]; exact H4.out, by rw [E1.out]; exact H3.out, rfl⟩
      · have t2 : (q == nm) = false := beq_eq_false_iff_ne.2 c2
        have HN := Lib.hid (hasC_take c1 HH.out (by rw [HQ.out]; exact c2))
        go_wp2
        go_roundw
        case rel => exact ⟨i + 1, by go_num, by omega, HN.out, by first | rfl | trivial⟩
        case measure => simp [intOf]; omega
    · have t1 : decide ((i : Int) < (l.length : Int)) = false := decide_eq_false (by omega)
      have t1' : decide (i < l.length) = false := decide_eq_false c1
      have e : hasC l nm = false := by
        have h9 := HH.out
        rw [List.take_of_length_le (by omega)] at h9
        exact h9
      have E := Lib.hid e
      clear e
      go_wp2
      go_ret2
      exact ⟨none, 0, by rw [E.out, bytC_no E.out]; rfl, by rw [bytC_no E.out]; exact Byt.nil _ _, by rw [bytC_no E.out]; exact Nat.zero_le _, rfl⟩
set_option maxRecDepth 100000 in
set_option maxHeartbeats 4000000 in
theorem others9_calls (X Y : Con) (a b : Option Addr) (c d : Nat) (nm : List UInt8) (w : World) (hx : Fil w a X) (hy : Fil w b Y) (hlx : X.length ≤ 140737488355328) (hly : Y.length ≤ 140737488355328) (ho : OthersP X Y nm) :
    Calls Tryz.prog 21 #[.slice a X.length c, .slice b Y.length d, .string ⟨nm.toArray⟩] w fun r w' => r = .returned (.bool true) ∧ ∃ n, w' = w.drewN n := by
  have HX := Lib.hid hx; have HY := Lib.hid hy; have HO := Lib.hid ho
  clear hx hy ho
  go_enter Tryz.func21, Tryz.ntmps21
  go_wp2
  go_loopw [7, 8, 9] (fun vi _ _ wr => ∃ i : Nat, vi = .int .i64 i ∧ i ≤ X.length ∧ ∃ k, wr = w.drewN k) (fun vi _ _ _ => X.length - (intOf vi).toNat)
  case atStart => exact ⟨0, rfl, Nat.zero_le _, 0, rfl⟩
  case round =>
    obtain ⟨i, rfl, hi, kq, hkq⟩ := hrel
    have X1 := Lib.hid (show Fil wr _ _ by rw [hkq]; exact HX.out.below (bel_drewN (Below.refl _ _) kq))
    have Y1 := Lib.hid (show Fil wr _ _ by rw [hkq]; exact HY.out.below (bel_drewN (Below.refl _ _) kq))
    have KQ := Lib.hid hkq
    clear hkq
    by_cases c1 : i < X.length
    · have t1 : decide ((i : Int) < (X.length : Int)) = true := decide_eq_true (by omega)
      have t1' : decide (i < X.length) = true := decide_eq_true c1
      obtain ⟨b1, o1, p1, k1, rfl, h1, h2, h3, h4⟩ := X1.out i c1
      obtain ⟨q, hq⟩ : ∃ q, X[i].1 = q := ⟨_, rfl⟩
      obtain ⟨t, ht⟩ : ∃ q, X[i].2 = q := ⟨_, rfl⟩
      have OO : Hid (q ≠ nm → hasC Y q = true ∧ bytC Y q = t) := by
        intro hne
        have h9 := HO.out.1 X[i] (List.getElem_mem c1)
        rw [hq, ht] at h9
        exact h9 hne
      rw [hq] at h1
      rw [ht] at h2 h4
      have H4 := Lib.hid h4
      have i2 : (i : Int) < (X.length : Int) := by omega
      have FC := Lib.hid (file9_calls Y b d q wr Y1.out hly)
      clear hq ht h3 h4
      go_wp2_with fail
      refine FC.out.mono ?_
      rintro r w5 ⟨fa, fc, rfl, fb, -, rfl⟩
      have FB := Lib.hid fb
      clear fb FC
      by_cases c2 : q = nm
      · subst c2
        have t2 : (q != q) = false := by simp
        go_wp2_with fail
        go_quiet (fail)
        go_wp2
        go_roundw
        case rel => exact ⟨i + 1, by go_num, by omega, _, by rw [KQ.out]; exact World.drewN_drewN _ _ _⟩
        case measure => simp [intOf]; omega
      · have t2 : (q != nm) = true := bne_iff_ne.2 c2
        obtain ⟨e1, e2⟩ := OO.out c2
        have fb := FB.out
        rw [e2] at fb
        have x1 : ∀ k, (convert 33 9 (.slice fa t.length fc)).run Tryz.prog (wr.drewN k) = .ok (.string ⟨t.toArray⟩) (wr.drewN k) := fun k => conv_bytes Tryz.underlying33 Tryz.underlying5 Tryz.underlying9 (fb.drewN k)
        have x2 : ∀ k, (convert 33 9 (.slice p1 t.length k1)).run Tryz.prog (wr.drewN k) = .ok (.string ⟨t.toArray⟩) (wr.drewN k) := fun k => conv_bytes Tryz.underlying33 Tryz.underlying5 Tryz.underlying9 (H4.out.drewN k)
        have t3 : (t != t) = false := by simp
        rw [e1, e2]
        clear fb e1 e2
        go_wp2_with fail
        go_quiet (fail)
        clear x1 x2
        go_wp2
        go_roundw
        case rel => exact ⟨i + 1, by go_num, by omega, _, by rw [KQ.out]; exact World.drewN_drewN _ _ _⟩
        case measure => simp [intOf]; omega
    · have t1 : decide ((i : Int) < (X.length : Int)) = false := decide_eq_false (by omega)
      have t1' : decide (i < X.length) = false := decide_eq_false c1
      clear X1 Y1
      go_wp2
      go_loopw [10, 11, 12] (fun vi _ _ wr => ∃ i : Nat, vi = .int .i64 i ∧ i ≤ Y.length ∧ ∃ k, wr = w.drewN k) (fun vi _ _ _ => Y.length - (intOf vi).toNat)
      case atStart => exact ⟨0, rfl, Nat.zero_le _, kq, KQ.out⟩
      case round =>
        obtain ⟨j, rfl, hj, kr, hkr⟩ := hrel
        have X1 := Lib.hid (show Fil wr _ _ by rw [hkr]; exact HX.out.below (bel_drewN (Below.refl _ _) kr))
        have Y1 := Lib.hid (show Fil wr _ _ by rw [hkr]; exact HY.out.below (bel_drewN (Below.refl _ _) kr))
        have KR := Lib.hid hkr
        clear hkr
        by_cases d1 : j < Y.length
        · have s1 : decide ((j : Int) < (Y.length : Int)) = true := decide_eq_true (by omega)
          have s1' : decide (j < Y.length) = true := decide_eq_true d1
          obtain ⟨b1, o1, p1, k1, rfl, h1, h2, h3, h4⟩ := Y1.out j d1
          obtain ⟨q, hq⟩ : ∃ q, Y[j].1 = q := ⟨_, rfl⟩
          have OO : Hid (q ≠ nm → hasC X q = true) := by
            intro hne
            have h9 := HO.out.2 Y[j] (List.getElem_mem d1)
            rw [hq] at h9
            exact h9 hne
          rw [hq] at h1
          have i2 : (j : Int) < (Y.length : Int) := by omega
          have FC := Lib.hid (file9_calls X a c q wr X1.out hlx)
          clear hq h2 h3 h4
          go_wp2_with fail
          refine FC.out.mono ?_
          rintro r w5 ⟨fa, fc, rfl, -, -, rfl⟩
          clear FC
          by_cases c2 : q = nm
          · subst c2
            have t2 : (q != q) = false := by simp
            go_wp2
            go_roundw
            case rel => exact ⟨j + 1, by go_num, by omega, kr, KR.out⟩
            case measure => simp [intOf]; omega
          · have t2 : (q != nm) = true := bne_iff_ne.2 c2
            rw [OO.out c2]
            go_wp2
            go_roundw
            case rel => exact ⟨j + 1, by go_num, by omega, kr, KR.out⟩
            case measure => simp [intOf]; omega
        · have s1 : decide ((j : Int) < (Y.length : Int)) = false := decide_eq_false (by omega)
          have s1' : decide (j < Y.length) = false := decide_eq_false d1
          go_wp2
          go_ret
          exact ⟨rfl, kr, KR.out⟩
end Go.Proofs.YtcmllfnhdodbdaaGreatDoor
