/- The disk's calls, in plain words. -/
import Derived.Test.YtcmllfnhdodbdaaDoorLoad
import Derived.Test.YtcmllfnhdodbdaaDoorCutOn
import Derived.Test.YtcmllfnhdodbdaaDoorOffOn
import Derived.Test.YtcmllfnhdodbdaaDoorArm
import Derived.Test.YtcmllfnhdodbdaaDoorSize
namespace Go.Proofs.YtcmllfnhdodbdaaDoor
set_option linter.unusedVariables false
set_option linter.unusedSimpArgs false
open Go.RowKit Go.Maps
theorem Fil.nil (w : World) (a : Option Addr) : Fil w a [] := fun i h => absurd h (Nat.not_lt_zero _)
set_option maxRecDepth 100000 in
set_option maxHeartbeats 1000000 in
theorem NewK_calls (room : Int) (w : World) : Calls Tryd.prog 7 #[.int .i64 room] w fun r w' => LoadP w w' room [] r := by
  have LC := Lib.hid (Load_calls room [] none 0 w (Fil.nil w none) (fun _ h => by cases h) (Nat.zero_le _))
  unfold LoadP
  unfold LoadP at LC
  obtain ⟨⟨e, so⟩, he⟩ : ∃ q, loadR room [] = q := ⟨_, rfl⟩
  rw [he] at LC ⊢
  clear he
  cases so with
  | none =>
    go_enter Tryd.func7, Tryd.ntmps7
    go_wp2_with fail
    refine LC.out.mono ?_
    rintro r w1 ⟨rfl, hb⟩
    have HB := Lib.hid hb
    clear hb
    go_wp2
    go_ret2
    exact ⟨rfl, HB.out⟩
  | some s =>
    go_enter Tryd.func7, Tryd.ntmps7
    go_wp2_with fail
    refine LC.out.mono ?_
    rintro r w1 ⟨db, rfl, hd, hb⟩
    have HD := Lib.hid hd; have HB := Lib.hid hb
    clear hd hb
    go_wp2
    go_ret2
    exact ⟨db, rfl, HD.out, HB.out⟩
section
variable {base db : Nat} {F : Nat → Prop} {s : DS} {w : World}
theorem Arm_dk (n keep : Int) (h : Dk w base F db s) (hn : n ≤ 9223372036854775807) : Calls Tryd.prog 26 #[.pointer (some ⟨db, 0, none⟩), .int .i64 n, .int .i64 keep] w fun r w' => r = .returned (.tuple #[]) ∧ DkTo w w' base db F (s.arm n keep) := by
  obtain ⟨mb, L, D, h1, hr, hok, hF⟩ := h
  refine (Arm_calls base db mb s.k L D n keep w h1).mono ?_
  rintro r w' ⟨rfl, g1, g2⟩
  exact ⟨rfl, DkTo.same (s := s) hF g1 hr (hok.arm n keep hn) g2⟩
theorem Off_dk (h : Dk w base F db s) : Calls Tryd.prog 19 #[.pointer (some ⟨db, 0, none⟩)] w fun r w' => r = .returned (.bool s.off) ∧ DkTo w w' base db F s := by
  obtain ⟨mb, L, D, h1, hr, hok, hF⟩ := h
  refine (Off_calls base db mb s.k L D w h1).mono ?_
  rintro r w' ⟨rfl, g1, g2⟩
  exact ⟨rfl, DkTo.same (s := s) hF g1 hr hok g2⟩
theorem On_dk (h : Dk w base F db s) : Calls Tryd.prog 27 #[.pointer (some ⟨db, 0, none⟩)] w fun r w' => r = .returned (.tuple #[]) ∧ DkTo w w' base db F s.on := by
  obtain ⟨mb, L, D, h1, hr, hok, hF⟩ := h
  refine (On_calls base db mb s.k L D w h1).mono ?_
  rintro r w' ⟨rfl, g1, g2⟩
  exact ⟨rfl, DkTo.same (s := s) hF g1 hr hok.on g2⟩
theorem Writes_dk (h : Dk w base F db s) : Calls Tryd.prog 18 #[.pointer (some ⟨db, 0, none⟩)] w fun r w' => r = .returned (.int .i64 (s.writes : Int)) ∧ DkTo w w' base db F s := by
  obtain ⟨mb, L, D, h1, hr, hok, hF⟩ := h
  refine (Writes_calls base db mb s.k L D w h1).mono ?_
  rintro r w' ⟨rfl, g1, g2⟩
  exact ⟨rfl, DkTo.same (s := s) hF g1 hr hok g2⟩
theorem Room_dk (h : Dk w base F db s) : Calls Tryd.prog 20 #[.pointer (some ⟨db, 0, none⟩)] w fun r w' => r = .returned (.int .i64 (s.room : Int)) ∧ w = w' := by
  obtain ⟨mb, L, D, h1, hr, hok, hF⟩ := h
  exact Room_calls base db mb 0 s.k L D w h1
def readB (s : DS) (nm : List UInt8) : List UInt8 := if s.may true [nm] = 0 then bytC s.C nm else []
theorem Read_dk (nm : List UInt8) (h : Dk w base F db s) (hnm : nm.length ≤ 140737488351232) : Calls Tryd.prog 28 #[.pointer (some ⟨db, 0, none⟩), .string ⟨nm.toArray⟩] w fun r w' =>
    ∃ v, r = .returned (.tuple #[v, .int .i64 (s.may true [nm])]) ∧ Own w' w.heap.size 5 1 v (readB s nm).length (bys (readB s nm)) ∧ Dk w' base F db s ∧ Upd (fun i => i = db) w w' := by
  obtain ⟨mb, L, D, h1, hr, hok, hF⟩ := h
  have hb := hok.byt nm
  refine (Read_calls base db mb s.k L D nm w h1 hnm (by rw [hr.byt]; omega)).mono ?_
  rintro r w' ⟨v, hv, ho, g1, g2⟩
  rw [kmay hr] at hv ho
  rw [hr.byt] at ho
  exact ⟨v, hv, ho, ⟨mb, L, D, g1, hr, hok, hF⟩, g2⟩
theorem Size_dk (nm : List UInt8) (h : Dk w base F db s) (hnm : nm.length ≤ 140737488351232) : Calls Tryd.prog 13 #[.pointer (some ⟨db, 0, none⟩), .string ⟨nm.toArray⟩] w fun r w' =>
    r = .returned (.tuple #[.int .i64 ((readB s nm).length : Nat), .int .i64 (s.may true [nm])]) ∧ Dk w' base F db s ∧ Upd (fun i => i = db) w w' := by
  obtain ⟨mb, L, D, h1, hr, hok, hF⟩ := h
  have hb := hok.byt nm
  refine (Size_calls base db mb s.k L D nm w h1 hnm (by rw [hr.byt]; omega)).mono ?_
  rintro r w' ⟨hv, g1, g2⟩
  rw [kmay hr, hr.byt] at hv
  exact ⟨hv, ⟨mb, L, D, g1, hr, hok, hF⟩, g2⟩
end
/-- A disk made since B, and all that was made since B is its own. -/
def DkN (w : World) (B db : Nat) (s : DS) : Prop := Dk w B (fun i => B ≤ i) db s ∧ B ≤ w.heap.size
theorem DkTo.new {w w' : World} {B db : Nat} {s : DS} (h : DkTo w w' B db (fun i => B ≤ i) s) (hB : B ≤ w.heap.size) : DkN w' B db s ∧ Below B w w' := by
  obtain ⟨F', h1, h2, h3⟩ := h
  exact ⟨⟨h1.mono (fun i hi => (h3 i hi).elim id (fun k => Nat.le_trans hB k)), Nat.le_trans hB h2.size⟩, h2.below (fun k hk _ => hk) hB⟩
theorem DkN.below {w w' : World} {B db : Nat} {s : DS} (h : DkN w B db s) (hb : Below w.heap.size w w') : DkN w' B db s := ⟨h.1.below hb, Nat.le_trans h.2 hb.size⟩
theorem DkN.upd {w w' : World} {B db : Nat} {s : DS} (h : DkN w B db s) (hd : Dk w' B (fun i => B ≤ i) db s) (hu : Upd (fun i => i = db) w w') : DkN w' B db s ∧ Below B w w' :=
  ⟨⟨hd, Nat.le_trans h.2 hu.size⟩, hu.below (fun k hk _ => by have h9 : k = db := hk; subst h9; exact h.1.at_) h.2⟩
end Go.Proofs.YtcmllfnhdodbdaaDoor
