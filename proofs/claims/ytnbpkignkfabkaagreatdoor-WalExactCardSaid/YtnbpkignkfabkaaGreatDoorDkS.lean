/- A disk as a law holds it. -/
import Derived.Test.YtnbpkignkfabkaaGreatDoorAppend
import Derived.Test.YtnbpkignkfabkaaGreatDoorText
import Derived.Test.YtnbpkignkfabkaaGreatDoorLoad
import Derived.Test.YtnbpkignkfabkaaGreatDoorCutOn
/- The disk's calls, in plain words. -/
/- disk: Off, Writes, On, Room. -/
/- disk: Arm. -/
namespace Go.Proofs.YtnbpkignkfabkaaGreatDoor
set_option linter.unusedVariables false
set_option linter.unusedSimpArgs false
open Go.RowKit Go.Maps Go.MuLone
set_option maxRecDepth 100000 in
set_option maxHeartbeats 2000000 in
theorem Arm_calls (base db mb : Nat) (k : DkV) (L : List Fl) (D : DataW Value) (n keep : Int) (w : World) (h : Dsk w base db mb 0 k L D) :
    Calls Tryz.prog 18 #[.pointer (some ⟨db, 0, none⟩), .int .i64 n, .int .i64 keep] w fun r w' => r = .returned (.tuple #[]) ∧ Dsk w' base db mb 0 { k with armed := max 0 n, keep := keep } L D ∧ Upd (fun i => i = db) w w' := by
  have H := Lib.hid h
  have h1 := h.lock 1
  have h2 := Dsk.set (m := 1) (k := k) (mb := mb) 5 (.int .i64 (max 0 n)) 1 { k with armed := max 0 n } rfl h1.blk h1.dge h1.fls
  have h3 := Dsk.set (m := 1) (k := { k with armed := max 0 n }) (mb := mb) 6 (.int .i64 keep) 1 { k with armed := max 0 n, keep := keep } rfl h2.blk h2.dge h2.fls
  have H2 := Lib.hid h3
  have U2 := Lib.hid (((upd_lock (db := db) (Below.refl w.heap.size w) (.int .i32 1)).setCell (p := ⟨db, 5, none⟩) (fun _ => rfl) (.int .i64 (max 0 n))).setCell (p := ⟨db, 6, none⟩) (fun _ => rfl) (.int .i64 keep))
  have c5' : w.cell? ⟨db, 5, none⟩ = some (.int .i64 k.armed) := h.cell 5
  have f5 := h.froz 5
  have c6' : w.cell? ⟨db, 6, none⟩ = some (.int .i64 k.keep) := h.cell 6
  have f6 := h.froz 6
  clear h h1 h2 h3
  go_enter_defers Tryz.func18, Tryz.ntmps18
  go_wp2_with fail
  refine (lock_free muLib ⟨db, 0, none⟩ _ (H.out.cell 0) (H.out.froz 0)).mono ?_
  rintro r w1 ⟨rfl, rfl⟩
  go_wp2
  refine leaves_cons (f := 55) (args := #[.pointer (some ⟨db, 0, none⟩)]) (by simp) (by simp [go_sem]) ?_
  refine (unlock_deferred muLib ⟨db, 0, none⟩ .returning _ (H2.out.cell 0) (H2.out.froz 0)).mono ?_
  rintro r u' w4 ⟨rfl, rfl, rfl⟩
  exact ⟨_, results_none rfl _ _ _, rfl, H2.out.lock 0, U2.out.setCell (fun _ => rfl) _⟩
end Go.Proofs.YtnbpkignkfabkaaGreatDoor
namespace Go.Proofs.YtnbpkignkfabkaaGreatDoor
set_option linter.unusedVariables false
set_option linter.unusedSimpArgs false
open Go.RowKit Go.Maps Go.MuLone
set_option maxRecDepth 100000 in
set_option maxHeartbeats 2000000 in
theorem Off_calls (base db mb : Nat) (k : DkV) (L : List Fl) (D : DataW Value) (w : World) (h : Dsk w base db mb 0 k L D) :
    Calls Tryz.prog 37 #[.pointer (some ⟨db, 0, none⟩)] w fun r w' => r = .returned (.bool k.off) ∧ Dsk w' base db mb 0 k L D ∧ Upd (fun i => i = db) w w' := by
  have H := Lib.hid h
  have H1 := Lib.hid (h.lock 1)
  have U1 := Lib.hid (upd_lock (db := db) (Below.refl w.heap.size w) (.int .i32 1))
  have c7 := (h.lock 1).cell 7
  rw [show (dcells 1 k mb)[7]? = some (.bool k.off) from rfl] at c7
  have c7' : w.cell? ⟨db, 7, none⟩ = some (.bool k.off) := h.cell 7
  clear h c7
  go_enter_defers Tryz.func37, Tryz.ntmps37
  go_wp2_with fail
  refine (lock_free muLib ⟨db, 0, none⟩ _ (H.out.cell 0) (H.out.froz 0)).mono ?_
  rintro r w1 ⟨rfl, rfl⟩
  go_wp2
  refine leaves_cons (f := 55) (args := #[.pointer (some ⟨db, 0, none⟩)]) (by simp) (by simp [go_sem]) ?_
  refine (unlock_deferred muLib ⟨db, 0, none⟩ .returning _ (H1.out.cell 0) (H1.out.froz 0)).mono ?_
  rintro r u' w4 ⟨rfl, rfl, rfl⟩
  exact ⟨_, results_tmp rfl _ _ _, rfl, H1.out.lock 0, U1.out.setCell (fun _ => rfl) _⟩
set_option maxRecDepth 100000 in
set_option maxHeartbeats 2000000 in
theorem Writes_calls (base db mb : Nat) (k : DkV) (L : List Fl) (D : DataW Value) (w : World) (h : Dsk w base db mb 0 k L D) :
    Calls Tryz.prog 36 #[.pointer (some ⟨db, 0, none⟩)] w fun r w' => r = .returned (.int .i64 k.writes) ∧ Dsk w' base db mb 0 k L D ∧ Upd (fun i => i = db) w w' := by
  have H := Lib.hid h
  have H1 := Lib.hid (h.lock 1)
  have U1 := Lib.hid (upd_lock (db := db) (Below.refl w.heap.size w) (.int .i32 1))
  have c8' : w.cell? ⟨db, 8, none⟩ = some (.int .i64 k.writes) := h.cell 8
  clear h
  go_enter_defers Tryz.func36, Tryz.ntmps36
  go_wp2_with fail
  refine (lock_free muLib ⟨db, 0, none⟩ _ (H.out.cell 0) (H.out.froz 0)).mono ?_
  rintro r w1 ⟨rfl, rfl⟩
  go_wp2
  refine leaves_cons (f := 55) (args := #[.pointer (some ⟨db, 0, none⟩)]) (by simp) (by simp [go_sem]) ?_
  refine (unlock_deferred muLib ⟨db, 0, none⟩ .returning _ (H1.out.cell 0) (H1.out.froz 0)).mono ?_
  rintro r u' w4 ⟨rfl, rfl, rfl⟩
  exact ⟨_, results_tmp rfl _ _ _, rfl, H1.out.lock 0, U1.out.setCell (fun _ => rfl) _⟩
set_option maxRecDepth 100000 in
set_option maxHeartbeats 2000000 in
theorem On_calls (base db mb : Nat) (k : DkV) (L : List Fl) (D : DataW Value) (w : World) (h : Dsk w base db mb 0 k L D) :
    Calls Tryz.prog 19 #[.pointer (some ⟨db, 0, none⟩)] w fun r w' => r = .returned (.tuple #[]) ∧ Dsk w' base db mb 0 { k with off := false } L D ∧ Upd (fun i => i = db) w w' := by
  have H := Lib.hid h
  have h1 := h.lock 1
  have h2 := Dsk.set (m := 1) (k := k) (mb := mb) 7 (.bool false) 1 { k with off := false } rfl h1.blk h1.dge h1.fls
  have H2 := Lib.hid h2
  have U2 := Lib.hid ((upd_lock (db := db) (Below.refl w.heap.size w) (.int .i32 1)).setCell (p := ⟨db, 7, none⟩) (fun _ => rfl) (.bool false))
  have c7' : w.cell? ⟨db, 7, none⟩ = some (.bool k.off) := h.cell 7
  have f7 := h.froz 7
  clear h h1 h2
  go_enter_defers Tryz.func19, Tryz.ntmps19
  go_wp2_with fail
  refine (lock_free muLib ⟨db, 0, none⟩ _ (H.out.cell 0) (H.out.froz 0)).mono ?_
  rintro r w1 ⟨rfl, rfl⟩
  go_wp2
  refine leaves_cons (f := 55) (args := #[.pointer (some ⟨db, 0, none⟩)]) (by simp) (by simp [go_sem]) ?_
  refine (unlock_deferred muLib ⟨db, 0, none⟩ .returning _ (H2.out.cell 0) (H2.out.froz 0)).mono ?_
  rintro r u' w4 ⟨rfl, rfl, rfl⟩
  exact ⟨_, results_none rfl _ _ _, rfl, H2.out.lock 0, U2.out.setCell (fun _ => rfl) _⟩
end Go.Proofs.YtnbpkignkfabkaaGreatDoor
/- disk: Size. -/
/- disk: Read. -/
namespace Go.Proofs.YtnbpkignkfabkaaGreatDoor
set_option linter.unusedVariables false
set_option linter.unusedSimpArgs false
open Go.RowKit Go.Maps Go.MuLone
/-- What Read comes to: the file's bytes in a row of their own, or an error. -/
def ReadP (w w' : World) (base db mb : Nat) (k : DkV) (L : List Fl) (D : DataW Value) (nm : List UInt8) (r : Ending) : Prop :=
  ∃ v, r = .returned (.tuple #[v, .int .i64 (mayR k.off L true [nm])]) ∧ (let t := if mayR k.off L true [nm] = 0 then bytF L nm else []; Own w' w.heap.size 5 1 v t.length (bys t)) ∧ Dsk w' base db mb 0 k L D ∧ Upd (fun i => i = db) w w'
set_option maxRecDepth 100000 in
set_option maxHeartbeats 4000000 in
theorem Read_calls (base db mb : Nat) (k : DkV) (L : List Fl) (D : DataW Value) (nm : List UInt8) (w : World) (h : Dsk w base db mb 0 k L D) (hnm : nm.length ≤ 140737488351232) (hlen : (bytF L nm).length ≤ 140737488355328) :
    Calls Tryz.prog 49 #[.pointer (some ⟨db, 0, none⟩), .string ⟨nm.toArray⟩] w fun r w' => ReadP w w' base db mb k L D nm r := by
  have hlt := h.lt
  have h1 := h.lock 1
  have z0 : (w.setCell ⟨db, 0, none⟩ (.int .i32 1)).heap.size = w.heap.size := by simp [World.setCell]
  have h2 := h1.below ((Below.refl _ _).alloc (Nat.le_refl _) (.cells #[.string ⟨nm.toArray⟩] 9))
  have MC := may_calls base db mb 1 k L D true w.heap.size 1 [nm] _ h2 (fun i hi => by
    have hi' : i = 0 := by simp at hi; exact hi
    subst hi'
    have hh := heap_alloc_new (w.setCell ⟨db, 0, none⟩ (.int .i32 1)) (.cells #[.string ⟨nm.toArray⟩] 9)
    rw [z0] at hh
    rw [cell_of_row' hh]; rfl) (by simp) (by simp) (fun x hx => by rw [List.mem_singleton] at hx; rw [hx]; exact hnm)
  rw [show [nm].length = 1 from rfl] at MC
  have MCH := Lib.hid MC
  have H := Lib.hid h; have H2 := Lib.hid h2
  have HS := Lib.hid (show w.heap.size ≤ ((w.setCell ⟨db, 0, none⟩ (.int .i32 1)).alloc (.cells #[.string ⟨nm.toArray⟩] 9)).heap.size by rw [World.size_alloc, z0]; omega)
  have U2 := Lib.hid ((upd_lock (db := db) (Below.refl w.heap.size w) (.int .i32 1)).alloc (.cells #[.string ⟨nm.toArray⟩] 9))
  have NM : Hid (nm.length ≤ maxLen) := by show _ ≤ _; unfold maxLen; omega
  have HLEN := Lib.hid hlen
  clear hnm MC h1 h2 h z0 hlen
  unfold ReadP
  obtain ⟨e, he⟩ : ∃ e, mayR k.off L true [nm] = e := ⟨_, rfl⟩
  rw [he] at MCH ⊢
  clear he
  by_cases c : e = 0
  · subst c
    have te : ((0 : Int) != 0) = false := rfl
    rw [if_pos rfl]
    obtain ⟨t, ht⟩ : ∃ t, bytF L nm = t := ⟨_, rfl⟩
    rw [ht]
    have HT := Lib.hid ht
    clear ht
    go_enter_defers Tryz.func49, Tryz.ntmps49
    go_wp2_with fail
    refine (lock_free muLib ⟨db, 0, none⟩ _ (H.out.cell 0) (H.out.froz 0)).mono ?_
    rintro r w1 ⟨rfl, rfl⟩
    go_wp2_with fail
    refine MCH.out.mono ?_
    rintro r w3 ⟨rfl, hb3⟩
    have H3 := Lib.hid (H2.out.below hb3)
    have U3 := Lib.hid (U2.out.same ((Upd.ofBelow hb3).mono (fun _ s _ => s.elim)))
    have S3 := Lib.hid (Nat.le_trans HS.out hb3.size)
    clear hb3
    obtain ⟨VO, -, -⟩ := H3.out.fls.val_own nm
    obtain ⟨va, vc, hv, -, -, hy, -, -⟩ := own_val VO
    have lk := H3.out.fls.look nm NM.out
    rw [HT.out] at hv hy
    rw [hv] at lk
    have c4 : w3.cell? ⟨db, 4, none⟩ = some (.map (some mb)) := H3.out.cell 4
    have CC := Lib.hid (Clone_calls va vc t w3 hy (by rw [← HT.out]; exact HLEN.out))
    clear VO hv hy
    go_wp2_with fail
    refine CC.out.mono ?_
    rintro r w4 ⟨v4, rfl, ho4, hb4⟩
    have O4 := Lib.hid (ho4.rebase (base' := w.heap.size) (fun k hk => Nat.le_trans S3.out (ho4.lt k hk).1))
    have V4 := Lib.hid (fun k hk => (ho4.lt k hk).1)
    have H4 := Lib.hid (H3.out.below hb4)
    have U4 := Lib.hid (U3.out.same ((Upd.ofBelow hb4).mono (fun _ s _ => s.elim)))
    clear ho4 hb4 lk
    go_wp2
    refine leaves_cons (f := 55) (args := #[.pointer (some ⟨db, 0, none⟩)]) (by simp) (by simp [go_sem]) ?_
    refine (unlock_deferred muLib ⟨db, 0, none⟩ .returning _ (H4.out.cell 0) (H4.out.froz 0)).mono ?_
    rintro r u' w5 ⟨rfl, rfl, rfl⟩
    exact ⟨_, results_tmp2 rfl _ _ _, v4, rfl, O4.out.setCell_other (a := ⟨db, 0, none⟩) (fun s => by have h9 : w3.heap.size ≤ db := V4.out db s; have := S3.out; omega) _, H4.out.lock 0, U4.out.setCell (fun _ => rfl) _⟩
  · have te : (e != 0) = true := by rw [bne_iff_ne]; exact c
    rw [if_neg c]
    clear c
    go_enter_defers Tryz.func49, Tryz.ntmps49
    go_wp2_with fail
    refine (lock_free muLib ⟨db, 0, none⟩ _ (H.out.cell 0) (H.out.froz 0)).mono ?_
    rintro r w1 ⟨rfl, rfl⟩
    go_wp2_with fail
    refine MCH.out.mono ?_
    rintro r w3 ⟨rfl, hb3⟩
    have H3 := Lib.hid (H2.out.below hb3)
    have U3 := Lib.hid (U2.out.same ((Upd.ofBelow hb3).mono (fun _ s _ => s.elim)))
    clear hb3
    go_wp2
    refine leaves_cons (f := 55) (args := #[.pointer (some ⟨db, 0, none⟩)]) (by simp) (by simp [go_sem]) ?_
    refine (unlock_deferred muLib ⟨db, 0, none⟩ .returning _ (H3.out.cell 0) (H3.out.froz 0)).mono ?_
    rintro r u' w5 ⟨rfl, rfl, rfl⟩
    exact ⟨_, results_tmp2 rfl _ _ _, .slice none 0 0, rfl, Own.nil _ _ _ _, H3.out.lock 0, U3.out.setCell (fun _ => rfl) _⟩
end Go.Proofs.YtnbpkignkfabkaaGreatDoor
namespace Go.Proofs.YtnbpkignkfabkaaGreatDoor
set_option linter.unusedVariables false
set_option linter.unusedSimpArgs false
open Go.RowKit Go.Maps
def SizeP (w w' : World) (base db mb : Nat) (k : DkV) (L : List Fl) (D : DataW Value) (nm : List UInt8) (r : Ending) : Prop :=
  r = .returned (.tuple #[.int .i64 ((if mayR k.off L true [nm] = 0 then bytF L nm else []).length : Nat), .int .i64 (mayR k.off L true [nm])]) ∧ Dsk w' base db mb 0 k L D ∧ Upd (fun i => i = db) w w'
end Go.Proofs.YtnbpkignkfabkaaGreatDoor
namespace Go.Proofs.YtnbpkignkfabkaaGreatDoor
set_option linter.unusedVariables false
set_option linter.unusedSimpArgs false
open Go.RowKit Go.Maps
theorem Fil.nil (w : World) (a : Option Addr) : Fil w a [] := fun i h => absurd h (Nat.not_lt_zero _)
set_option maxRecDepth 100000 in
set_option maxHeartbeats 1000000 in
theorem NewK_calls (room : Int) (w : World) : Calls Tryz.prog 5 #[.int .i64 room] w fun r w' => LoadP w w' room [] r := by
  have LC := Lib.hid (Load_calls room [] none 0 w (Fil.nil w none) (fun _ h => by cases h) (Nat.zero_le _))
  unfold LoadP
  unfold LoadP at LC
  obtain ⟨⟨e, so⟩, he⟩ : ∃ q, loadR room [] = q := ⟨_, rfl⟩
  rw [he] at LC ⊢
  clear he
  cases so with
  | none =>
    go_enter Tryz.func5, Tryz.ntmps5
    go_wp2_with fail
    refine LC.out.mono ?_
    rintro r w1 ⟨rfl, hb⟩
    have HB := Lib.hid hb
    clear hb
    go_wp2
    go_ret2
    exact ⟨rfl, HB.out⟩
  | some s =>
    go_enter Tryz.func5, Tryz.ntmps5
    go_wp2_with fail
    refine LC.out.mono ?_
    rintro r w1 ⟨db, rfl, hd, hb⟩
    have HD := Lib.hid hd; have HB := Lib.hid hb
    clear hd hb
    go_wp2
    go_ret2
    exact ⟨db, rfl, HD.out, HB.out⟩
section
variable {base db : Nat} {F : Nat → Prop} {s : DS} {w : World}
theorem Arm_dk (n keep : Int) (h : Dk w base F db s) (hn : n ≤ 9223372036854775807) : Calls Tryz.prog 18 #[.pointer (some ⟨db, 0, none⟩), .int .i64 n, .int .i64 keep] w fun r w' => r = .returned (.tuple #[]) ∧ DkTo w w' base db F (s.arm n keep) := by
  obtain ⟨mb, L, D, h1, hr, hok, hF⟩ := h
  refine (Arm_calls base db mb s.k L D n keep w h1).mono ?_
  rintro r w' ⟨rfl, g1, g2⟩
  exact ⟨rfl, DkTo.same (s := s) hF g1 hr (hok.arm n keep hn) g2⟩
theorem Off_dk (h : Dk w base F db s) : Calls Tryz.prog 37 #[.pointer (some ⟨db, 0, none⟩)] w fun r w' => r = .returned (.bool s.off) ∧ DkTo w w' base db F s := by
  obtain ⟨mb, L, D, h1, hr, hok, hF⟩ := h
  refine (Off_calls base db mb s.k L D w h1).mono ?_
  rintro r w' ⟨rfl, g1, g2⟩
  exact ⟨rfl, DkTo.same (s := s) hF g1 hr hok g2⟩
theorem On_dk (h : Dk w base F db s) : Calls Tryz.prog 19 #[.pointer (some ⟨db, 0, none⟩)] w fun r w' => r = .returned (.tuple #[]) ∧ DkTo w w' base db F s.on := by
  obtain ⟨mb, L, D, h1, hr, hok, hF⟩ := h
  refine (On_calls base db mb s.k L D w h1).mono ?_
  rintro r w' ⟨rfl, g1, g2⟩
  exact ⟨rfl, DkTo.same (s := s) hF g1 hr hok.on g2⟩
theorem Writes_dk (h : Dk w base F db s) : Calls Tryz.prog 36 #[.pointer (some ⟨db, 0, none⟩)] w fun r w' => r = .returned (.int .i64 (s.writes : Int)) ∧ DkTo w w' base db F s := by
  obtain ⟨mb, L, D, h1, hr, hok, hF⟩ := h
  refine (Writes_calls base db mb s.k L D w h1).mono ?_
  rintro r w' ⟨rfl, g1, g2⟩
  exact ⟨rfl, DkTo.same (s := s) hF g1 hr hok g2⟩
def readB (s : DS) (nm : List UInt8) : List UInt8 := if s.may true [nm] = 0 then bytC s.C nm else []
theorem Read_dk (nm : List UInt8) (h : Dk w base F db s) (hnm : nm.length ≤ 140737488351232) : Calls Tryz.prog 49 #[.pointer (some ⟨db, 0, none⟩), .string ⟨nm.toArray⟩] w fun r w' =>
    ∃ v, r = .returned (.tuple #[v, .int .i64 (s.may true [nm])]) ∧ Own w' w.heap.size 5 1 v (readB s nm).length (bys (readB s nm)) ∧ Dk w' base F db s ∧ Upd (fun i => i = db) w w' := by
  obtain ⟨mb, L, D, h1, hr, hok, hF⟩ := h
  have hb := hok.byt nm
  refine (Read_calls base db mb s.k L D nm w h1 hnm (by rw [hr.byt]; omega)).mono ?_
  rintro r w' ⟨v, hv, ho, g1, g2⟩
  rw [kmay hr] at hv ho
  rw [hr.byt] at ho
  exact ⟨v, hv, ho, ⟨mb, L, D, g1, hr, hok, hF⟩, g2⟩
end
/-- A disk made since B, and all that was made since B is its own. -/
def DkN (w : World) (B db : Nat) (s : DS) : Prop := Dk w B (fun i => B ≤ i) db s ∧ B ≤ w.heap.size
theorem DkTo.new {w w' : World} {B db : Nat} {s : DS} (h : DkTo w w' B db (fun i => B ≤ i) s) (hB : B ≤ w.heap.size) : DkN w' B db s ∧ Below B w w' := by
  obtain ⟨F', h1, h2, h3⟩ := h
  exact ⟨⟨h1.mono (fun i hi => (h3 i hi).elim id (fun k => Nat.le_trans hB k)), Nat.le_trans hB h2.size⟩, h2.below (fun k hk _ => hk) hB⟩
theorem DkN.below {w w' : World} {B db : Nat} {s : DS} (h : DkN w B db s) (hb : Below w.heap.size w w') : DkN w' B db s := ⟨h.1.below hb, Nat.le_trans h.2 hb.size⟩
theorem DkN.upd {w w' : World} {B db : Nat} {s : DS} (h : DkN w B db s) (hd : Dk w' B (fun i => B ≤ i) db s) (hu : Upd (fun i => i = db) w w') : DkN w' B db s ∧ Below B w w' :=
  ⟨⟨hd, Nat.le_trans h.2 hu.size⟩, hu.below (fun k hk _ => by have h9 : k = db := hk; subst h9; exact h.1.at_) h.2⟩
end Go.Proofs.YtnbpkignkfabkaaGreatDoor
namespace Go.Proofs.YtnbpkignkfabkaaGreatDoor
set_option linter.unusedVariables false
set_option linter.unusedSimpArgs false
open Go.RowKit Go.Maps
/-- A disk that was made since B, as a law holds it. -/
structure DkS (w : World) (B db : Nat) (F : Nat → Prop) (s : DS) : Prop where
  dk : Dk w B F db s
  fl : ∀ i, F i → B ≤ i ∧ i < w.heap.size
  bw : B ≤ w.heap.size
def DkStep (w w' : World) (B db : Nat) (F : Nat → Prop) (s : DS) : Prop := ∃ F', DkS w' B db F' s ∧ Upd F w w' ∧ Below B w w' ∧ ∀ i, F' i → F i ∨ w.heap.size ≤ i
theorem DkS.step {w w' : World} {B db : Nat} {F : Nat → Prop} {s s' : DS} (h : DkS w B db F s) (hd : DkTo w w' B db F s') : DkStep w w' B db F s' := by
  obtain ⟨F', h1, h2, h3⟩ := hd
  exact ⟨fun i => F' i ∧ B ≤ i ∧ i < w'.heap.size, ⟨h1.cut, fun i hi => hi.2, Nat.le_trans h.bw h2.size⟩, h2, h2.below (fun k hk _ => (h.fl k hk).1) h.bw, fun i hi => h3 i hi.1⟩
theorem DkS.below {w w' : World} {B db : Nat} {F : Nat → Prop} {s : DS} (h : DkS w B db F s) (hb : Below w.heap.size w w') : DkS w' B db F s := ⟨h.dk.below hb, fun i hi => ⟨(h.fl i hi).1, Nat.lt_of_lt_of_le (h.fl i hi).2 hb.size⟩, Nat.le_trans h.bw hb.size⟩
theorem DkS.upd {w w' : World} {B db : Nat} {F S : Nat → Prop} {s : DS} (h : DkS w B db F s) (hu : Upd S w w') (hs : ∀ i, S i → ¬ F i) : DkS w' B db F s := ⟨h.dk.upd hu hs, fun i hi => ⟨(h.fl i hi).1, Nat.lt_of_lt_of_le (h.fl i hi).2 hu.size⟩, Nat.le_trans h.bw hu.size⟩
theorem DkN.s {w : World} {B db : Nat} {s : DS} (h : DkN w B db s) : ∃ F, DkS w B db F s ∧ ∀ i, F i → B ≤ i :=
  ⟨fun i => B ≤ i ∧ B ≤ i ∧ i < w.heap.size, ⟨h.1.cut, fun i hi => hi.2, h.2⟩, fun i hi => hi.1⟩
/-- An answer of Read. -/
theorem DkS.read {w w' : World} {B db : Nat} {F : Nat → Prop} {s : DS} (h : DkS w B db F s) (hd : Dk w' B F db s) (hu : Upd (fun i => i = db) w w') : DkS w' B db F s ∧ Upd F w w' ∧ Below B w w' := by
  have hu' : Upd F w w' := hu.mono (fun i hi _ => by rw [hi]; exact h.dk.at_)
  exact ⟨⟨hd, fun i hi => ⟨(h.fl i hi).1, Nat.lt_of_lt_of_le (h.fl i hi).2 hu.size⟩, Nat.le_trans h.bw hu.size⟩, hu', hu'.below (fun k hk _ => (h.fl k hk).1) h.bw⟩
/-- New, as a law sees it. -/
theorem new_s {w w' : World} {room : Nat} {r : Ending} (h1 : 1 ≤ room) (h2 : room ≤ 268435456) (h : LoadP w w' (room : Int) [] r) : ∃ db F, r = .returned (.tuple #[.pointer (some ⟨db, 0, none⟩), .int .i64 0]) ∧ DkS w' w.heap.size db F (DS.new room) ∧ Below w.heap.size w w' := by
  have e : loadR (room : Int) [] = (0, some (DS.new room)) := by
    unfold loadR
    rw [if_neg (by omega), if_neg (by simp)]
    rw [Int.toNat_natCast]
    rfl
  unfold LoadP at h
  rw [e] at h
  obtain ⟨db, g1, g2, g3⟩ := h
  exact ⟨db, _, g1, ⟨g2.cut, fun i hi => hi.2, g3.size⟩, g3⟩
theorem ds_new (room : Nat) : DS.new room = ⟨room, [], 0, 0, false, 0⟩ := rfl
theorem DkS.arm {w : World} {B db : Nat} {F : Nat → Prop} {s : DS} (h : DkS w B db F s) (n keep : Int) (hn : n ≤ 9223372036854775807) : Calls Tryz.prog 18 #[.pointer (some ⟨db, 0, none⟩), .int .i64 n, .int .i64 keep] w fun r w' => r = .returned (.tuple #[]) ∧ DkStep w w' B db F (s.arm n keep) :=
  (Arm_dk n keep h.dk hn).mono fun _ _ hr => ⟨hr.1, h.step hr.2⟩
theorem DkS.on {w : World} {B db : Nat} {F : Nat → Prop} {s : DS} (h : DkS w B db F s) : Calls Tryz.prog 19 #[.pointer (some ⟨db, 0, none⟩)] w fun r w' => r = .returned (.tuple #[]) ∧ DkStep w w' B db F s.on :=
  (On_dk h.dk).mono fun _ _ hr => ⟨hr.1, h.step hr.2⟩
theorem DkS.offq {w : World} {B db : Nat} {F : Nat → Prop} {s : DS} (h : DkS w B db F s) : Calls Tryz.prog 37 #[.pointer (some ⟨db, 0, none⟩)] w fun r w' => r = .returned (.bool s.off) ∧ DkStep w w' B db F s :=
  (Off_dk h.dk).mono fun _ _ hr => ⟨hr.1, h.step hr.2⟩
end Go.Proofs.YtnbpkignkfabkaaGreatDoor
