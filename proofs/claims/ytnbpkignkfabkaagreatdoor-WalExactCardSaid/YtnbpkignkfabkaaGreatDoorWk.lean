/- What a write leaves of a disk, in plain words. -/
import Derived.Test.YtnbpkignkfabkaaGreatDoorAppend
import Derived.Deep.CutBlock
import Derived.Laws.EntriesVeiled
import Derived.Deep.DeepCutAuto
import Derived.Test.YtnbpkignkfabkaaGreatDoorFls3
import Derived.StillTailTactics
import Derived.Test.YtnbpkignkfabkaaGreatDoorRep
/- (*disk.Disk).Append, where may does not refuse it. -/
namespace Go.Proofs.YtnbpkignkfabkaaGreatDoor
set_option linter.unusedVariables false
set_option linter.unusedSimpArgs false
open Go.RowKit Go.Maps Go.MuLone
/-- What a call has made of its parameters, and the lock: the world behind them. -/
def boxW (db : Nat) (nm b : List UInt8) (ba : Option Addr) (bc : Nat) (w : World) : World :=
  ((w.alloc (.cells #[.pointer (some ⟨db, 0, none⟩)] 26)).alloc (.cells #[.string ⟨nm.toArray⟩] 9)).alloc (.cells #[.slice ba b.length bc] 74)
theorem boxW_below (db : Nat) (nm b : List UInt8) (ba : Option Addr) (bc : Nat) (w : World) : Below w.heap.size w (boxW db nm b ba bc w) := (((Below.refl _ w).alloc (Nat.le_refl _) _).alloc (by simp) _).alloc (by simp; omega) _
theorem boxW_size (db : Nat) (nm b : List UInt8) (ba : Option Addr) (bc : Nat) (w : World) : (boxW db nm b ba bc w).heap.size = w.heap.size + 1 + 1 + 1 := by unfold boxW; rw [World.size_alloc, World.size_alloc, World.size_alloc]
theorem boxW_cells (db : Nat) (nm b : List UInt8) (ba : Option Addr) (bc : Nat) (w : World) :
    (boxW db nm b ba bc w).cell? ⟨w.heap.size, 0, none⟩ = some (.pointer (some ⟨db, 0, none⟩)) ∧ (boxW db nm b ba bc w).cell? ⟨w.heap.size + 1, 0, none⟩ = some (.string ⟨nm.toArray⟩) ∧ (boxW db nm b ba bc w).cell? ⟨w.heap.size + 1 + 1, 0, none⟩ = some (.slice ba b.length bc) := by
  unfold boxW
  refine ⟨?_, ?_, ?_⟩
  · rw [cell_of_row' ((Below.heap_alloc _ _ _ (by rw [World.size_alloc, World.size_alloc]; omega)).trans ((Below.heap_alloc _ _ _ (by rw [World.size_alloc]; omega)).trans (heap_alloc_new w _)))]; rfl
  · have hh := heap_alloc_new (w.alloc (.cells #[.pointer (some ⟨db, 0, none⟩)] 26)) (.cells #[.string ⟨nm.toArray⟩] 9)
    rw [World.size_alloc] at hh
    rw [cell_of_row' ((Below.heap_alloc _ _ _ (by rw [World.size_alloc, World.size_alloc]; omega)).trans hh)]; rfl
  · have hh := heap_alloc_new ((w.alloc (.cells #[.pointer (some ⟨db, 0, none⟩)] 26)).alloc (.cells #[.string ⟨nm.toArray⟩] 9)) (.cells #[.slice ba b.length bc] 74)
    rw [World.size_alloc, World.size_alloc] at hh
    rw [cell_of_row' hh]; rfl
/-- Behind the look-up: what stood there, in boxes. -/
def Got6 (w wx : World) (va : Option Addr) (vl vc : Nat) (hx : Bool) (v8 v9 : Value) : Prop :=
  ∃ wa ta, v8 = .pointer (some ⟨wa, 0, none⟩) ∧ v9 = .pointer (some ⟨ta, 0, none⟩) ∧ wx.cell? ⟨wa, 0, none⟩ = some (.slice va vl vc) ∧ wx.cell? ⟨ta, 0, none⟩ = some (.bool hx) ∧ w.heap.size ≤ wa ∧ w.heap.size ≤ ta ∧ Below w.heap.size w wx
theorem got6_a (w : World) (va : Option Addr) (vl vc : Nat) (hx : Bool) : Got6 w ((w.alloc (.cells #[.slice va vl vc] 74)).alloc (.cells #[.bool hx] 4)).drew va vl vc hx (.pointer (some ⟨w.heap.size, 0, none⟩)) (.pointer (some ⟨w.heap.size + 1, 0, none⟩)) := by
  refine ⟨_, _, rfl, rfl, ?_, ?_, Nat.le_refl _, Nat.le_succ _, bel_drewN (((Below.refl _ _).alloc (Nat.le_refl _) _).alloc (by simp) _) 1⟩
  · show World.cell? ((w.alloc _).alloc _) _ = _
    rw [cell_of_row' ((Below.heap_alloc _ _ _ (by rw [World.size_alloc]; omega)).trans (heap_alloc_new w _))]; rfl
  · have hh := heap_alloc_new (w.alloc (.cells #[.slice va vl vc] 74)) (.cells #[.bool hx] 4)
    rw [World.size_alloc] at hh
    show World.cell? ((w.alloc _).alloc _) _ = _
    rw [cell_of_row' hh]; rfl
theorem got6_b (w : World) (va : Option Addr) (vl vc : Nat) (hx : Bool) : Got6 w ((w.alloc (.cells #[.bool hx] 4)).alloc (.cells #[.slice va vl vc] 74)).drew va vl vc hx (.pointer (some ⟨w.heap.size + 1, 0, none⟩)) (.pointer (some ⟨w.heap.size, 0, none⟩)) := by
  refine ⟨_, _, rfl, rfl, ?_, ?_, Nat.le_succ _, Nat.le_refl _, bel_drewN (((Below.refl _ _).alloc (Nat.le_refl _) _).alloc (by simp) _) 1⟩
  · have hh := heap_alloc_new (w.alloc (.cells #[.bool hx] 4)) (.cells #[.slice va vl vc] 74)
    rw [World.size_alloc] at hh
    show World.cell? ((w.alloc _).alloc _) _ = _
    rw [cell_of_row' hh]; rfl
  · show World.cell? ((w.alloc _).alloc _) _ = _
    rw [cell_of_row' ((Below.heap_alloc _ _ _ (by rw [World.size_alloc]; omega)).trans (heap_alloc_new w _))]; rfl
theorem upd_to {S : Nat → Prop} {a b c d : World} {B : Nat} (h : Upd S a b) (k : Upd S b c) (hb : Below B c d) (hB : B = c.heap.size) : Upd S a d := by
  subst hB
  exact (h.same k).same ((Upd.ofBelow hb).mono (fun _ s _ => s.elim))
def appFull (k : DkV) (L : List Fl) (nm b : List UInt8) : Bool := decide ((hasF L nm = false ∧ 64 ≤ L.length) ∨ k.room - k.used < (b.length : Int))
/-- What of the bytes is laid: all, a part, or (none) nothing. -/
def appLaid (k : DkV) (L : List Fl) (nm b : List UInt8) : Option (List UInt8) :=
  if k.armed = 1 then (if hasF L nm = true ∨ 0 < k.keep then some (kept b k.keep) else none) else some b
/-- Bytes do not lie among a disk's own numbers. -/
theorem byt_not_db {w : World} {base db mb : Nat} {m : Int} {k : DkV} {L : List Fl} {D : DataW Value} (h : Dsk w base db mb m k L D) {ba : Option Addr} {b : List UInt8} (hb : Byt w ba b) : ∀ ad, ba = some ad → b ≠ [] → ¬ ad.block = db := by
  rintro ad rfl hne e
  obtain ⟨g, o, e2, hc⟩ := hb 0 (by cases b; exact absurd rfl hne; simp)
  cases e2
  have e' : g = db := e
  subst e'
  rw [h.cell (o + 0)] at hc
  have hlt := (Array.getElem?_eq_some_iff.1 hc).1
  have hs : (dcells m k mb).size = 9 := rfl
  rw [hs] at hlt
  have : o = 0 ∨ o = 1 ∨ o = 2 ∨ o = 3 ∨ o = 4 ∨ o = 5 ∨ o = 6 ∨ o = 7 ∨ o = 8 := by omega
  rcases this with rfl | rfl | rfl | rfl | rfl | rfl | rfl | rfl | rfl <;> (unfold dcells at hc; simp at hc)
/-- What the files are behind an Append that was not refused. -/
def AppS (k : DkV) (L : List Fl) (nm b : List UInt8) (k' : DkV) (L' : List Fl) : Prop :=
  match appLaid k L nm b with
  | none => k' = wrK k ∧ L' = L
  | some x => k' = { wrK k with used := k.used + x.length } ∧ ∃ a c, L' = putF L ⟨nm, bytF L nm ++ x, a, c⟩
def AppW (w w' : World) (base db mb : Nat) (m : Int) (k : DkV) (L : List Fl) (nm b : List UInt8) (r : Ending) : Prop :=
  r = .returned (.int .i64 (if k.armed = 1 then 94 else 0)) ∧ ∃ k' L' D', Dsk w' base db mb m k' L' D' ∧ Upd (DkF db mb L) w w' ∧ (∀ i, DkF db mb L' i → DkF db mb L i ∨ w.heap.size ≤ i) ∧ AppS k L nm b k' L'
theorem layF_to {w w1 w' : World} {base db mb : Nat} {m : Int} {k : DkV} {L : List Fl} {D : DataW Value} {nm x : List UInt8} (h : Dsk w base db mb m k L D) (hu : Upd (fun i => i = db) w w1) (hl : LayF w1 w' base db mb m (wrK k) L D nm x) :
    ∃ k' L' D', Dsk w' base db mb m k' L' D' ∧ Upd (DkF db mb L) w w' ∧ (∀ i, DkF db mb L' i → DkF db mb L i ∨ w.heap.size ≤ i) ∧ k' = { wrK k with used := k.used + x.length } ∧ ∃ a c, L' = putF L ⟨nm, bytF L nm ++ x, a, c⟩ := by
  obtain ⟨a, c, h1, h2, h3⟩ := hl
  have hv := (h.fls.val_own nm).2.2
  refine ⟨_, _, _, h1, ?_, ?_, rfl, a, c, rfl⟩
  · refine hu.trans h2 (fun i s _ => .inl s) ?_
    rintro i (s | s | s) _
    · exact .inl s
    · exact .inr (.inl s)
    · exact .inr (hv i s)
  · rintro i (s | s | ⟨f, hf, s⟩)
    · exact .inl (.inl s)
    · exact .inl (.inr (.inl s))
    · rcases mem_putF.1 hf with ⟨hf, _⟩ | rfl
      · exact .inl (.inr (.inr ⟨f, hf, s⟩))
      · rcases h3 i s with k | k
        · exact .inl (.inr (hv i k))
        · exact .inr (Nat.le_trans hu.size k)
set_option maxRecDepth 100000 in
set_option maxHeartbeats 1000000 in
/-- The write of an Append. -/
theorem Append_w (base db mb : Nat) (m : Int) (k : DkV) (L : List Fl) (D : DataW Value) (nm b : List UInt8) (ba : Option Addr) (bc : Nat) (w : World) (wa da na la bp ta : Nat) (h : Dsk w base db mb m k L D) (hb : Byt w ba b) (hbc : b.length ≤ bc)
    (ha : w.cell? ⟨wa, 0, none⟩ = some (valF L nm)) (hd : w.cell? ⟨da, 0, none⟩ = some (.pointer (some ⟨db, 0, none⟩))) (hn : w.cell? ⟨na, 0, none⟩ = some (.string ⟨nm.toArray⟩)) (hl : w.cell? ⟨la, 0, none⟩ = some (layV wa da na)) (hp : w.cell? ⟨bp, 0, none⟩ = some (.slice ba b.length bc)) (ht : w.cell? ⟨ta, 0, none⟩ = some (.bool (hasF L nm)))
    (na' : ¬ DkF db mb L wa) (nd : ¬ DkF db mb L da) (nn : ¬ DkF db mb L na) (nl : ¬ DkF db mb L la) (np : ¬ DkF db mb L bp) (nt : ¬ DkF db mb L ta)
    (hnm : nm.length ≤ 140737488351232) (hu : 0 ≤ k.used ∧ k.used ≤ k.room ∧ k.room ≤ 268435456) (hbl : b.length ≤ 268435456) (hL : L.length ≤ 64) (hlen : (bytF L nm).length ≤ 268435456) (hwr : k.writes ≤ 4611686018427387904 ∧ -4611686018427387904 ≤ k.writes) (har : k.armed ≤ 9223372036854775807 ∧ -9223372036854775808 ≤ k.armed) :
    Calls Tryz.prog 110 #[.pointer (some ⟨db, 0, none⟩), .func (.func 111) #[] #[.pointer (some ⟨la, 0, none⟩), .pointer (some ⟨bp, 0, none⟩)], .func (.func 112) #[] #[.pointer (some ⟨ta, 0, none⟩), .pointer (some ⟨la, 0, none⟩), .pointer (some ⟨bp, 0, none⟩)]] w fun r w' => AppW w w' base db mb m k L nm b r := by
  have up : ∀ {w1 : World}, Upd (fun i => i = db) w w1 → ∀ {p : Nat} {y : Value}, w.cell? ⟨p, 0, none⟩ = some y → ¬ DkF db mb L p → w1.cell? ⟨p, 0, none⟩ = some y := fun hu p y hy hn => hu.cell' hy (fun s => hn (.inl s))
  have cap : ∀ {w1 : World}, Upd (fun i => i = db) w w1 → Cap w1 db mb L nm wa da na := fun hu => ⟨up hu ha na', up hu hd nd, up hu hn nn, nd, nn, na'⟩
  have hk : (wrK k).used = k.used := rfl
  have byt : ∀ {w1 : World}, Upd (fun i => i = db) w w1 → Byt w1 ba b := fun hu => hb.upd hu (byt_not_db h hb)
  refine (write_calls base db mb m k L D 111 112 #[.pointer (some ⟨la, 0, none⟩), .pointer (some ⟨bp, 0, none⟩)] #[.pointer (some ⟨ta, 0, none⟩), .pointer (some ⟨la, 0, none⟩), .pointer (some ⟨bp, 0, none⟩)]
    (fun w1 w' => LayF w1 w' base db mb m (wrK k) L D nm b) (fun w1 w' => if hasF L nm = true ∨ 0 < k.keep then LayF w1 w' base db mb m (wrK k) L D nm (kept b k.keep) else w1 = w') w h hwr har
    (fun xs w' => Tryz.call111 xs w') (fun xs w' => Tryz.call112 xs w') ?_ ?_).mono ?_
  · intro _ w1 h1 hu1
    exact all_calls base db mb m (wrK k) L D nm b ba bc wa da na la bp w1 h1 (cap hu1) (byt hu1) (up hu1 hl nl) (up hu1 hp np) hnm (by omega) (by omega) (by rw [hk]; omega)
  · intro _ w1 h1 hu1
    by_cases c : hasF L nm = true ∨ 0 < k.keep
    · refine (part_yes base db mb m (wrK k) L D nm b k.keep ba bc wa da na la bp ta (hasF L nm) w1 h1 (cap hu1) (byt hu1) (up hu1 hl nl) (up hu1 hp np) (up hu1 ht nt) hbc (by omega) c nl np hnm (by omega) (by omega) (by rw [hk]; omega)).mono ?_
      rintro r w' ⟨hr, hq⟩
      exact ⟨hr, by rw [if_pos c]; exact hq⟩
    · have ht' := up hu1 ht nt
      have c1 : hasF L nm = false := by cases e : hasF L nm; rfl; exact absurd (.inl e) c
      rw [c1] at ht'
      refine (part_no k.keep la bp ta w1 ht' (fun s => c (.inr s))).mono ?_
      rintro r w' ⟨hr, hq⟩
      exact ⟨hr, by rw [if_neg c]; exact hq⟩
  · rintro r w' ⟨hr, w1, hu1, h1, hq⟩
    refine ⟨hr, ?_⟩
    unfold AppS appLaid
    by_cases c : k.armed = 1
    · rw [if_pos c] at hq
      rw [if_pos c]
      by_cases d : hasF L nm = true ∨ 0 < k.keep
      · rw [if_pos d] at hq
        rw [if_pos d]
        exact layF_to h hu1 hq
      · rw [if_neg d] at hq
        rw [if_neg d]
        subst hq
        exact ⟨_, _, _, h1, hu1.mono (fun i s _ => .inl s), fun i s => .inl s, rfl, rfl⟩
    · rw [if_neg c] at hq
      rw [if_neg c]
      exact layF_to h hu1 hq
/-- What P is told where may has not refused the call. -/
def AppTo (w : World) (base db mb : Nat) (k : DkV) (L : List Fl) (D : DataW Value) (nm b : List UInt8) (P : Ending → World → Prop) : Prop :=
  (appFull k L nm b = true → ∀ w', Dsk w' base db mb 0 k L D → Upd (fun i => i = db) w w' → P (.returned (.int .i64 93)) w') ∧
  (appFull k L nm b = false → ∀ w' k' L' D', Dsk w' base db mb 0 k' L' D' → Upd (DkF db mb L) w w' → (∀ i, DkF db mb L' i → DkF db mb L i ∨ w.heap.size ≤ i) →
    AppS k L nm b k' L' → P (.returned (.int .i64 (if k.armed = 1 then 94 else 0))) w')
set_option maxRecDepth 100000 in
set_option maxHeartbeats 4000000 in
theorem Append_on (base db mb : Nat) (k : DkV) (L : List Fl) (D : DataW Value) (nm b : List UInt8) (ba : Option Addr) (bc : Nat) (w : World) (h : Dsk w base db mb 0 k L D) (hb : Byt w ba b) (hbc : b.length ≤ bc) (hnm : nm.length ≤ 140737488351232) (he : mayR k.off L false [nm] = 0) (hu : 0 ≤ k.used ∧ k.used ≤ k.room ∧ k.room ≤ 268435456)
    (hL : L.length ≤ 64) (hlen : (bytF L nm).length ≤ 268435456) (hwr : k.writes ≤ 4611686018427387904 ∧ -4611686018427387904 ≤ k.writes) (har : k.armed ≤ 9223372036854775807 ∧ -9223372036854775808 ≤ k.armed) (P : Ending → World → Prop) (hap : AppTo w base db mb k L D nm b P) :
    Calls Tryz.prog 53 #[.pointer (some ⟨db, 0, none⟩), .string ⟨nm.toArray⟩, .slice ba b.length bc] w P := by
  have hlt := h.lt
  obtain ⟨w0, hw0⟩ : ∃ q, boxW db nm b ba bc w = q := ⟨_, rfl⟩
  have b0 : Below w.heap.size w w0 := by rw [← hw0]; exact boxW_below ..
  have s0 : w0.heap.size = w.heap.size + 1 + 1 + 1 := by rw [← hw0]; exact boxW_size ..
  have h0 := h.below b0
  obtain ⟨q0, q1, q2⟩ := boxW_cells db nm b ba bc w
  rw [hw0] at q0 q1 q2
  have n0 : ¬ db = w.heap.size := by omega
  have n1 : ¬ db = w.heap.size + 1 := by omega
  have n2 : ¬ db = w.heap.size + 1 + 1 := by omega
  have SZ0 : Hid (w0.heap.size = w.heap.size + 1 + 1 + 1) := s0
  have h1 := h0.lock 1
  have z0 : (w0.setCell ⟨db, 0, none⟩ (.int .i32 1)).heap.size = w0.heap.size := by simp [World.setCell]
  have h2 := h1.below ((Below.refl _ _).alloc (Nat.le_refl _) (.cells #[.string ⟨nm.toArray⟩] 9))
  have MC := may_calls base db mb 1 k L D false w0.heap.size 1 [nm] _ h2 (fun i hi => by
    have hi' : i = 0 := by simp at hi; exact hi
    subst hi'
    have hh := heap_alloc_new (w0.setCell ⟨db, 0, none⟩ (.int .i32 1)) (.cells #[.string ⟨nm.toArray⟩] 9)
    rw [z0] at hh
    rw [cell_of_row' hh]; rfl) (by simp) (by simp) (fun x hx => by rw [List.mem_singleton] at hx; rw [hx]; exact hnm)
  rw [show [nm].length = 1 from rfl, he] at MC
  have MCH := Lib.hid MC
  unfold boxW at hw0
  have H0 := Lib.hid h0; have H2 := Lib.hid h2; have B0 := Lib.hid b0; have W0 := Lib.hid hw0
  have U2 := Lib.hid ((upd_lock (db := db) (Below.refl w0.heap.size w0) (.int .i32 1)).alloc (.cells #[.string ⟨nm.toArray⟩] 9))
  have Q0 := Lib.hid q0; have Q1 := Lib.hid q1; have Q2 := Lib.hid q2
  have NM := Lib.hid (show nm.length ≤ maxLen by unfold maxLen; omega)
  have YB := Lib.hid (hb.below b0); have BC := Lib.hid hbc; have HNM := Lib.hid hnm; have HLEN := Lib.hid hlen; have HWR := Lib.hid hwr; have HAR := Lib.hid har; have HL6 := Lib.hid hL
  have FOOT := Lib.hid (fun i (hi : DkF db mb L i) => show i < w.heap.size from by
    rcases hi with rfl | hi
    · exact hlt
    · exact (h.fls.lt i hi).2)
  clear hb hbc hnm hlen hwr har hL he MC h0 h1 h2 b0 s0 hw0 h z0
  go_enter_defers Tryz.func53, Tryz.ntmps53
  go_wp2_with fail
  rw [W0.out]
  refine (lock_free muLib ⟨db, 0, none⟩ _ (H0.out.cell 0) (H0.out.froz 0)).mono ?_
  rintro r w1 ⟨rfl, rfl⟩
  go_wp2_with fail
  refine MCH.out.mono ?_
  rintro r w3 ⟨rfl, hb3⟩
  have H3 := Lib.hid (H2.out.below hb3)
  have U3 := Lib.hid (U2.out.same ((Upd.ofBelow hb3).mono (fun _ s _ => s.elim)))
  have B3 := Lib.hid hb3
  clear hb3 q0 q1 q2
  have q0 := U3.out.cell' Q0.out (fun s => n0 s.symm)
  have q1 := U3.out.cell' Q1.out (fun s => n1 s.symm)
  have q2 := U3.out.cell' Q2.out (fun s => n2 s.symm)
  have c4 : w3.cell? ⟨db, 4, none⟩ = some (.map (some mb)) := H3.out.cell 4
  have lk := fun nq => (H3.out.drewN nq).fls.look_ok nm NM.out
  obtain ⟨VO, -, -⟩ := H3.out.fls.val_own nm
  obtain ⟨va, vc, hvx, -, -, -, -, -⟩ := own_val VO
  obtain ⟨vl, hvl⟩ : ∃ v, (bytF L nm).length = v := ⟨_, rfl⟩
  rw [hvl] at hvx
  clear VO
  obtain ⟨hx, hhx⟩ : ∃ v, hasF L nm = v := ⟨_, rfl⟩
  rw [hvx, hhx] at lk
  have HVX := Lib.hid hvx; have HVL := Lib.hid hvl; have HHX := Lib.hid hhx
  clear hhx lk
  have LK := fun (w' : World) (hb : Below w3.heap.size w3 w') => (H3.out.below hb).fls.look_ok nm NM.out
  rw [hvx, HHX.out] at LK
  have k1 := LK w3.drew (bel_drewN (Below.refl _ _) 1)
  have k2 := LK (w3.alloc (.cells #[.slice none 0 0] 74)).drew (bel_drewN ((Below.refl _ _).alloc (Nat.le_refl _) _) 1)
  have k3 := LK (w3.alloc (.cells #[.bool false] 4)).drew (bel_drewN ((Below.refl _ _).alloc (Nat.le_refl _) _) 1)
  have k4 := LK ((w3.alloc (.cells #[.slice none 0 0] 74)).alloc (.cells #[.bool false] 4)).drew (bel_drewN (((Below.refl _ _).alloc (Nat.le_refl _) _).alloc (by simp) _) 1)
  have k5 := LK ((w3.alloc (.cells #[.bool false] 4)).alloc (.cells #[.slice none 0 0] 74)).drew (bel_drewN (((Below.refl _ _).alloc (Nat.le_refl _) _).alloc (by simp) _) 1)
  clear LK hvx hvl
  have r2 : w.heap.size + 1 + 1 < w3.heap.size := World.block_lt_of_cell? _ _ q2
  have r0 : w.heap.size < w3.heap.size := by omega
  have r1 : w.heap.size + 1 < w3.heap.size := by omega
  have r3 : db < w3.heap.size := H3.out.lt
  go_upto_region 6 with (fail)
  go_cut [8, 9] from 25 (fun v8 v9 wx => Got6 w3 wx va vl vc hx v8 v9)
  case first =>
    go_region_held3 (fun w' => w'.cell? ⟨w.heap.size, 0, none⟩ = some (.pointer (some ⟨db, 0, none⟩)) ∧ w'.cell? ⟨w.heap.size + 1, 0, none⟩ = some (.string ⟨nm.toArray⟩) ∧ w'.cell? ⟨db, 4, none⟩ = some (.map (some mb)))
      (first
        | go_keep)
      (fail)
    all_goals
      go_wp2_with fail
      go_meet
      case rel => first | exact got6_a .. | exact got6_b ..
  case rest =>
    obtain ⟨w6, rfl⟩ : ∃ q, q = wc := ⟨_, rfl⟩
    obtain ⟨wa, ta, rfl, rfl, p1, p2, p3, p4, p5⟩ := hcut
    have B6 := Lib.hid p5
    clear k1 k2 k3 k4 k5
    have x0 := p5.cell (p := ⟨w.heap.size, 0, none⟩) r0
    have x1 := p5.cell (p := ⟨w.heap.size + 1, 0, none⟩) r1
    have x2 := p5.cell (p := ⟨w.heap.size + 1 + 1, 0, none⟩) r2
    rw [q0] at x0
    rw [q1] at x1
    rw [q2] at x2
    have H6 := Lib.hid (H3.out.below p5)
    clear p5 c4 q0 q1 q2
    have c4 : w6.cell? ⟨db, 4, none⟩ = some (.map (some mb)) := H6.out.cell 4
    have c2 : w6.cell? ⟨db, 2, none⟩ = some (.int .i64 k.room) := H6.out.cell 2
    have c3 : w6.cell? ⟨db, 3, none⟩ = some (.int .i64 k.used) := H6.out.cell 3
    have ln := fun (nq : Nat) (ty : TypeId) => (H6.out.drewN nq).fls.len ty
    obtain ⟨u1, u2, u3⟩ := hu
    obtain ⟨LL, hLL⟩ : ∃ n, L.length = n := ⟨_, rfl⟩
    obtain ⟨bl, hbl⟩ : ∃ n, b.length = n := ⟨_, rfl⟩
    have HLL := Lib.hid hLL; have HBL := Lib.hid hbl
    rw [hLL] at ln
    rw [hbl] at x2
    clear hLL hbl
    obtain ⟨fu, hfu⟩ : ∃ q : Bool, decide ((hx = false ∧ 64 ≤ LL) ∨ k.room - k.used < (bl : Int)) = q := ⟨_, rfl⟩
    have HFU := Lib.hid hfu; have CF := Lib.hid hfu
    clear hfu
    go_upto_region 7 with (fail)
    go_cut [57] from 34 (fun v wx => v = .bool fu ∧ ∃ n, wx = w6.drewN n)
    case first =>
      by_cases c2' : k.room - k.used < (bl : Int)
      · have F1 : Hid (fu = true) := by show _ = _; rw [← HFU.out]; exact decide_eq_true (.inr c2')
        have t1 : decide (k.room - k.used < (bl : Int)) = true := decide_eq_true c2'
        clear HFU
        cases hx with
        | true =>
          go_quiet (fail)
          go_wp2_with fail
          go_meet
          case rel => exact ⟨by rw [F1.out], _, rfl⟩
        | false =>
          by_cases c5 : 64 ≤ LL
          · have t2 : decide (64 ≤ LL) = true := decide_eq_true c5
            have t2' : decide ((64 : Int) ≤ (LL : Int)) = true := decide_eq_true (by omega)
            go_quiet (fail)
            go_wp2_with fail
            go_meet
            case rel => exact ⟨by rw [F1.out], _, rfl⟩
          · have t2 : decide (64 ≤ LL) = false := decide_eq_false c5
            have t2' : decide ((64 : Int) ≤ (LL : Int)) = false := decide_eq_false (by omega)
            go_quiet (fail)
            go_wp2_with fail
            go_meet
            case rel => exact ⟨by rw [F1.out], _, rfl⟩
      · have t1 : decide (k.room - k.used < (bl : Int)) = false := decide_eq_false c2'
        cases hx with
        | true =>
          have F1 : Hid (fu = false) := by show _ = _; rw [← HFU.out]; exact decide_eq_false (fun h => by rcases h with h | h; cases h.1; exact c2' h)
          clear HFU
          go_quiet (fail)
          go_wp2_with fail
          go_meet
          case rel => exact ⟨by rw [F1.out], _, rfl⟩
        | false =>
          by_cases c5 : 64 ≤ LL
          · have F1 : Hid (fu = true) := by show _ = _; rw [← HFU.out]; exact decide_eq_true (.inl ⟨rfl, c5⟩)
            have t2 : decide (64 ≤ LL) = true := decide_eq_true c5
            have t2' : decide ((64 : Int) ≤ (LL : Int)) = true := decide_eq_true (by omega)
            clear HFU
            go_quiet (fail)
            go_wp2_with fail
            go_meet
            case rel => exact ⟨by rw [F1.out], _, rfl⟩
          · have F1 : Hid (fu = false) := by show _ = _; rw [← HFU.out]; exact decide_eq_false (fun h => by rcases h with h | h; exact c5 h.2; exact c2' h)
            have t2 : decide (64 ≤ LL) = false := decide_eq_false c5
            have t2' : decide ((64 : Int) ≤ (LL : Int)) = false := decide_eq_false (by omega)
            clear HFU
            go_quiet (fail)
            go_wp2_with fail
            go_meet
            case rel => exact ⟨by rw [F1.out], _, rfl⟩
    case rest =>
      obtain ⟨rfl, n7, hw7⟩ := hcut
      have H7 := Lib.hid (H6.out.drewN n7)
      have B7 := Lib.hid (bel_drewN B6.out n7)
      have y0 : (w6.drewN n7).cell? ⟨w.heap.size, 0, none⟩ = some (.pointer (some ⟨db, 0, none⟩)) := x0
      have y1 : (w6.drewN n7).cell? ⟨w.heap.size + 1, 0, none⟩ = some (.string ⟨nm.toArray⟩) := x1
      have y2 : (w6.drewN n7).cell? ⟨w.heap.size + 1 + 1, 0, none⟩ = some (.slice ba bl bc) := x2
      have y3 : (w6.drewN n7).cell? ⟨wa, 0, none⟩ = some (.slice va vl vc) := p1
      have y4 : (w6.drewN n7).cell? ⟨ta, 0, none⟩ = some (.bool hx) := p2
      clear x0 x1 x2 p1 p2 c2 c3 c4 ln HFU
      obtain ⟨w7, hw7'⟩ : ∃ q, w6.drewN n7 = q := ⟨_, rfl⟩
      rw [hw7'] at H7 B7 y0 y1 y2 y3 y4 hw7
      subst hw7
      clear hw7'
      have s0 : w.heap.size < wc.heap.size := World.block_lt_of_cell? _ _ y0
      have s1 : w.heap.size + 1 < wc.heap.size := World.block_lt_of_cell? _ _ y1
      have s2 : w.heap.size + 1 + 1 < wc.heap.size := World.block_lt_of_cell? _ _ y2
      have s3 : wa < wc.heap.size := World.block_lt_of_cell? _ _ y3
      have s4 : ta < wc.heap.size := World.block_lt_of_cell? _ _ y4
      have U7 := Lib.hid (upd_to (Upd.mono (S' := fun i => i = db) (Upd.ofBelow B0.out) (fun _ s _ => s.elim)) U3.out B7.out rfl)
      have AF := Lib.hid hap
      clear hap H2 MCH U2 H3 B3 H6 B6 r1 r2 r3
      have CFH : Hid (appFull k L nm b = fu) := by
        show _ = _
        unfold appFull
        rw [HHX.out, HLL.out, HBL.out]
        exact CF.out
      cases fu with
      | true =>
        go_wp2
        refine leaves_cons (f := 55) (args := #[.pointer (some ⟨db, 0, none⟩)]) (by simp) (by simp [go_sem]) ?_
        refine (unlock_deferred muLib ⟨db, 0, none⟩ .returning _ (H7.out.cell 0) (H7.out.froz 0)).mono ?_
        rintro r u' w9 ⟨rfl, rfl, rfl⟩
        have FIN := AF.out.1 CFH.out _ (H7.out.lock 0) (U7.out.setCell (p := ⟨db, 0, none⟩) (fun _ => rfl) _)
        refine ⟨_, results_tmp rfl _ _ _, ?_⟩
        exact FIN
      | false =>
        have hmf : ∀ (fn : Fn) (first cap : Array Value) (w : World), (Instr.makeFunc fn first cap).run Tryz.prog w = .ok (.func fn first cap) w := fun _ _ _ _ => rfl
        obtain ⟨w8, hw8⟩ : ∃ q, wc.alloc (.cells #[.func (.func 109) #[] #[.pointer (some ⟨wa, 0, none⟩), .pointer (some ⟨w.heap.size, 0, none⟩), .pointer (some ⟨w.heap.size + 1, 0, none⟩)]] 94) = q := ⟨_, rfl⟩
        have B8 : Below wc.heap.size wc w8 := by rw [← hw8]; exact (Below.refl _ _).alloc (Nat.le_refl _) _
        have H8 := Lib.hid (H7.out.below B8)
        have z8 : w8.cell? ⟨wc.heap.size, 0, none⟩ = some (layV wa w.heap.size (w.heap.size + 1)) := by rw [← hw8, cell_of_row' (heap_alloc_new wc _)]; rfl
        have U8 := Lib.hid (U7.out.same ((Upd.ofBelow B8).mono (fun _ s _ => s.elim)))
        have zz := fun (p : Nat) (x : Value) (hp : wc.cell? ⟨p, 0, none⟩ = some x) => (B8.cell (p := ⟨p, 0, none⟩) (World.block_lt_of_cell? _ _ hp)).trans hp
        have foot : ∀ i, w.heap.size ≤ i → ¬ DkF db mb L i := fun i hi s => by have := FOOT.out i s; omega
        have Y8 : Byt w8 ba b := ((YB.out.upd U3.out (byt_not_db H0.out YB.out)).below B7.out).below B8
        have WC := Append_w base db mb 1 k L D nm b ba bc w8 wa w.heap.size (w.heap.size + 1) wc.heap.size (w.heap.size + 1 + 1) ta H8.out Y8 BC.out (by rw [HVX.out]; exact zz _ _ y3) (zz _ _ y0) (zz _ _ y1) z8 (by rw [HBL.out]; exact zz _ _ y2) (by rw [HHX.out]; exact zz _ _ y4)
          (foot _ (by omega)) (foot _ (by omega)) (foot _ (by omega)) (foot _ (by omega)) (foot _ (by omega)) (foot _ (by omega)) HNM.out ⟨u1, u2, u3⟩ (by have := CFH.out; unfold appFull at this; rw [decide_eq_false_iff_not] at this; omega) HL6.out HLEN.out HWR.out HAR.out
        have W8 := Lib.hid hw8
        have WCH := Lib.hid WC
        clear hw8 WC
        go_wp2_with fail
        rw [W8.out]
        refine WCH.out.mono ?_
        rintro r w9 ⟨hr, k', L', D', g1, g2, g3, g4⟩
        obtain ⟨ec, hec⟩ : ∃ q : Int, (if k.armed = 1 then 94 else 0) = q := ⟨_, rfl⟩
        have FI := AF.out.2 CFH.out (w9.setCell ⟨db, 0, none⟩ (.int .i32 0)) k' L' D' (g1.lock 0) (((U8.out.mono (fun _ s _ => .inl s)).same g2).setCell (p := ⟨db, 0, none⟩) (fun _ => .inl rfl) _) (fun i s => by
          rcases g3 i s with s | s
          · exact .inl s
          · refine .inr (Nat.le_trans ?_ s); have := B8.size; omega) g4
        rw [hec] at hr FI
        subst hr
        have FIN := Lib.hid FI; have G1 := Lib.hid g1
        clear FI g1 g2 g3 g4 hec
        go_wp2
        refine leaves_cons (f := 55) (args := #[.pointer (some ⟨db, 0, none⟩)]) (by simp) (by simp [go_sem]) ?_
        refine (unlock_deferred muLib ⟨db, 0, none⟩ .returning _ (G1.out.cell 0) (G1.out.froz 0)).mono ?_
        rintro r u' w9 ⟨rfl, rfl, rfl⟩
        refine ⟨_, results_tmp rfl _ _ _, ?_⟩
        exact FIN.out
end Go.Proofs.YtnbpkignkfabkaaGreatDoor
/- disk.Cut's closure. -/
namespace Go.Proofs.YtnbpkignkfabkaaGreatDoor
set_option linter.unusedVariables false
set_option linter.unusedSimpArgs false
open Go.RowKit Go.Maps
/-- What a write makes of a disk, as its closure tells it. -/
def WF (w w' : World) (base db mb : Nat) (m : Int) (k' : DkV) (L L' : List Fl) : Prop :=
  ∃ D', Dsk w' base db mb m k' L' D' ∧ Upd (DkF db mb L) w w' ∧ ∀ i, DkF db mb L' i → DkF db mb L i ∨ w.heap.size ≤ i
theorem foot_put {db mb : Nat} {L : List Fl} {f : Fl} (hf : ∀ k, f.at_ k → FlF mb L k) : ∀ i, DkF db mb (putF L f) i → DkF db mb L i := by
  rintro i (s | s | ⟨g, hg, s⟩)
  · exact .inl s
  · exact .inr (.inl s)
  · rcases mem_putF.1 hg with ⟨h1, _⟩ | rfl
    · exact .inr (.inr ⟨g, h1, s⟩)
    · exact .inr (hf i s)
theorem foot_del {db mb : Nat} {L : List Fl} {nm : List UInt8} : ∀ i, DkF db mb (delF L nm) i → DkF db mb L i := by
  rintro i (s | s | ⟨g, hg, s⟩)
  · exact .inl s
  · exact .inr (.inl s)
  · exact .inr (.inr ⟨g, (mem_delF.1 hg).1, s⟩)
set_option maxRecDepth 100000 in
set_option maxHeartbeats 2000000 in
theorem cutC_calls (base db mb : Nat) (m : Int) (k : DkV) (L : List Fl) (D : DataW Value) (nm : List UInt8) (n : Nat) (da wa sa na : Nat) (w : World) (h : Dsk w base db mb m k L D) (hle : n ≤ (bytF L nm).length) (hlb : (bytF L nm).length ≤ 268435456)
    (hd : w.cell? ⟨da, 0, none⟩ = some (.pointer (some ⟨db, 0, none⟩))) (hw : w.cell? ⟨wa, 0, none⟩ = some (valF L nm)) (hs : w.cell? ⟨sa, 0, none⟩ = some (.int .i64 n)) (hn : w.cell? ⟨na, 0, none⟩ = some (.string ⟨nm.toArray⟩))
    (nd : ¬ DkF db mb L da) (nw : ¬ DkF db mb L wa) (ns : ¬ DkF db mb L sa) (nn : ¬ DkF db mb L na) (hnm : nm.length ≤ 140737488351232) (hL : L.length ≤ 1000) (hu : 0 ≤ k.used ∧ k.used ≤ 268435456) :
    Calls Tryz.prog 107 #[.pointer (some ⟨da, 0, none⟩), .pointer (some ⟨wa, 0, none⟩), .pointer (some ⟨sa, 0, none⟩), .pointer (some ⟨na, 0, none⟩)] w fun r w' => r = .returned (.tuple #[]) ∧
      ∃ a c, WF w w' base db mb m { k with used := k.used - (((bytF L nm).length : Int) - n) } L (putF L ⟨nm, (bytF L nm).take n, a, c⟩) := by
  obtain ⟨a, c, hv, hc, -, -, hown⟩ := h.fls.val_shape nm
  obtain ⟨t, ht⟩ : ∃ t, (bytF L nm).length = t := ⟨_, rfl⟩
  have hlt : ∀ (i : Nat), ¬ DkF db mb L i → ¬ i = db := fun i hi e => hi (.inl e)
  have hlm : ∀ (i : Nat), ¬ DkF db mb L i → ¬ i = mb := fun i hi e => hi (.inr (.inl e))
  have cd := h.cell 3
  have x4 : w.cell? ⟨db, 4, none⟩ = some (.map (some mb)) := h.cell 4
  have x3 : w.cell? ⟨db, 3, none⟩ = some (.int .i64 k.used) := h.cell 3
  have f3 := h.froz 3
  have d2 := Dsk.set (m := m) (k := k) (mb := mb) 3 (.int .i64 (k.used - ((t : Int) - n))) m { k with used := k.used - ((t : Int) - n) } rfl h.blk h.dge h.fls
  have U2 := Lib.hid ((Upd.refl (fun i => i = db) w).setCell (p := ⟨db, 3, none⟩) (fun _ => rfl) (.int .i64 (k.used - ((t : Int) - n))))
  have PUT := Lib.hid (fun (w1 : World) (h1 : Fls w1 base mb L D) => h1.cutTo nm n (by unfold maxLen; omega) (by unfold maxLen; omega) hle hv)
  rw [hv, ht] at hw
  rw [ht] at hc
  have D2 := Lib.hid d2
  have HT := Lib.hid ht; have HO := Lib.hid hown
  have MDB := Lib.hid (hlt da nd); have MWB := Lib.hid (hlt wa nw); have MSB := Lib.hid (hlt sa ns); have MNB := Lib.hid (hlt na nn)
  have i1 : (n : Int) ≤ (t : Int) := by rw [ht] at hle; omega
  have i2 : (n : Int) ≤ (c : Int) := by rw [ht] at hle; omega
  have i3 : n ≤ c := by omega
  have i4 : n ≤ t := by omega
  have i5 : (t : Int) ≤ 268435456 := by rw [ht] at hlb; omega
  obtain ⟨u1, u2⟩ := hu
  rw [ht]
  clear hv ht hle hlb d2 h cd hown hlt hlm
  go_enter Tryz.func107, Tryz.ntmps107
  go_wp2_with fail
  go_still_tail 11, (by kernel_rfl)
  go_wp2_with fail
  obtain ⟨w1, hw1⟩ : ∃ q, (w.setCell ⟨db, 3, none⟩ (.int .i64 (k.used - ((t : Int) - (n : Int))))).drew = q := ⟨_, rfl⟩
  have U3 := Lib.hid (U2.out.drew)
  have D3 := Lib.hid (D2.out.drewN 1)
  have E1 : (w.setCell ⟨db, 3, none⟩ (.int .i64 (k.used - ((t : Int) - (n : Int))))).drewN 1 = w1 := hw1
  rw [E1] at D3
  rw [hw1] at U3
  clear E1
  have y0 := U3.out.cell' hd MDB.out
  have y1 := U3.out.cell' hw MWB.out
  have y2 := U3.out.cell' hs MSB.out
  have y3 := U3.out.cell' hn MNB.out
  have y4 : w1.cell? ⟨db, 4, none⟩ = some (.map (some mb)) := D3.out.cell 4
  rw [hw1]
  clear hd hw hs hn x4 x3 f3 hw1 D2 U2
  obtain ⟨w2, hr2, hf2, hu2⟩ := PUT.out w1.drew (D3.out.drewN 1).fls
  have F2 := Lib.hid hf2; have UU2 := Lib.hid hu2
  clear hf2 hu2 PUT
  have FIN : Hid (WF w w2 base db mb m { k with used := k.used - ((t : Int) - (n : Int)) } L (putF L ⟨nm, (bytF L nm).take n, a, c⟩)) := by
    have NM : ¬ db = mb := by
      intro s
      obtain ⟨es, c, hb2, _⟩ := D3.out.fls.map
      have h1 := D3.out.blk
      rw [s, hb2] at h1
      cases h1
    refine ⟨_, ⟨(UU2.out.block db (lt_of_block D3.out.blk) NM).trans D3.out.blk, D3.out.dge, F2.out⟩, (U3.out.drew).trans UU2.out (fun i s _ => .inl s) (fun i s _ => .inr (.inl s)), fun i s => .inl (foot_put ?_ i s)⟩
    intro i hi
    exact (HO.out i ((ownBlock_len ..).trans hi)).2.2
  clear HT HO F2 UU2 U3 D3
  cases a with
  | none =>
    go_still_tail 8, (by kernel_rfl)
    go_wp2
    go_end0
    exact ⟨rfl, _, _, FIN.out⟩
  | some ad =>
    go_still_tail 8, (by kernel_rfl)
    go_wp2
    go_end0
    exact ⟨rfl, _, _, FIN.out⟩
end Go.Proofs.YtnbpkignkfabkaaGreatDoor
/- disk.whole: a write that is done or not. -/
namespace Go.Proofs.YtnbpkignkfabkaaGreatDoor
set_option linter.unusedVariables false
set_option linter.unusedSimpArgs false
open Go.RowKit Go.Maps
/-- Torn, a whole write is done where something is kept. -/
def WhP (QA : World → World → Prop) (keep : Int) (a b : World) : Prop := (0 < keep → QA a b) ∧ (¬ 0 < keep → a = b)
set_option maxRecDepth 100000 in
set_option maxHeartbeats 1000000 in
theorem whole1_calls (keep : Int) (p : Nat) (fa : FuncId) (capA : Array Value) (QA : World → World → Prop) (w : World) (hc : w.cell? ⟨p, 0, none⟩ = some (.func (.func fa) #[] capA))
    (hfa : ∀ (xs : Array Value) (w' : World), (callFunc fa xs).run Tryz.prog w' = .ok (.enter fa xs) w')
    (hA : 0 < keep → Calls Tryz.prog fa capA w fun r w' => r = .returned (.tuple #[]) ∧ QA w w') :
    Calls Tryz.prog 156 #[.int .i64 keep, .pointer (some ⟨p, 0, none⟩)] w fun r w' => r = .returned (.tuple #[]) ∧ WhP QA keep w w' := by
  by_cases h1 : 0 < keep
  · have t1 : decide (0 < keep) = true := decide_eq_true h1
    have HA := Lib.hid (hA h1)
    have F1 := Lib.hid (fun (w' : World) (hq : QA w w') => show WhP QA keep w w' from ⟨fun _ => hq, fun hn => absurd h1 hn⟩)
    clear hA h1
    go_enter Tryz.func156, Tryz.ntmps156
    go_wp2_with fail
    refine HA.out.mono ?_
    rintro r w1 ⟨rfl, hq⟩
    have FI := Lib.hid (F1.out w1 hq)
    clear hq
    go_wp2
    go_end0
    exact ⟨rfl, FI.out⟩
  · have t1 : decide (0 < keep) = false := decide_eq_false h1
    have F1 := Lib.hid (show WhP QA keep w w from ⟨fun h => absurd h h1, fun _ => rfl⟩)
    clear hA h1
    go_enter Tryz.func156, Tryz.ntmps156
    go_wp2
    go_end0
    exact ⟨rfl, F1.out⟩
set_option maxRecDepth 100000 in
set_option maxHeartbeats 1000000 in
theorem whole_calls (base db mb : Nat) (k : DkV) (m : Int) (L : List Fl) (D : DataW Value) (fa : FuncId) (capA : Array Value) (QA : World → World → Prop) (w : World) (h : Dsk w base db mb m k L D)
    (hb : k.writes ≤ 4611686018427387904 ∧ -4611686018427387904 ≤ k.writes) (hb2 : k.armed ≤ 9223372036854775807 ∧ -9223372036854775808 ≤ k.armed)
    (hfa : ∀ (xs : Array Value) (w' : World), (callFunc fa xs).run Tryz.prog w' = .ok (.enter fa xs) w')
    (hA : ∀ w1, Dsk w1 base db mb m (wrK k) L D → Upd (fun i => i = db) w w1 → Calls Tryz.prog fa capA w1 fun r w' => r = .returned (.tuple #[]) ∧ QA w1 w') :
    Calls Tryz.prog 106 #[.pointer (some ⟨db, 0, none⟩), .func (.func fa) #[] capA] w fun r w' => WrP w w' base db mb m k L D QA (WhP QA k.keep) r := by
  have hlt := h.lt
  obtain ⟨w0, hw0⟩ : ∃ q, w.alloc (.cells #[.func (.func fa) #[] capA] 1) = q := ⟨_, rfl⟩
  have b0 : Below w.heap.size w w0 := by rw [← hw0]; exact (Below.refl _ w).alloc (Nat.le_refl _) _
  have q0 : w0.cell? ⟨w.heap.size, 0, none⟩ = some (.func (.func fa) #[] capA) := by rw [← hw0, cell_of_row' (heap_alloc_new w _)]; rfl
  have up : ∀ w1, Upd (fun i => i = db) w0 w1 → Upd (fun i => i = db) w w1 := fun w1 hu => (Upd.mono (S' := fun i => i = db) (Upd.ofBelow b0) (fun _ s _ => s.elim)).same hu
  have WC := write_calls base db mb m k L D fa 156 capA #[.pointer (some ⟨w.heap.size, 0, none⟩)] QA (WhP QA k.keep) w0 (h.below b0) hb hb2 hfa (fun xs w' => Tryz.call156 xs w') (fun _ w1 hd hu => hA w1 hd (up w1 hu))
    (fun _ w1 hd hu => whole1_calls k.keep w.heap.size fa capA QA w1 (hu.cell' q0 (fun s => by have s' : w.heap.size = db := s; omega)) hfa (fun _ => hA w1 hd (up w1 hu)))
  obtain ⟨ec, hec⟩ : ∃ q : Int, (if k.armed = 1 then 94 else 0) = q := ⟨_, rfl⟩
  have HEC := Lib.hid hec
  clear hec
  have WCH := Lib.hid WC
  have W0 := Lib.hid hw0
  have UP := Lib.hid up
  have q0' := Lib.hid q0
  have hmf : ∀ (fn : Fn) (first cap : Array Value) (w : World), (Instr.makeFunc fn first cap).run Tryz.prog w = .ok (.func fn first cap) w := fun _ _ _ _ => rfl
  clear WC hA up hw0 b0 h hb hb2 q0
  go_enter Tryz.func106, Tryz.ntmps106
  go_wp2_with fail
  rw [W0.out]
  refine WCH.out.mono ?_
  rintro r w2 ⟨hr, w1, hu, hd, hq⟩
  rw [HEC.out] at hr
  subst hr
  have HU := Lib.hid (UP.out w1 hu); have HD := Lib.hid hd; have HQ := Lib.hid hq
  clear hu hd hq
  go_wp2
  go_ret
  exact ⟨by rw [HEC.out]; rfl, w1, HU.out, HD.out, HQ.out⟩
end Go.Proofs.YtnbpkignkfabkaaGreatDoor
/- Append, in plain words. -/
namespace Go.Proofs.YtnbpkignkfabkaaGreatDoor
set_option linter.unusedVariables false
set_option linter.unusedSimpArgs false
open Go.RowKit Go.Maps
/-- A call's answer, and what becomes of the disk. -/
def DkR (w w' : World) (base db : Nat) (F : Nat → Prop) (a : Int × DS) (r : Ending) : Prop := r = .returned (.int .i64 a.1) ∧ DkTo w w' base db F a.2
theorem DkTo.of {w w' : World} {base db mb : Nat} {F : Nat → Prop} {s s' : DS} {L L' : List Fl} {D' : DataW Value} (hF : ∀ i, DkF db mb L i → F i) (h : Dsk w' base db mb 0 s'.k L' D') (hr : Rep L' s'.C) (hok : s'.ok) (hu : Upd (DkF db mb L) w w') (hf : ∀ i, DkF db mb L' i → DkF db mb L i ∨ w.heap.size ≤ i) : DkTo w w' base db F s' :=
  ⟨DkF db mb L', ⟨mb, L', D', h, hr, hok, fun _ s => s⟩, hu.mono (fun i s _ => hF i s), fun i s => (hf i s).elim (fun s => .inl (hF i s)) .inr⟩
theorem DkTo.same {w w' : World} {base db mb : Nat} {F : Nat → Prop} {s s' : DS} {L : List Fl} {D' : DataW Value} (hF : ∀ i, DkF db mb L i → F i) (h : Dsk w' base db mb 0 s'.k L D') (hr : Rep L s'.C) (hok : s'.ok) (hu : Upd (fun i => i = db) w w') : DkTo w w' base db F s' :=
  DkTo.of (s := s) hF h hr hok (hu.mono (fun i s _ => .inl s)) (fun _ s => .inl s)
theorem kept_eq (b : List UInt8) (keep : Int) : kept b keep = keptB b keep := rfl
theorem k_put {s : DS} (hs : SortedC s.C) (nm x : List UInt8) (w : Nat) (hw : w + (bytC s.C nm).length = (x.length)) : { s.wr.k with used := (sumC s.C : Int) + w } = (s.wr.put nm x).k := by
  have h := sum_set hs nm x
  have e : (sumC s.C : Int) + w = ((sumC (setC s.C nm x) : Nat) : Int) := by omega
  rw [e]
  rfl
theorem Append_dk (base db : Nat) (F : Nat → Prop) (s : DS) (nm b : List UInt8) (ba : Option Addr) (bc : Nat) (w : World) (h : Dk w base F db s) (hb : Byt w ba b) (hbc : b.length ≤ bc) (hnm : nm.length ≤ 140737488351232) (hw : s.writes ≤ 4611686018427387904) :
    Calls Tryz.prog 53 #[.pointer (some ⟨db, 0, none⟩), .string ⟨nm.toArray⟩, .slice ba b.length bc] w fun r w' => DkR w w' base db F (s.append nm b) r := by
  obtain ⟨mb, L, D, h1, hr, hok, hF⟩ := h
  have hm := kmay hr (s := s) false [nm]
  by_cases e : s.may false [nm] = 0
  · have h0 : 0 ≤ sumC s.C := Nat.zero_le _
    have hsum := hok.sum; have r2 := hok.r2
    refine Append_on base db mb s.k L D nm b ba bc w h1 hb hbc hnm (by rw [hm]; exact e) ⟨by show (0 : Int) ≤ (sumC s.C : Int); omega, by show (sumC s.C : Int) ≤ (s.room : Int); omega, by show (s.room : Int) ≤ 268435456; omega⟩ (by rw [hr.len]; exact hok.len) (by rw [hr.byt]; exact hok.byt nm)
      ⟨by show (s.writes : Int) ≤ _; omega, by show _ ≤ (s.writes : Int); omega⟩ ⟨hok.a2, by have := hok.a1; show _ ≤ s.armed; omega⟩ _ ⟨?_, ?_⟩
    · intro hf w' g1 g2
      unfold appFull at hf
      rw [decide_eq_true_iff, hr.has, hr.len] at hf
      have e1 : s.append nm b = (93, s) := by
        unfold DS.append
        rw [if_neg (by omega), if_pos]
        rcases hf with k | k
        · exact .inl k
        · refine .inr ?_
          have k' : (s.room : Int) - (sumC s.C : Int) < (b.length : Int) := k
          omega
      rw [e1]
      exact ⟨rfl, DkTo.same (s := s) hF g1 hr hok g2⟩
    · intro hf w' k' L' D' g1 g2 g3 g4
      unfold appFull at hf
      rw [decide_eq_false_iff_not, hr.has, hr.len] at hf
      have hok' := hok.append nm b
      have e1 : s.append nm b = if s.armed = 1 then (94, if hasC s.C nm = true ∨ 0 < s.keep then s.wr.put nm (bytC s.C nm ++ keptB b s.keep) else s.wr) else (0, s.wr.put nm (bytC s.C nm ++ b)) := by
        unfold DS.append
        rw [if_neg (by omega), if_neg]
        rintro (k | k)
        · exact hf (.inl k)
        · refine hf (.inr ?_)
          show (s.room : Int) - (sumC s.C : Int) < (b.length : Int)
          omega
      rw [e1] at hok' ⊢
      unfold AppS appLaid at g4
      rw [hr.has, hr.byt, kwr] at g4
      have ek : s.k.armed = s.armed := rfl
      have ek2 : s.k.keep = s.keep := rfl
      have ek3 : s.k.used = (sumC s.C : Int) := rfl
      rw [ek, ek2] at g4
      rw [ek]
      have put : ∀ (x : List UInt8), k' = { s.wr.k with used := s.k.used + x.length } → (∃ a c, L' = putF L ⟨nm, bytC s.C nm ++ x, a, c⟩) → (s.wr.put nm (bytC s.C nm ++ x)).ok → DkTo w w' base db F (s.wr.put nm (bytC s.C nm ++ x)) := by
        rintro x rfl ⟨a, c, rfl⟩ hok2
        rw [ek3, k_put hok.so nm (bytC s.C nm ++ x) x.length (by rw [List.length_append]; omega)] at g1
        exact DkTo.of (s := s) hF g1 (hr.put _) hok2 g2 g3
      by_cases c : s.armed = 1
      · rw [if_pos c] at hok' ⊢
        rw [if_pos c] at g4
        rw [if_pos c]
        by_cases d : hasC s.C nm = true ∨ 0 < s.keep
        · rw [if_pos d] at hok' ⊢
          rw [if_pos d] at g4
          exact ⟨rfl, put _ g4.1 g4.2 hok'⟩
        · rw [if_neg d] at hok' ⊢
          rw [if_neg d] at g4
          obtain ⟨rfl, rfl⟩ := g4
          exact ⟨rfl, DkTo.of (s := s) hF g1 hr hok' g2 g3⟩
      · rw [if_neg c] at hok' ⊢
        rw [if_neg c] at g4
        rw [if_neg c]
        exact ⟨rfl, put _ g4.1 g4.2 hok'⟩
  · have e1 : s.append nm b = (s.may false [nm], s) := by unfold DS.append; rw [if_pos e]
    refine (Append_off base db mb s.k L D nm b ba bc w h1 hnm (by rw [hm]; exact e)).mono ?_
    rintro r w' ⟨g0, g1, g2⟩
    rw [hm] at g0
    rw [e1]
    exact ⟨g0, DkTo.same (s := s) hF g1 hr hok g2⟩
end Go.Proofs.YtnbpkignkfabkaaGreatDoor
namespace Go.Proofs.YtnbpkignkfabkaaGreatDoor
set_option linter.unusedVariables false
set_option linter.unusedSimpArgs false
open Go.RowKit Go.Maps
/-- The disk behind a write, the lock still held. -/
def WkP (w w' : World) (base db mb : Nat) (L : List Fl) (s' : DS) : Prop :=
  ∃ L' D', Dsk w' base db mb 1 s'.k L' D' ∧ Rep L' s'.C ∧ s'.ok ∧ Upd (DkF db mb L) w w' ∧ ∀ i, DkF db mb L' i → DkF db mb L i ∨ w.heap.size ≤ i
theorem WkP.done {w w8 w9 : World} {base db mb : Nat} {F : Nat → Prop} {L : List Fl} {s' : DS} (h : WkP w8 w9 base db mb L s') (hu : Upd (fun i => i = db) w w8) (hF : ∀ i, DkF db mb L i → F i) : DkTo w (w9.setCell ⟨db, 0, none⟩ (.int .i32 0)) base db F s' := by
  obtain ⟨L', D', h1, h2, h3, h4, h5⟩ := h
  exact DkTo.of (s := s') hF (h1.lock 0) h2 h3 (((hu.mono (fun i s _ => .inl s)).same h4).setCell (p := ⟨db, 0, none⟩) (fun _ => .inl rfl) _) (fun i hi => (h5 i hi).elim .inl (fun k => .inr (Nat.le_trans hu.size k)))
theorem whole_to {w w' : World} {base db mb : Nat} {s : DS} {L : List Fl} {D : DataW Value} {QA : World → World → Prop} {r : Ending} {f : DS → DS} (hrep : Rep L s.C) (hok : s.ok) (h : WrP w w' base db mb 1 s.k L D QA (WhP QA s.k.keep) r)
    (hq : ∀ w1 w', QA w1 w' → ∃ L', WF w1 w' base db mb 1 (f s.wr).k L L' ∧ Rep L' (f s.wr).C) (hf : (f s.wr).ok) : r = .returned (.int .i64 (s.whole f).1) ∧ WkP w w' base db mb L (s.whole f).2 := by
  obtain ⟨h1, w1, h2, h3, h4⟩ := h
  rw [kwr] at h3
  have ek : s.k.armed = s.armed := rfl
  have ek2 : s.k.keep = s.keep := rfl
  rw [ek] at h1 h4
  rw [ek2] at h4
  have fin : QA w1 w' → WkP w w' base db mb L (f s.wr) := by
    intro hqa
    obtain ⟨L', ⟨D', g1, g2, g3⟩, g4⟩ := hq w1 w' hqa
    exact ⟨L', D', g1, g4, hf, (h2.mono (fun i s _ => .inl s)).same g2, fun i hi => (g3 i hi).elim .inl (fun k => .inr (Nat.le_trans h2.size k))⟩
  unfold DS.whole
  by_cases c : s.armed = 1
  · rw [if_pos c] at h1 h4
    rw [if_pos c]
    refine ⟨h1, ?_⟩
    by_cases d : 0 < s.keep
    · show WkP w w' base db mb L (if 0 < s.keep then f s.wr else s.wr)
      rw [if_pos d]
      exact fin (h4.1 d)
    · show WkP w w' base db mb L (if 0 < s.keep then f s.wr else s.wr)
      rw [if_neg d]
      have e := h4.2 d
      subst e
      exact ⟨L, D, h3, hrep, hok.wr, h2.mono (fun i s _ => .inl s), fun i hi => .inl hi⟩
  · rw [if_neg c] at h1 h4
    rw [if_neg c]
    exact ⟨h1, fin h4⟩
theorem k_putI {s : DS} (hs : SortedC s.C) (nm x : List UInt8) (u : Int) (hu : u = (sumC s.C : Int) - (bytC s.C nm).length + x.length) : { s.wr.k with used := u } = (s.wr.put nm x).k := by
  have h := sum_set hs nm x
  have e : u = ((sumC (setC s.C nm x) : Nat) : Int) := by omega
  rw [e]
  rfl
theorem k_del {s : DS} (hs : SortedC s.C) (nm : List UInt8) (u : Int) (hu : u = (sumC s.C : Int) - (bytC s.C nm).length) : { s.wr.k with used := u } = (s.wr.del nm).k := by
  have h := sum_del hs nm
  have e : u = ((sumC (delC s.C nm) : Nat) : Int) := by omega
  rw [e]
  rfl
end Go.Proofs.YtnbpkignkfabkaaGreatDoor
