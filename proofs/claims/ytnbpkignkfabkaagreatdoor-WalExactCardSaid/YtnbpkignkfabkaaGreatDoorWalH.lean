/- posternlaw10: num, size, rows; a disk and a log as a law holds them. -/
import Derived.Test.YtnbpkignkfabkaaGreatDoorDkS
import Derived.Test.YtnbpkignkfabkaaGreatDoorWalO
/- Disks of one file and its records, in plain words. -/
namespace Go.Proofs.YtnbpkignkfabkaaGreatDoor
set_option linter.unusedVariables false
set_option linter.unusedSimpArgs false
open Go.RowKit Go.Maps
/-- A disk with one file. -/
def S1 (room : Nat) (nm l : List UInt8) (armed keep : Int) (off : Bool) (wr : Nat) : DS := ⟨room, [(nm, l)], armed, keep, off, wr⟩
theorem setC_one (nm l x : List UInt8) : setC [(nm, l)] nm x = [(nm, x)] := by simp [setC, delC, insC]
theorem bytC_one (nm l : List UInt8) : bytC [(nm, l)] nm = l := by simp [bytC]
theorem hasC_one (nm l : List UInt8) : hasC [(nm, l)] nm = true := by simp [hasC]
theorem may_new {room : Nat} {nm : List UInt8} (h : nmOk nm = true) (wr : Nat) (keep : Int) : DS.may ⟨room, [], 0, keep, false, wr⟩ false [nm] = 0 ∧ DS.may ⟨room, [], 0, keep, false, wr⟩ true [nm] = 92 := by
  unfold DS.may
  simp [h, hasC]
theorem may_one {room : Nat} {nm l : List UInt8} (h : nmOk nm = true) (armed keep : Int) (wr : Nat) (t : Bool) : (S1 room nm l armed keep false wr).may t [nm] = 0 := by
  unfold DS.may S1
  simp [h, hasC]
theorem app_new {room : Nat} {nm b : List UInt8} (h : nmOk nm = true) (hb : b.length ≤ room) (wr : Nat) (keep : Int) : DS.append ⟨room, [], 0, keep, false, wr⟩ nm b = (0, S1 room nm b 0 keep false (wr + 1)) := by
  unfold DS.append
  rw [if_neg (by rw [(may_new h wr keep).1]; decide), if_neg, if_neg (by show ¬ (0 : Int) = 1; decide)]
  · show ((0 : Int), DS.put _ nm (bytC [] nm ++ b)) = _
    simp [bytC, DS.put, DS.wr, S1, setC, delC, insC]
  · rintro (h1 | h1)
    · exact absurd h1.2 (by show ¬ 64 ≤ 0; decide)
    · have : room < 0 + b.length := h1
      omega
theorem app_one {room : Nat} {nm l b : List UInt8} (h : nmOk nm = true) (hb : l.length + b.length ≤ room) (wr : Nat) (keep : Int) : (S1 room nm l 0 keep false wr).append nm b = (0, S1 room nm (l ++ b) 0 keep false (wr + 1)) := by
  unfold DS.append
  rw [if_neg (by rw [may_one h]; decide), if_neg, if_neg (by show ¬ (0 : Int) = 1; decide)]
  · show ((0 : Int), DS.put _ nm (bytC [(nm, l)] nm ++ b)) = _
    rw [bytC_one]
    show ((0 : Int), (⟨room, setC [(nm, l)] nm (l ++ b), _, keep, _, wr + 1⟩ : DS)) = _
    rw [setC_one]
    rfl
  · rintro (h1 | h1)
    · exact absurd h1.2 (by show ¬ 64 ≤ 1; decide)
    · have : room < (l.length + 0) + b.length := h1
      omega
theorem app_tear {room : Nat} {nm l b : List UInt8} (h : nmOk nm = true) (hb : l.length + b.length ≤ room) (wr : Nat) (keep : Int) : (S1 room nm l 1 keep false wr).append nm b = (94, S1 room nm (l ++ keptB b keep) 0 keep true (wr + 1)) := by
  unfold DS.append
  rw [if_neg (by rw [may_one h]; decide), if_neg, if_pos (by show (1 : Int) = 1; rfl)]
  · rw [if_pos (.inl (hasC_one nm l))]
    show ((94 : Int), DS.put _ nm (bytC [(nm, l)] nm ++ keptB b keep)) = _
    rw [bytC_one]
    show ((94 : Int), (⟨room, setC [(nm, l)] nm (l ++ keptB b keep), _, keep, _, wr + 1⟩ : DS)) = _
    rw [setC_one]
    rfl
  · rintro (h1 | h1)
    · exact absurd h1.2 (by show ¬ 64 ≤ 1; decide)
    · have : room < (l.length + 0) + b.length := h1
      omega
theorem readB_one {room : Nat} {nm l : List UInt8} (h : nmOk nm = true) (armed keep : Int) (wr : Nat) : readB (S1 room nm l armed keep false wr) nm = l := by
  unfold readB
  rw [if_pos (may_one h armed keep wr true)]
  exact bytC_one nm l
theorem readB_new {room : Nat} {nm : List UInt8} (h : nmOk nm = true) (wr : Nat) (keep : Int) : readB ⟨room, [], 0, keep, false, wr⟩ nm = [] := by
  unfold readB
  rw [(may_new h wr keep).2]
  rfl
theorem open_new {room : Nat} {nm : List UInt8} (h : nmOk nm = true) (wr : Nat) (keep : Int) : openR ⟨room, [], 0, keep, false, wr⟩ nm = (0, some ([], 0), ⟨room, [], 0, keep, false, wr⟩) := by
  unfold openR
  rw [(may_new h wr keep).2, if_neg (by omega), readB_new h, recOf_nil]
  rfl
theorem open_whole {room : Nat} {nm l : List UInt8} (h : nmOk nm = true) (armed keep : Int) (wr : Nat) {xs : List (List UInt8)} {k : Nat} (hr : recOf l = (xs, k, 0)) : openR (S1 room nm l armed keep false wr) nm = (0, some (xs, k), S1 room nm l armed keep false wr) := by
  unfold openR
  rw [may_one h, if_neg (by omega), readB_one h, hr]
  rfl
theorem open_hurt {room : Nat} {nm l : List UInt8} (h : nmOk nm = true) (armed keep : Int) (wr : Nat) (hr : (recOf l).2.2 = 101) : openR (S1 room nm l armed keep false wr) nm = (101, none, S1 room nm l armed keep false wr) := by
  unfold openR
  rw [may_one h, if_neg (by omega), readB_one h, if_pos hr]
theorem cut_any {room : Nat} {nm l : List UInt8} (h : nmOk nm = true) (armed keep : Int) (wr k : Nat) (hk : k ≤ l.length) : (S1 room nm l armed keep false wr).cut nm (k : Int) = (S1 room nm l armed keep false wr).whole fun t => t.put nm (l.take k) := by
  unfold DS.cut
  rw [if_neg (by rw [may_one h]; decide)]
  show (if (k : Int) < 0 ∨ ((bytC [(nm, l)] nm).length : Int) < (k : Int) then _ else DS.whole _ fun t => t.put nm ((bytC [(nm, l)] nm).take (k : Int).toNat)) = _
  rw [bytC_one, if_neg (by omega), Int.toNat_natCast]
theorem cut_go {room : Nat} {nm l : List UInt8} (h : nmOk nm = true) (keep : Int) (wr k : Nat) (hk : k ≤ l.length) : (S1 room nm l 0 keep false wr).cut nm (k : Int) = (0, S1 room nm (l.take k) 0 keep false (wr + 1)) := by
  rw [cut_any h _ _ _ _ hk]
  unfold DS.whole
  rw [if_neg (by show ¬ (0 : Int) = 1; decide)]
  show ((0 : Int), (⟨room, setC [(nm, l)] nm (l.take k), _, keep, _, wr + 1⟩ : DS)) = _
  rw [setC_one]
  rfl
theorem cut_tear {room : Nat} {nm l : List UInt8} (h : nmOk nm = true) (keep : Int) (wr k : Nat) (hk : k ≤ l.length) : (S1 room nm l 1 keep false wr).cut nm (k : Int) = (94, S1 room nm (if 0 < keep then l.take k else l) 0 keep true (wr + 1)) := by
  rw [cut_any h _ _ _ _ hk]
  unfold DS.whole
  rw [if_pos (by show (1 : Int) = 1; rfl)]
  by_cases c : 0 < keep
  · rw [if_pos c]
    show ((94 : Int), if 0 < keep then _ else _) = _
    rw [if_pos c]
    show ((94 : Int), (⟨room, setC [(nm, l)] nm (l.take k), _, keep, _, wr + 1⟩ : DS)) = _
    rw [setC_one]
    rfl
  · rw [if_neg c]
    show ((94 : Int), if 0 < keep then _ else _) = _
    rw [if_neg c]
    rfl
theorem open_torn {room : Nat} {nm l : List UInt8} (h : nmOk nm = true) (keep : Int) (wr : Nat) {xs : List (List UInt8)} {k : Nat} (hr : recOf l = (xs, k, 30)) : openR (S1 room nm l 0 keep false wr) nm = (0, some (xs, k), S1 room nm (l.take k) 0 keep false (wr + 1)) := by
  have hk : k ≤ l.length := by have := recOf_at l; rw [hr] at this; exact this
  unfold openR
  rw [may_one h, if_neg (by omega), readB_one h, hr]
  simp only [cut_go h keep wr k hk]
  rfl
theorem open_torn2 {room : Nat} {nm l : List UInt8} (h : nmOk nm = true) (keep : Int) (wr : Nat) {xs : List (List UInt8)} {k : Nat} (hr : recOf l = (xs, k, 30)) : openR (S1 room nm l 1 keep false wr) nm = (94, none, S1 room nm (if 0 < keep then l.take k else l) 0 keep true (wr + 1)) := by
  have hk : k ≤ l.length := by have := recOf_at l; rw [hr] at this; exact this
  unfold openR
  rw [may_one h, if_neg (by omega), readB_one h, hr]
  simp only [cut_tear h keep wr k hk]
  rfl
theorem keptB_nat (b : List UInt8) (k : Nat) (hk : k ≤ b.length) : keptB b (k : Int) = b.take k := by
  unfold keptB
  congr 1
  omega
/-- An Append to a log where it goes through. -/
theorem walA_new {room : Nat} {nm x : List UInt8} (h : nmOk nm = true) (hx : x.length ≤ 16777216) (hb : x.length + 13 ≤ room) (n wr : Nat) (keep : Int) : walA ⟨room, [], 0, keep, false, wr⟩ nm n false x = (0, n + (x.length + 13), false, S1 room nm (frm x) 0 keep false (wr + 1)) := by
  unfold walA
  rw [if_neg (by decide), if_neg (by omega), app_new h (by rw [frm_length]; exact hb)]
  rfl
theorem walA_one {room : Nat} {nm l x : List UInt8} (h : nmOk nm = true) (hx : x.length ≤ 16777216) (hb : l.length + (x.length + 13) ≤ room) (n wr : Nat) (keep : Int) : walA (S1 room nm l 0 keep false wr) nm n false x = (0, n + (x.length + 13), false, S1 room nm (l ++ frm x) 0 keep false (wr + 1)) := by
  unfold walA
  rw [if_neg (by decide), if_neg (by omega), app_one h (by rw [frm_length]; exact hb)]
  rfl
theorem walA_tear {room : Nat} {nm l x : List UInt8} (h : nmOk nm = true) (hx : x.length ≤ 16777216) (hb : l.length + (x.length + 13) ≤ room) (n wr : Nat) (keep : Int) : walA (S1 room nm l 1 keep false wr) nm n false x = (94, n, true, S1 room nm (l ++ keptB (frm x) keep) 0 keep true (wr + 1)) := by
  unfold walA
  rw [if_neg (by decide), if_neg (by omega), app_tear h (by rw [frm_length]; exact hb)]
  rfl
end Go.Proofs.YtnbpkignkfabkaaGreatDoor
namespace Go.Proofs.YtnbpkignkfabkaaGreatDoor
set_option linter.unusedVariables false
set_option linter.unusedSimpArgs false
open Go.RowKit Go.Maps
set_option maxRecDepth 100000 in
theorem num10_calls (n : Int) (w : World) : Calls Tryz.prog 7 #[.int .i64 n] w fun r w' => r = .returned (.int .i64 n) ∧ w = w' := by
  go_enter Tryz.func7, Tryz.ntmps7
  go_wp2
  go_ret
  exact ⟨rfl, rfl⟩
set_option maxRecDepth 100000 in
theorem WalSize_calls (lb db : Nat) (nm : List UInt8) (n : Nat) (off : Bool) (w : World) (h : Lg w lb db nm n off) : Calls Tryz.prog 20 #[.pointer (some ⟨lb, 0, none⟩)] w fun r w' => r = .returned (.int .i64 n) ∧ w = w' := by
  obtain ⟨c0, c1, c2, c3⟩ := h.cells
  clear h
  go_enter Tryz.func20, Tryz.ntmps20
  go_wp2
  go_ret
  exact ⟨rfl, rfl⟩
/-- What a log's Append leaves. -/
def WalStep (w w' : World) (B db lb : Nat) (F : Nat → Prop) (nm : List UInt8) (q : Int × Nat × Bool × DS) (r : Ending) : Prop :=
  r = .returned (.int .i64 q.1) ∧ ∃ F', DkS w' B db F' q.2.2.2 ∧ Lg w' lb db nm q.2.1 q.2.2.1 ∧ ¬ F' lb ∧ Upd (fun i => F i ∨ i = lb) w w' ∧ Below B w w' ∧ ∀ i, F' i → F i ∨ w.heap.size ≤ i
theorem DkS.wal {w w' : World} {B db lb : Nat} {F : Nat → Prop} {s : DS} {nm : List UInt8} {n : Nat} {off : Bool} {q : Int × Nat × Bool × DS} {r : Ending} (h : DkS w B db F s) (hl : Lg w lb db nm n off) (hlb : B ≤ lb) (hn : ¬ F lb) (hw : WalP w w' B lb db F nm q r) : WalStep w w' B db lb F nm q r := by
  obtain ⟨h0, F', h1, h2, h3, h4⟩ := hw
  refine ⟨h0, fun i => F' i ∧ B ≤ i ∧ i < w'.heap.size, ⟨h1.cut, fun i hi => hi.2, Nat.le_trans h.bw h3.size⟩, h2, ?_, h3, h3.below (fun k hk _ => hk.elim (fun hk => (h.fl k hk).1) (fun hk => by rw [hk]; exact hlb)) h.bw, fun i hi => h4 i hi.1⟩
  intro hf
  rcases h4 lb hf.1 with h5 | h5
  · exact hn h5
  · have := hl.lt; omega
/-- What an Open leaves. -/
def OpenStep (w w' : World) (B db : Nat) (F : Nat → Prop) (nm : List UInt8) (q : Int × Option (List (List UInt8) × Nat) × DS) (r : Ending) : Prop :=
  ∃ F', DkS w' B db F' q.2.2 ∧ Upd F w w' ∧ Below B w w' ∧ (∀ i, F' i → F i ∨ w.heap.size ≤ i) ∧
    match q.2.1 with
    | none => r = .returned (.tuple #[.pointer none, .slice none 0 0, .int .i64 q.1])
    | some (xs, n) => ∃ lb a c Af Cf, r = .returned (.tuple #[.pointer (some ⟨lb, 0, none⟩), .slice a xs.length c, .int .i64 q.1]) ∧ Lg w' lb db nm n false ∧ w.heap.size ≤ lb ∧ ¬ F' lb ∧ Rd2 w' a xs Af Cf ∧ RdG (fun i => w.heap.size ≤ i ∧ ¬ F' i ∧ i < w'.heap.size) a xs Af
theorem DkS.opened {w w' : World} {B db : Nat} {F : Nat → Prop} {s : DS} {nm : List UInt8} {q : Int × Option (List (List UInt8) × Nat) × DS} {r : Ending} (h : DkS w B db F s) (hw : OpenP w w' B db F nm q r) : OpenStep w w' B db F nm q r := by
  obtain ⟨F', h1, h2, h3, h4⟩ := hw
  refine ⟨fun i => F' i ∧ B ≤ i ∧ i < w'.heap.size, ⟨h1.cut, fun i hi => hi.2, Nat.le_trans h.bw h2.size⟩, h2, h2.below (fun k hk _ => (h.fl k hk).1) h.bw, fun i hi => h3 i hi.1, ?_⟩
  cases hq : q.2.1 with
  | none => rw [hq] at h4; exact h4
  | some p =>
    rw [hq] at h4
    obtain ⟨xs, n⟩ := p
    obtain ⟨lb, a, c, Af, Cf, g1, g2, g3, g4, g5, g6, -⟩ := h4
    exact ⟨lb, a, c, Af, Cf, g1, g2, g3, fun hf => g4 hf.1, g5, g6.mono (fun i hi => ⟨hi.1, fun hf => hi.2.1 hf.1, hi.2.2⟩)⟩
/-- What an Open leaves, its rows one's own. -/
def OpenStep2 (w w' : World) (B db : Nat) (F : Nat → Prop) (nm : List UInt8) (q : Int × Option (List (List UInt8) × Nat) × DS) (r : Ending) : Prop :=
  ∃ F', DkS w' B db F' q.2.2 ∧ Upd F w w' ∧ Below B w w' ∧ (∀ i, F' i → F i ∨ w.heap.size ≤ i) ∧
    match q.2.1 with
    | none => r = .returned (.tuple #[.pointer none, .slice none 0 0, .int .i64 q.1])
    | some (xs, n) => ∃ lb a c Af Cf, r = .returned (.tuple #[.pointer (some ⟨lb, 0, none⟩), .slice a xs.length c, .int .i64 q.1]) ∧ Lg w' lb db nm n false ∧ w.heap.size ≤ lb ∧ ¬ F' lb ∧ Rd2 w' a xs Af Cf ∧ RdG (fun i => w.heap.size ≤ i ∧ ¬ F' i ∧ i < w'.heap.size) a xs Af ∧ Els w' w.heap.size F' a c xs Af Cf
theorem DkS.opened2 {w w' : World} {B db : Nat} {F : Nat → Prop} {s : DS} {nm : List UInt8} {q : Int × Option (List (List UInt8) × Nat) × DS} {r : Ending} (h : DkS w B db F s) (hw : OpenP w w' B db F nm q r) : OpenStep2 w w' B db F nm q r := by
  obtain ⟨F', h1, h2, h3, h4⟩ := hw
  refine ⟨fun i => F' i ∧ B ≤ i ∧ i < w'.heap.size, ⟨h1.cut, fun i hi => hi.2, Nat.le_trans h.bw h2.size⟩, h2, h2.below (fun k hk _ => (h.fl k hk).1) h.bw, fun i hi => h3 i hi.1, ?_⟩
  cases hq : q.2.1 with
  | none => rw [hq] at h4; exact h4
  | some p =>
    rw [hq] at h4
    obtain ⟨xs, n⟩ := p
    obtain ⟨lb, a, c, Af, Cf, g1, g2, g3, g4, g5, g6, g7⟩ := h4
    exact ⟨lb, a, c, Af, Cf, g1, g2, g3, fun hf => g4 hf.1, g5, g6.mono (fun i hi => ⟨hi.1, fun hf => hi.2.1 hf.1, hi.2.2⟩), g7.out2 (fun i hi _ _ => hi.1)⟩
theorem Open_s2 {w : World} {B db : Nat} {F : Nat → Prop} {s : DS} (nm : List UInt8) (h : DkS w B db F s) (ht : Tab w) (hg : 0 < B) (hnm : nm.length ≤ 140737488351232) (hw : s.writes ≤ 4611686018427387904) :
    Calls Tryz.prog 16 #[.pointer (some ⟨db, 0, none⟩), .string ⟨nm.toArray⟩] w fun r w' => OpenStep2 w w' B db F nm (openR s nm) r :=
  (Open_calls B db F s nm w h.dk (fun i hi => (h.fl i hi).2) ht (Nat.lt_of_lt_of_le hg h.bw) (fun hf => by have := (h.fl _ hf).1; omega) hnm hw).mono fun _ _ hr => h.opened2 hr
/-- Open, for a disk as a law holds it. -/
theorem Open_s {w : World} {B db : Nat} {F : Nat → Prop} {s : DS} (nm : List UInt8) (h : DkS w B db F s) (ht : Tab w) (hg : 0 < B) (hnm : nm.length ≤ 140737488351232) (hw : s.writes ≤ 4611686018427387904) :
    Calls Tryz.prog 16 #[.pointer (some ⟨db, 0, none⟩), .string ⟨nm.toArray⟩] w fun r w' => OpenStep w w' B db F nm (openR s nm) r :=
  (Open_calls B db F s nm w h.dk (fun i hi => (h.fl i hi).2) ht (Nat.lt_of_lt_of_le hg h.bw) (fun hf => by have := (h.fl _ hf).1; omega) hnm hw).mono fun _ _ hr => h.opened hr
theorem WalAppend_s {w : World} {B db lb : Nat} {F : Nat → Prop} {s : DS} {nm : List UInt8} {n : Nat} {off : Bool} (b : List UInt8) (ba : Option Addr) (bc : Nat) (h : DkS w B db F s) (hl : Lg w lb db nm n off) (hlb : B ≤ lb) (hF : ¬ F lb) (ht : Tab w) (hg : 0 < B) (hb : Byt w ba b) (hs : b.length ≤ 140737488355328) (hnm : nm.length ≤ 140737488351232) (hw : s.writes ≤ 4611686018427387904) (hn : n ≤ 4611686018427387904) :
    Calls Tryz.prog 17 #[.pointer (some ⟨lb, 0, none⟩), .slice ba b.length bc] w fun r w' => WalStep w w' B db lb F nm (walA s nm n off b) r :=
  (WalAppend_calls B lb db F s nm n off b ba bc w h.dk hl hF ht (Nat.lt_of_lt_of_le hg h.bw) hb hs hnm hw hn).mono fun _ _ hr => h.wal hl hlb hF hr
theorem Tab.bel {w w' : World} {B : Nat} (h : Tab w) (hb : Below B w w') (hg : 0 < B) : Tab w' := fun i hi => (hb.cell (p := ⟨0, i, none⟩) hg).trans (h i hi)
end Go.Proofs.YtnbpkignkfabkaaGreatDoor
