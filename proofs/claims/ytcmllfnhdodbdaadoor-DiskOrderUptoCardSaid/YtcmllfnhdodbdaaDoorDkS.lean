/- A disk as a law holds it. -/
import Derived.Test.YtcmllfnhdodbdaaDoorOpsK
namespace Go.Proofs.YtcmllfnhdodbdaaDoor
set_option linter.unusedVariables false
set_option linter.unusedSimpArgs false
open Go.RowKit Go.Maps
/-- A disk that was made since B, as a law holds it. -/
structure DkS (w : World) (B db : Nat) (F : Nat → Prop) (s : DS) : Prop where
  dk : Dk w B F db s
  fl : ∀ i, F i → B ≤ i ∧ i < w.heap.size
  bw : B ≤ w.heap.size
def DkStep (w w' : World) (B db : Nat) (F : Nat → Prop) (s : DS) : Prop := ∃ F', DkS w' B db F' s ∧ Upd F w w' ∧ Below B w w' ∧ ∀ i, F' i → F i ∨ w.heap.size ≤ i
theorem DkS.step {w w' : World} {B db : Nat} {F : Nat → Prop} {s s' : DS} (h : DkS w B db F s) (hd : DkTo w w' B db F s') : DkStep w w' B db F s' := by
  obtain ⟨F', h1, h2, h3⟩ := hd
  exact ⟨fun i => F' i ∧ B ≤ i ∧ i < w'.heap.size, ⟨h1.cut, fun i hi => hi.2, Nat.le_trans h.bw h2.size⟩, h2, h2.below (fun k hk _ => (h.fl k hk).1) h.bw, fun i hi => h3 i hi.1⟩
theorem DkS.below {w w' : World} {B db : Nat} {F : Nat → Prop} {s : DS} (h : DkS w B db F s) (hb : Below w.heap.size w w') : DkS w' B db F s := ⟨h.dk.below hb, fun i hi => ⟨(h.fl i hi).1, Nat.lt_of_lt_of_le (h.fl i hi).2 hb.size⟩, Nat.le_trans h.bw hb.size⟩
theorem DkS.upd {w w' : World} {B db : Nat} {F S : Nat → Prop} {s : DS} (h : DkS w B db F s) (hu : Upd S w w') (hs : ∀ i, S i → ¬ F i) : DkS w' B db F s := ⟨h.dk.upd hu hs, fun i hi => ⟨(h.fl i hi).1, Nat.lt_of_lt_of_le (h.fl i hi).2 hu.size⟩, Nat.le_trans h.bw hu.size⟩
theorem DkN.s {w : World} {B db : Nat} {s : DS} (h : DkN w B db s) : ∃ F, DkS w B db F s ∧ ∀ i, F i → B ≤ i :=
  ⟨fun i => B ≤ i ∧ B ≤ i ∧ i < w.heap.size, ⟨h.1.cut, fun i hi => hi.2, h.2⟩, fun i hi => hi.1⟩
/-- An answer of Read. -/
theorem DkS.read {w w' : World} {B db : Nat} {F : Nat → Prop} {s : DS} (h : DkS w B db F s) (hd : Dk w' B F db s) (hu : Upd (fun i => i = db) w w') : DkS w' B db F s ∧ Upd F w w' ∧ Below B w w' := by
  have hu' : Upd F w w' := hu.mono (fun i hi _ => by rw [hi]; exact h.dk.at_)
  exact ⟨⟨hd, fun i hi => ⟨(h.fl i hi).1, Nat.lt_of_lt_of_le (h.fl i hi).2 hu.size⟩, Nat.le_trans h.bw hu.size⟩, hu', hu'.below (fun k hk _ => (h.fl k hk).1) h.bw⟩
/-- New, as a law sees it. -/
theorem new_s {w w' : World} {room : Nat} {r : Ending} (h1 : 1 ≤ room) (h2 : room ≤ 268435456) (h : LoadP w w' (room : Int) [] r) : ∃ db F, r = .returned (.tuple #[.pointer (some ⟨db, 0, none⟩), .int .i64 0]) ∧ DkS w' w.heap.size db F (DS.new room) ∧ Below w.heap.size w w' := by
  have e : loadR (room : Int) [] = (0, some (DS.new room)) := by
    unfold loadR
    rw [if_neg (by omega), if_neg (by simp)]
    rw [Int.toNat_natCast]
    rfl
  unfold LoadP at h
  rw [e] at h
  obtain ⟨db, g1, g2, g3⟩ := h
  exact ⟨db, _, g1, ⟨g2.cut, fun i hi => hi.2, g3.size⟩, g3⟩
theorem ds_new (room : Nat) : DS.new room = ⟨room, [], 0, 0, false, 0⟩ := rfl
theorem DkS.arm {w : World} {B db : Nat} {F : Nat → Prop} {s : DS} (h : DkS w B db F s) (n keep : Int) (hn : n ≤ 9223372036854775807) : Calls Tryd.prog 26 #[.pointer (some ⟨db, 0, none⟩), .int .i64 n, .int .i64 keep] w fun r w' => r = .returned (.tuple #[]) ∧ DkStep w w' B db F (s.arm n keep) :=
  (Arm_dk n keep h.dk hn).mono fun _ _ hr => ⟨hr.1, h.step hr.2⟩
theorem DkS.on {w : World} {B db : Nat} {F : Nat → Prop} {s : DS} (h : DkS w B db F s) : Calls Tryd.prog 27 #[.pointer (some ⟨db, 0, none⟩)] w fun r w' => r = .returned (.tuple #[]) ∧ DkStep w w' B db F s.on :=
  (On_dk h.dk).mono fun _ _ hr => ⟨hr.1, h.step hr.2⟩
theorem DkS.offq {w : World} {B db : Nat} {F : Nat → Prop} {s : DS} (h : DkS w B db F s) : Calls Tryd.prog 19 #[.pointer (some ⟨db, 0, none⟩)] w fun r w' => r = .returned (.bool s.off) ∧ DkStep w w' B db F s :=
  (Off_dk h.dk).mono fun _ _ hr => ⟨hr.1, h.step hr.2⟩
end Go.Proofs.YtcmllfnhdodbdaaDoor
