/- disk: Size. -/
import Derived.Test.YtcmllfnhdodbdaaDoorRead
namespace Go.Proofs.YtcmllfnhdodbdaaDoor
set_option linter.unusedVariables false
set_option linter.unusedSimpArgs false
open Go.RowKit Go.Maps
def SizeP (w w' : World) (base db mb : Nat) (k : DkV) (L : List Fl) (D : DataW Value) (nm : List UInt8) (r : Ending) : Prop :=
  r = .returned (.tuple #[.int .i64 ((if mayR k.off L true [nm] = 0 then bytF L nm else []).length : Nat), .int .i64 (mayR k.off L true [nm])]) ∧ Dsk w' base db mb 0 k L D ∧ Upd (fun i => i = db) w w'
set_option maxRecDepth 100000 in
set_option maxHeartbeats 4000000 in
theorem Size_calls (base db mb : Nat) (k : DkV) (L : List Fl) (D : DataW Value) (nm : List UInt8) (w : World) (h : Dsk w base db mb 0 k L D) (hnm : nm.length ≤ 140737488351232) (hlen : (bytF L nm).length ≤ 140737488355328) :
    Calls Tryd.prog 13 #[.pointer (some ⟨db, 0, none⟩), .string ⟨nm.toArray⟩] w fun r w' => SizeP w w' base db mb k L D nm r := by
  have RC := Read_calls base db mb k L D nm w h hnm hlen
  unfold ReadP at RC
  unfold SizeP
  obtain ⟨e, he⟩ : ∃ e, mayR k.off L true [nm] = e := ⟨_, rfl⟩
  obtain ⟨t, ht⟩ : ∃ t, (if mayR k.off L true [nm] = 0 then bytF L nm else []) = t := ⟨_, rfl⟩
  rw [ht] at RC ⊢
  rw [he] at RC ⊢
  have RCH := Lib.hid RC
  clear RC he ht h hnm hlen
  go_enter Tryd.func13, Tryd.ntmps13
  go_wp2_with fail
  refine RCH.out.mono ?_
  rintro r w1 ⟨v, rfl, ho, hd, hu⟩
  obtain ⟨a, c, rfl, -, -, -⟩ := ho.shape'
  have DH := Lib.hid hd; have UH := Lib.hid hu
  clear ho hd hu
  go_wp2
  go_ret2
  exact ⟨rfl, DH.out, UH.out⟩
end Go.Proofs.YtcmllfnhdodbdaaDoor
