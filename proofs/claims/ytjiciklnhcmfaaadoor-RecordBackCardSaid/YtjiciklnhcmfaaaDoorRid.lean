/- (*record.Reader).ID where the reader was refused. -/
import Derived.Test.YtjiciklnhcmfaaaDoorPuts
import Derived.Test.YtjiciklnhcmfaaaDoorRdr3
import Derived.Laws.CopyRow
namespace Go.Proofs.YtjiciklnhcmfaaaDoor
set_option linter.unusedVariables false
set_option linter.unusedSimpArgs false
open Go.RowKit
def zid : Value := .agg #[.int .u8 0, .int .u8 0, .int .u8 0, .int .u8 0, .int .u8 0, .int .u8 0, .int .u8 0, .int .u8 0, .int .u8 0, .int .u8 0, .int .u8 0, .int .u8 0, .int .u8 0, .int .u8 0, .int .u8 0, .int .u8 0]
set_option maxRecDepth 100000 in
set_option maxHeartbeats 1000000 in
theorem RID_off (rb ro B : Nat) (w : World) (l : List UInt8) (e : Int) (a : Option Addr) (cap : Nat) (h : Rdr w rb ro B l e a cap) (he : e ≠ 0) :
    Calls Tryd.prog 40 #[.pointer (some ⟨rb, ro, none⟩)] w fun r w' => r = .returned zid ∧ Below w.heap.size w w' := by
  have H := Lib.hid h; clear h
  go_enter Tryd.func40, Tryd.ntmps40
  go_wp2_with fail
  have H2 := Lib.hid (H.out.upd ((Upd.refl (fun _ => False) w).alloc (.cells #[.int .u8 0, .int .u8 0, .int .u8 0, .int .u8 0, .int .u8 0, .int .u8 0, .int .u8 0, .int .u8 0, .int .u8 0, .int .u8 0, .int .u8 0, .int .u8 0, .int .u8 0, .int .u8 0, .int .u8 0, .int .u8 0] 97)) (fun s => s) (fun s => s))
  refine (take_off rb ro B 16 _ l e a cap H2.out he).mono ?_
  rintro r w1 ⟨rfl, rfl⟩
  clear he
  have cp := fun w' => run_copy_nil (P := Tryd.prog) w' 55 55 3 5 ⟨w.heap.size, 0, none⟩ 16 16 Tryd.underlying55 (by kernel_rfl)
  go_wp2
  exact bodyPost_ret (v := zid) (by simp [results, Tryd.results40, go_sem, zid]) rfl ⟨rfl, (Below.refl _ _).alloc (Nat.le_refl _) _⟩
end Go.Proofs.YtjiciklnhcmfaaaDoor
