/- posternlaw3.works answers true. -/
import Derived.Test.YtjiciklnhcmfaaaGreatDoorFrmLaw
import Derived.Lib.SlBytesConst
namespace Go.Proofs.YtjiciklnhcmfaaaGreatDoor
set_option linter.unusedVariables false
set_option linter.unusedSimpArgs false
open Go.RowKit
theorem num_calls (e : Int) (w : World) : Calls Tryz.prog 27 #[.int .i64 e] w fun r w' => r = .returned (.int .i64 e) ∧ w = w' := by
  go_enter Tryz.func27, Tryz.ntmps27
  go_wp2
  go_ret
  exact ⟨rfl, rfl⟩
def wk : List UInt8 := [1, 2, 0, 0, 0, 1, 97]
theorem below_wupd {w0 w w' : World} {pb po : Nat} {v v' : Value} (hb : Below w0.heap.size w0 w) (h : WUpd w w' pb po v v') (hp : w0.heap.size ≤ pb) (hv : ∀ k, v.ownBlock = some k → w0.heap.size ≤ k) : Below w0.heap.size w0 w' :=
  hb.trans (h.upd.below (by rintro k (rfl | hk) _; exact hp; exact hv k hk) hb.size)
theorem below_rupd {w0 w w' : World} {rb ro : Nat} (hb : Below w0.heap.size w0 w) (h : RUpd w w' rb ro) (hp : w0.heap.size ≤ rb) : Below w0.heap.size w0 w' :=
  hb.trans (h.upd.below (by rintro k rfl _; exact hp) hb.size)

set_option maxRecDepth 100000 in
set_option maxHeartbeats 4000000 in
theorem works_calls (w : World) (ht : Tab w) (hg : 0 < w.heap.size) :
    Calls Tryz.prog 8 #[] w fun r w' => r = .returned (.bool true) ∧ Below w.heap.size w w' := by
  have HT := Lib.hid ht; clear ht
  have HG := Lib.hid hg; clear hg
  have W0 := Lib.hid (Wri.new (w := w) (Nat.le_refl _))
  have kc := fun (w : World) (C : Array Value) (n c : Nat) => Lib.run_convert_bytes_const (P := Tryz.prog) w 23 5 C n c Tryz.underlying23 Tryz.underlying5
  go_enter Tryz.func8, Tryz.ntmps8
  go_wp2_with fail
  refine (Num_calls w.heap.size 0 w.heap.size 258 2 _ _ [] 0 W0.out (Nat.le_refl _) (by simp)).mono ?_
  rintro r w1 ⟨rfl, v1, hw, hu⟩
  have B1 := Lib.hid (below_wupd ((Below.refl _ w).alloc (Nat.le_refl _) _) hu (Nat.le_refl _) (fun k hk => by cases hk))
  rw [show wNum [] 0 258 2 = ([1, 2], 0) by decide] at hw
  have W1 := Lib.hid hw
  have V1 := Lib.hid (fun k hk => (hw.own.lt k hk).1)
  clear hw hu W0
  go_wp2_with fail
  refine (Text_calls w.heap.size 0 w.heap.size _ _ _ [1, 2] 0 W1.out (Nat.le_refl _) (by simp) (by decide)).mono ?_
  rintro r w2 ⟨rfl, v2, hw, hu⟩
  have B2 := Lib.hid (below_wupd B1.out hu (Nat.le_refl _) V1.out)
  rw [show wText [1, 2] 0 (ByteArray.mk #[97]).data.toList = (wk, 0) by decide] at hw
  have W2 := Lib.hid hw
  clear hw hu W1 V1 B1
  go_wp2_with fail
  refine (Done_calls w.heap.size 0 w.heap.size _ _ wk 0 W2.out (by decide)).mono ?_
  rintro r w3 ⟨v3, rfl, ho, hb⟩
  rw [show wDone wk 0 = (wk, 0) by decide] at ho
  have B3 := Lib.hid (B2.out.trans (hb.mono B2.out.size))
  obtain ⟨a3, c3, rfl, _, hc3, hy3, _⟩ := own_val ho
  have Y3 := Lib.hid hy3
  clear ho hb hy3 W2 B2
  go_wp2_with fail
  refine (From_calls _ wk a3 c3 Y3.out (by decide)).mono ?_
  rintro r w4 ⟨rb, RB, a4, c4, rfl, hr, hrb, hRB, hb⟩
  have hrb' : w.heap.size ≤ rb := Nat.le_trans B3.out.size hrb
  have B4 := Lib.hid (B3.out.trans (hb.mono B3.out.size))
  have Y4 := Lib.hid (Y3.out.below hb)
  have A3 : Hid (∀ ad, a3 = some ad → ad.block ≠ rb) := by rintro ad rfl e; have := Y3.out.lt (by decide); rw [e] at this; omega
  have R4 := Lib.hid hr
  clear hr hRB hb B3 Y3
  go_wp2_with fail
  refine (RNum_calls rb 0 RB 2 _ wk 0 a4 c4 R4.out (by decide)).mono ?_
  rintro r w5 ⟨rfl, a5, c5, hr, hu⟩
  rw [show rNum wk 0 2 = (258, [0, 0, 0, 1, 97], 0) by decide] at hr ⊢
  have B5 := Lib.hid (below_rupd B4.out hu hrb')
  have Y5 : Hid (Byt w5 a3 wk) := Y4.out.upd hu.upd (fun ad h _ => A3.out ad h)
  have R5 := Lib.hid hr
  clear hr hu B4 Y4 R4
  go_wp2_with fail
  refine (RText_calls rb 0 RB _ [0, 0, 0, 1, 97] 0 a5 c5 R5.out (by decide)).mono ?_
  rintro r w6 ⟨rfl, a6, c6, hr, hu⟩
  rw [show rBytes [0, 0, 0, 1, 97] 0 = ([97], [], 0) by decide] at hr ⊢
  have B6 := Lib.hid (below_rupd B5.out hu hrb')
  have Y6 : Hid (Byt w6 a3 wk) := Y5.out.upd hu.upd (fun ad h _ => A3.out ad h)
  have R6 := Lib.hid hr
  clear hr hu B5 Y5 R5
  go_wp2_with fail
  have YA : Hid (Byt (w6.alloc (.cells #[.int .u8 97] 5 (1, 2))) (some ⟨w6.heap.size, 0, none⟩) [97]) := by
    intro i hi
    match i, hi with
    | 0, _ => exact ⟨w6.heap.size, 0, rfl, by rw [cell_of_row' (heap_alloc_new w6 _)]; rfl⟩
  have TA : Hid (Tab (w6.alloc (.cells #[.int .u8 97] 5 (1, 2)))) := (HT.out.below B6.out).upd ((Upd.refl (fun _ => False) w6).alloc _) (fun h => h)
  have GA : Hid (0 < (w6.alloc (.cells #[.int .u8 97] 5 (1, 2))).heap.size) := by show _ < _; have := HG.out; have := B6.out.size; rw [World.size_alloc]; omega
  refine (Frame_calls _ [97] (some ⟨w6.heap.size, 0, none⟩) 1 YA.out TA.out GA.out (by decide)).mono ?_
  rintro r w7 ⟨v7, rfl, ho, hb⟩
  have e7 : FrameR [97] = (frm [97], 0) := rfl
  rw [e7] at ho ⊢
  have B7 := Lib.hid ((B6.out.alloc B6.out.size _).trans (hb.mono (by have := B6.out.size; rw [World.size_alloc]; omega)))
  have Y7 : Hid (Byt w7 a3 wk) := (Y6.out.alloc _).below hb
  have R7 : Hid (Rdr w7 rb 0 RB [] 0 a6 c6) := (R6.out.upd ((Upd.refl (fun _ => False) w6).alloc _) (fun h => h) (fun h => h)).upd (Upd.ofBelow hb) (fun h => h) (fun h => h)
  obtain ⟨a7, c7, rfl, _, hc7, hf7, _⟩ := own_val ho
  have F7 := Lib.hid hf7
  have l14 : (frm [97]).length = 14 := frm_length [97]
  have hun := Unframe_calls w7 (frm [97]) a7 c7 hf7 hc7 (by rw [l14]; decide) (HT.out.below B7.out)
  rw [show UnframeR (frm [97]) = ([97], 14, 0) by have := unframe_frm [97] [] (by decide); rwa [List.append_nil] at this, l14] at hun
  have HUN := Lib.hid hun
  rw [l14]
  clear ho hb hf7 hun hc7 l14 e7 B6 Y6 R6 YA TA GA
  go_wp2_with fail
  refine HUN.out.mono ?_
  rintro r w8 ⟨v8, rfl, ho, hb⟩
  have B8 := Lib.hid (B7.out.trans (hb.mono B7.out.size))
  have Y8 : Hid (Byt w8 a3 wk) := Y7.out.below hb
  have R8 : Hid (Rdr w8 rb 0 RB [] 0 a6 c6) := R7.out.upd (Upd.ofBelow hb) (fun h => h) (fun h => h)
  obtain ⟨a8, c8, rfl, _, hc8, hf8, _⟩ := own_val ho
  have x1 : (convert 23 9 (.slice a3 wk.length c3)).run Tryz.prog w8 = .ok (.string ⟨wk.toArray⟩) w8 := conv_bytes Tryz.underlying23 Tryz.underlying5 Tryz.underlying9 Y8.out
  have x2 : (convert 23 9 (.slice a8 1 c8)).run Tryz.prog w8 = .ok (.string ⟨[97].toArray⟩) w8 := conv_bytes (t := [97]) Tryz.underlying23 Tryz.underlying5 Tryz.underlying9 hf8
  clear ho hb hf8 HUN F7 B7 Y7 R7 kc
  go_wp2_with (first | (go_at_call 27; refine (num_calls _ _).mono ?_; rintro r w9 ⟨rfl, rfl⟩) | (go_at_call 37; refine (REnd_calls rb 0 RB _ [] 0 a6 c6 R8.out).mono ?_; rintro r w9 ⟨rfl, rfl⟩))
  go_ret
  exact ⟨rfl, B8.out⟩
end Go.Proofs.YtjiciklnhcmfaaaGreatDoor
