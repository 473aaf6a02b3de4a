/- (*record.Reader).ID where it takes, where it is too short, and in all cases. -/
import Derived.Test.YtjiciklnhcmfaaaDoorRid
import Derived.Test.YtjiciklnhcmfaaaDoorOps
namespace Go.Proofs.YtjiciklnhcmfaaaDoor
set_option linter.unusedVariables false
set_option linter.unusedSimpArgs false
open Go.RowKit
theorem list16 {α : Type} : ∀ {l : List α}, l.length = 16 → ∃ d0 d1 d2 d3 d4 d5 d6 d7 d8 d9 d10 d11 d12 d13 d14 d15, l = [d0, d1, d2, d3, d4, d5, d6, d7, d8, d9, d10, d11, d12, d13, d14, d15]
  | [d0, d1, d2, d3, d4, d5, d6, d7, d8, d9, d10, d11, d12, d13, d14, d15], _ => ⟨d0, d1, d2, d3, d4, d5, d6, d7, d8, d9, d10, d11, d12, d13, d14, d15, rfl⟩
theorem setRow_upd (w : World) (g : Nat) (cs : Array Value) : Upd (fun k => k = g) w (w.setRow g cs) :=
  ⟨rfl, rfl, rfl, by rw [size_setRow]; exact Nat.le_refl _, fun k _ hk => setRow_other w g k cs hk⟩
theorem rid_upd {w w0 w1 w3 : World} {rb ro : Nat} (hrb : rb < w.heap.size) (U00 : Upd (fun _ => False) w w0) (U1 : RUpd w0 w1 rb ro) (U3 : Upd (fun k => k = w.heap.size) w1 w3) : RUpd w w3 rb ro := by
  have hne : rb ≠ w.heap.size := Nat.ne_of_lt hrb
  refine ⟨(U00.trans U1.upd (S := fun k => k = rb) (fun _ s _ => absurd s id) (fun _ s _ => s)).trans U3 (fun _ s _ => s) (fun i s hi => by have s' : i = w.heap.size := s; omega), fun o h1 h2 => ?_⟩
  have hl1 : rb < w1.heap.size := Nat.lt_of_lt_of_le hrb (Nat.le_trans U00.size U1.upd.size)
  obtain ⟨r1, r2⟩ := U1.rest o h1 h2
  exact ⟨(U3.cell (p := ⟨rb, o, none⟩) hl1 hne).trans (r1.trans (U00.cell (p := ⟨rb, o, none⟩) hrb (fun s => s))), (U3.frozen (p := ⟨rb, o, none⟩) hl1 hne).trans (r2.trans (U00.frozen (p := ⟨rb, o, none⟩) hrb (fun s => s)))⟩
set_option maxRecDepth 100000 in
set_option maxHeartbeats 2000000 in
theorem RID_take (rb ro B : Nat) (w : World) (d0 d1 d2 d3 d4 d5 d6 d7 d8 d9 d10 d11 d12 d13 d14 d15 : UInt8) (t : List UInt8) (a : Option Addr) (cap : Nat) (h : Rdr w rb ro B ([d0, d1, d2, d3, d4, d5, d6, d7, d8, d9, d10, d11, d12, d13, d14, d15] ++ t) 0 a cap) (hl : ([d0, d1, d2, d3, d4, d5, d6, d7, d8, d9, d10, d11, d12, d13, d14, d15] ++ t).length ≤ 140737488355328) :
    Calls Tryd.prog 40 #[.pointer (some ⟨rb, ro, none⟩)] w fun r w' => r = .returned (.agg (#[.int .u8 (d0.toNat : Int), .int .u8 (d1.toNat : Int), .int .u8 (d2.toNat : Int), .int .u8 (d3.toNat : Int), .int .u8 (d4.toNat : Int), .int .u8 (d5.toNat : Int), .int .u8 (d6.toNat : Int), .int .u8 (d7.toNat : Int), .int .u8 (d8.toNat : Int), .int .u8 (d9.toNat : Int), .int .u8 (d10.toNat : Int), .int .u8 (d11.toNat : Int), .int .u8 (d12.toNat : Int), .int .u8 (d13.toNat : Int), .int .u8 (d14.toNat : Int), .int .u8 (d15.toNat : Int)] : Array Value)) ∧ ∃ a cap, Rdr w' rb ro B t 0 a cap ∧ RUpd w w' rb ro := by
  have hrb := h.lt
  have hB : B < w.heap.size := by
    obtain ⟨b, o, e, hc⟩ := h.byt 0 (by simp)
    have := h.blk _ e
    have e2 : b = B := by injection this
    rw [← e2]
    exact World.block_lt_of_cell? w _ hc
  have H := Lib.hid h; clear h
  have HL := Lib.hid hl; clear hl
  have U0 := Lib.hid ((Upd.refl (fun _ => False) w).alloc (.cells #[.int .u8 0, .int .u8 0, .int .u8 0, .int .u8 0, .int .u8 0, .int .u8 0, .int .u8 0, .int .u8 0, .int .u8 0, .int .u8 0, .int .u8 0, .int .u8 0, .int .u8 0, .int .u8 0, .int .u8 0, .int .u8 0] 97))
  have H2 := Lib.hid (H.out.upd U0.out (fun s => s) (fun s => s))
  have Z2 := Lib.hid (heap_alloc_new w (.cells #[.int .u8 0, .int .u8 0, .int .u8 0, .int .u8 0, .int .u8 0, .int .u8 0, .int .u8 0, .int .u8 0, .int .u8 0, .int .u8 0, .int .u8 0, .int .u8 0, .int .u8 0, .int .u8 0, .int .u8 0, .int .u8 0] 97))
  have HRB := Lib.hid hrb; have HBB := Lib.hid hB
  clear hrb hB
  go_enter Tryd.func40, Tryd.ntmps40
  go_wp2_with fail
  refine (take_ok rb ro B 16 _ ([d0, d1, d2, d3, d4, d5, d6, d7, d8, d9, d10, d11, d12, d13, d14, d15] ++ t) a cap H2.out (by simp) HL.out).mono ?_
  rintro r w1 ⟨a1, a2, cap2, rfl, hb1, hk1, hr1, hu1⟩
  rw [show ([d0, d1, d2, d3, d4, d5, d6, d7, d8, d9, d10, d11, d12, d13, d14, d15] ++ t).drop 16 = t from rfl] at hr1
  rw [show ([d0, d1, d2, d3, d4, d5, d6, d7, d8, d9, d10, d11, d12, d13, d14, d15] ++ t).take 16 = [d0, d1, d2, d3, d4, d5, d6, d7, d8, d9, d10, d11, d12, d13, d14, d15] from rfl] at hb1
  obtain ⟨b1, o1, rfl, -⟩ := hb1 0 (by simp)
  have hz1 := (hu1.upd.block w.heap.size (lt_of_block Z2.out) (fun s => by have := HRB.out; have s' : w.heap.size = rb := s; omega)).trans Z2.out
  obtain ⟨w2, hw2⟩ : ∃ q, w1.setRow w.heap.size (#[.int .u8 (d0.toNat : Int), .int .u8 (d1.toNat : Int), .int .u8 (d2.toNat : Int), .int .u8 (d3.toNat : Int), .int .u8 (d4.toNat : Int), .int .u8 (d5.toNat : Int), .int .u8 (d6.toNat : Int), .int .u8 (d7.toNat : Int), .int .u8 (d8.toNat : Int), .int .u8 (d9.toNat : Int), .int .u8 (d10.toNat : Int), .int .u8 (d11.toNat : Int), .int .u8 (d12.toNat : Int), .int .u8 (d13.toNat : Int), .int .u8 (d14.toNat : Int), .int .u8 (d15.toNat : Int)] : Array Value) = q := ⟨_, rfl⟩
  have hz2 := setRow_heap w1 w.heap.size _ (#[.int .u8 (d0.toNat : Int), .int .u8 (d1.toNat : Int), .int .u8 (d2.toNat : Int), .int .u8 (d3.toNat : Int), .int .u8 (d4.toNat : Int), .int .u8 (d5.toNat : Int), .int .u8 (d6.toNat : Int), .int .u8 (d7.toNat : Int), .int .u8 (d8.toNat : Int), .int .u8 (d9.toNat : Int), .int .u8 (d10.toNat : Int), .int .u8 (d11.toNat : Int), .int .u8 (d12.toNat : Int), .int .u8 (d13.toNat : Int), .int .u8 (d14.toNat : Int), .int .u8 (d15.toNat : Int)] : Array Value) _ _ hz1
  have hu2 := setRow_upd w1 w.heap.size (#[.int .u8 (d0.toNat : Int), .int .u8 (d1.toNat : Int), .int .u8 (d2.toNat : Int), .int .u8 (d3.toNat : Int), .int .u8 (d4.toNat : Int), .int .u8 (d5.toNat : Int), .int .u8 (d6.toNat : Int), .int .u8 (d7.toNat : Int), .int .u8 (d8.toNat : Int), .int .u8 (d9.toNat : Int), .int .u8 (d10.toNat : Int), .int .u8 (d11.toNat : Int), .int .u8 (d12.toNat : Int), .int .u8 (d13.toNat : Int), .int .u8 (d14.toNat : Int), .int .u8 (d15.toNat : Int)] : Array Value)
  rw [hw2] at hz2 hu2
  have cp : (Builtin.copy_ #[55, 55] 3 #[.slice (some ⟨w.heap.size, 0, none⟩) 16 16, .slice (some ⟨b1, o1, none⟩) 16 16]).run Tryd.prog w1 = .ok (goInt 16) w2 := by
    have c := run_copy_row (P := Tryd.prog) w1 55 55 3 5 w.heap.size 0 16 16 ⟨b1, o1, none⟩ 16 16 (#[.int .u8 0, .int .u8 0, .int .u8 0, .int .u8 0, .int .u8 0, .int .u8 0, .int .u8 0, .int .u8 0, .int .u8 0, .int .u8 0, .int .u8 0, .int .u8 0, .int .u8 0, .int .u8 0, .int .u8 0, .int .u8 0] : Array Value) 97 (bys [d0, d1, d2, d3, d4, d5, d6, d7, d8, d9, d10, d11, d12, d13, d14, d15]) Tryd.underlying55 (by kernel_rfl) hz1 rfl (fun j v hj => by
      obtain ⟨hj1, hj2⟩ := List.getElem?_eq_some_iff.1 hj
      have hj3 : j < [d0, d1, d2, d3, d4, d5, d6, d7, d8, d9, d10, d11, d12, d13, d14, d15].length := by rw [bys_length] at hj1; exact hj1
      obtain ⟨b', o', e', hc⟩ := hb1 j hj3
      obtain ⟨rfl, rfl⟩ : b1 = b' ∧ o1 = o' := by
        injection e' with e'; injection e' with e1 e2
        exact ⟨e1, e2⟩
      rw [Addr.add_lit, hc, ← hj, bys_get hj3]) (by rw [bys_length]; simp) (fun v hv => bys_one _ v hv)
    rw [← hw2]
    exact c
  have HR1 := Lib.hid hr1; have HU1 := Lib.hid hu1; have HZ2 := Lib.hid hz2; have HU2 := Lib.hid hu2
  clear hw2 hb1 hk1 hr1 hu1 hz1 hz2 hu2
  have SZ : Hid ((Tryd.prog.info? 97).map (·.size) = some (#[.int .u8 (d0.toNat : Int), .int .u8 (d1.toNat : Int), .int .u8 (d2.toNat : Int), .int .u8 (d3.toNat : Int), .int .u8 (d4.toNat : Int), .int .u8 (d5.toNat : Int), .int .u8 (d6.toNat : Int), .int .u8 (d7.toNat : Int), .int .u8 (d8.toNat : Int), .int .u8 (d9.toNat : Int), .int .u8 (d10.toNat : Int), .int .u8 (d11.toNat : Int), .int .u8 (d12.toNat : Int), .int .u8 (d13.toNat : Int), .int .u8 (d14.toNat : Int), .int .u8 (d15.toNat : Int)] : Array Value).size) := by show _ = _; kernel_rfl
  have ONE : Hid (∀ u ∈ (#[.int .u8 (d0.toNat : Int), .int .u8 (d1.toNat : Int), .int .u8 (d2.toNat : Int), .int .u8 (d3.toNat : Int), .int .u8 (d4.toNat : Int), .int .u8 (d5.toNat : Int), .int .u8 (d6.toNat : Int), .int .u8 (d7.toNat : Int), .int .u8 (d8.toNat : Int), .int .u8 (d9.toNat : Int), .int .u8 (d10.toNat : Int), .int .u8 (d11.toNat : Int), .int .u8 (d12.toNat : Int), .int .u8 (d13.toNat : Int), .int .u8 (d14.toNat : Int), .int .u8 (d15.toNat : Int)] : Array Value).toList, u.oneCell' = true) := fun u hu => by
    simp at hu
    rcases hu with rfl | rfl | rfl | rfl | rfl | rfl | rfl | rfl | rfl | rfl | rfl | rfl | rfl | rfl | rfl | rfl <;> rfl
  have RG : Hid (w2.rangeAt w.heap.size 0 (#[.int .u8 (d0.toNat : Int), .int .u8 (d1.toNat : Int), .int .u8 (d2.toNat : Int), .int .u8 (d3.toNat : Int), .int .u8 (d4.toNat : Int), .int .u8 (d5.toNat : Int), .int .u8 (d6.toNat : Int), .int .u8 (d7.toNat : Int), .int .u8 (d8.toNat : Int), .int .u8 (d9.toNat : Int), .int .u8 (d10.toNat : Int), .int .u8 (d11.toNat : Int), .int .u8 (d12.toNat : Int), .int .u8 (d13.toNat : Int), .int .u8 (d14.toNat : Int), .int .u8 (d15.toNat : Int)] : Array Value).toList) := range_block HZ2.out
  go_wp2_with (first | (with_reducible refine wpList_load_arr (op := ⟨some 13, _, _, _, _, _⟩) rfl 97 (.tmp 2) rfl w.heap.size 0 rfl (#[.int .u8 (d0.toNat : Int), .int .u8 (d1.toNat : Int), .int .u8 (d2.toNat : Int), .int .u8 (d3.toNat : Int), .int .u8 (d4.toNat : Int), .int .u8 (d5.toNat : Int), .int .u8 (d6.toNat : Int), .int .u8 (d7.toNat : Int), .int .u8 (d8.toNat : Int), .int .u8 (d9.toNat : Int), .int .u8 (d10.toNat : Int), .int .u8 (d11.toNat : Int), .int .u8 (d12.toNat : Int), .int .u8 (d13.toNat : Int), .int .u8 (d14.toNat : Int), .int .u8 (d15.toNat : Int)] : Array Value) _ RG.out Tryd.underlying97 rfl SZ.out ?_) | (with_reducible refine wpList_store_arr (op := ⟨none, .store 97 (.tmp 2) (.tmp 13), _, _, _, _⟩) rfl 97 (.tmp 2) (.tmp 13) rfl w.heap.size (#[.int .u8 (d0.toNat : Int), .int .u8 (d1.toNat : Int), .int .u8 (d2.toNat : Int), .int .u8 (d3.toNat : Int), .int .u8 (d4.toNat : Int), .int .u8 (d5.toNat : Int), .int .u8 (d6.toNat : Int), .int .u8 (d7.toNat : Int), .int .u8 (d8.toNat : Int), .int .u8 (d9.toNat : Int), .int .u8 (d10.toNat : Int), .int .u8 (d11.toNat : Int), .int .u8 (d12.toNat : Int), .int .u8 (d13.toNat : Int), .int .u8 (d14.toNat : Int), .int .u8 (d15.toNat : Int)] : Array Value) (#[.int .u8 (d0.toNat : Int), .int .u8 (d1.toNat : Int), .int .u8 (d2.toNat : Int), .int .u8 (d3.toNat : Int), .int .u8 (d4.toNat : Int), .int .u8 (d5.toNat : Int), .int .u8 (d6.toNat : Int), .int .u8 (d7.toNat : Int), .int .u8 (d8.toNat : Int), .int .u8 (d9.toNat : Int), .int .u8 (d10.toNat : Int), .int .u8 (d11.toNat : Int), .int .u8 (d12.toNat : Int), .int .u8 (d13.toNat : Int), .int .u8 (d14.toNat : Int), .int .u8 (d15.toNat : Int)] : Array Value) 97 rfl rfl HZ2.out rfl SZ.out ONE.out ?_; intro w3 hk3 hu3))

  have z0 : w3.cell? ⟨w.heap.size, 0, none⟩ = some (.int .u8 (d0.toNat : Int)) := (cell_of_row' hk3).trans rfl
  have z1 : w3.cell? ⟨w.heap.size, 1, none⟩ = some (.int .u8 (d1.toNat : Int)) := (cell_of_row' hk3).trans rfl
  have z2 : w3.cell? ⟨w.heap.size, 2, none⟩ = some (.int .u8 (d2.toNat : Int)) := (cell_of_row' hk3).trans rfl
  have z3 : w3.cell? ⟨w.heap.size, 3, none⟩ = some (.int .u8 (d3.toNat : Int)) := (cell_of_row' hk3).trans rfl
  have z4 : w3.cell? ⟨w.heap.size, 4, none⟩ = some (.int .u8 (d4.toNat : Int)) := (cell_of_row' hk3).trans rfl
  have z5 : w3.cell? ⟨w.heap.size, 5, none⟩ = some (.int .u8 (d5.toNat : Int)) := (cell_of_row' hk3).trans rfl
  have z6 : w3.cell? ⟨w.heap.size, 6, none⟩ = some (.int .u8 (d6.toNat : Int)) := (cell_of_row' hk3).trans rfl
  have z7 : w3.cell? ⟨w.heap.size, 7, none⟩ = some (.int .u8 (d7.toNat : Int)) := (cell_of_row' hk3).trans rfl
  have z8 : w3.cell? ⟨w.heap.size, 8, none⟩ = some (.int .u8 (d8.toNat : Int)) := (cell_of_row' hk3).trans rfl
  have z9 : w3.cell? ⟨w.heap.size, 9, none⟩ = some (.int .u8 (d9.toNat : Int)) := (cell_of_row' hk3).trans rfl
  have z10 : w3.cell? ⟨w.heap.size, 10, none⟩ = some (.int .u8 (d10.toNat : Int)) := (cell_of_row' hk3).trans rfl
  have z11 : w3.cell? ⟨w.heap.size, 11, none⟩ = some (.int .u8 (d11.toNat : Int)) := (cell_of_row' hk3).trans rfl
  have z12 : w3.cell? ⟨w.heap.size, 12, none⟩ = some (.int .u8 (d12.toNat : Int)) := (cell_of_row' hk3).trans rfl
  have z13 : w3.cell? ⟨w.heap.size, 13, none⟩ = some (.int .u8 (d13.toNat : Int)) := (cell_of_row' hk3).trans rfl
  have z14 : w3.cell? ⟨w.heap.size, 14, none⟩ = some (.int .u8 (d14.toNat : Int)) := (cell_of_row' hk3).trans rfl
  have z15 : w3.cell? ⟨w.heap.size, 15, none⟩ = some (.int .u8 (d15.toNat : Int)) := (cell_of_row' hk3).trans rfl
  have U3 : Upd (fun k => k = w.heap.size) w1 w3 := HU2.out.same hu3
  have U1 := HU1.out
  have U00 := U0.out
  have hne : rb ≠ w.heap.size := Nat.ne_of_lt HRB.out
  have hrd : Rdr w3 rb ro B t 0 a2 cap2 := HR1.out.upd U3 hne (Nat.ne_of_lt HBB.out)
  have hup : RUpd w w3 rb ro := rid_upd HRB.out U00 U1 U3
  exact bodyPost_ret (v := .agg (#[.int .u8 (d0.toNat : Int), .int .u8 (d1.toNat : Int), .int .u8 (d2.toNat : Int), .int .u8 (d3.toNat : Int), .int .u8 (d4.toNat : Int), .int .u8 (d5.toNat : Int), .int .u8 (d6.toNat : Int), .int .u8 (d7.toNat : Int), .int .u8 (d8.toNat : Int), .int .u8 (d9.toNat : Int), .int .u8 (d10.toNat : Int), .int .u8 (d11.toNat : Int), .int .u8 (d12.toNat : Int), .int .u8 (d13.toNat : Int), .int .u8 (d14.toNat : Int), .int .u8 (d15.toNat : Int)] : Array Value)) (by simp [results, Tryd.results40, go_sem, z0, z1, z2, z3, z4, z5, z6, z7, z8, z9, z10, z11, z12, z13, z14, z15]) rfl ⟨rfl, a2, cap2, hrd, hup⟩
set_option maxRecDepth 100000 in
set_option maxHeartbeats 2000000 in
theorem RID_short (rb ro B : Nat) (w : World) (l : List UInt8) (a : Option Addr) (cap : Nat) (h : Rdr w rb ro B l 0 a cap) (hB : B < w.heap.size) (hl : l.length < 16) :
    Calls Tryd.prog 40 #[.pointer (some ⟨rb, ro, none⟩)] w fun r w' => r = .returned (.agg (#[.int .u8 0, .int .u8 0, .int .u8 0, .int .u8 0, .int .u8 0, .int .u8 0, .int .u8 0, .int .u8 0, .int .u8 0, .int .u8 0, .int .u8 0, .int .u8 0, .int .u8 0, .int .u8 0, .int .u8 0, .int .u8 0] : Array Value)) ∧ ∃ a cap, Rdr w' rb ro B l 30 a cap ∧ RUpd w w' rb ro := by
  have hrb := h.lt
  have H := Lib.hid h; clear h
  have HL : Hid ((l.length : Int) < 16) := by show _ < _; omega
  have U0 := Lib.hid ((Upd.refl (fun _ => False) w).alloc (.cells #[.int .u8 0, .int .u8 0, .int .u8 0, .int .u8 0, .int .u8 0, .int .u8 0, .int .u8 0, .int .u8 0, .int .u8 0, .int .u8 0, .int .u8 0, .int .u8 0, .int .u8 0, .int .u8 0, .int .u8 0, .int .u8 0] 97))
  have H2 := Lib.hid (H.out.upd U0.out (fun s => s) (fun s => s))
  have Z2 := Lib.hid (heap_alloc_new w (.cells #[.int .u8 0, .int .u8 0, .int .u8 0, .int .u8 0, .int .u8 0, .int .u8 0, .int .u8 0, .int .u8 0, .int .u8 0, .int .u8 0, .int .u8 0, .int .u8 0, .int .u8 0, .int .u8 0, .int .u8 0, .int .u8 0] 97))
  have HRB := Lib.hid hrb; have HBB := Lib.hid hB
  clear hrb hB hl
  go_enter Tryd.func40, Tryd.ntmps40
  go_wp2_with fail
  refine (take_short rb ro B 16 _ l a cap H2.out HL.out).mono ?_
  rintro r w1 ⟨rfl, hw1⟩
  obtain ⟨hr1, hu1⟩ := H2.out.bad (e' := 30)
  rw [hw1] at hr1 hu1
  clear hw1
  have hz1 := (hu1.upd.block w.heap.size (lt_of_block Z2.out) (fun s => by have := HRB.out; have s' : w.heap.size = rb := s; omega)).trans Z2.out
  have HR1 := Lib.hid hr1; have HU1 := Lib.hid hu1; have HZ2 := Lib.hid hz1
  clear hr1 hu1 hz1
  have cp := run_copy_nil (P := Tryd.prog) w1 55 55 3 5 ⟨w.heap.size, 0, none⟩ 16 16 Tryd.underlying55 (by kernel_rfl)
  have SZ : Hid ((Tryd.prog.info? 97).map (·.size) = some (#[.int .u8 0, .int .u8 0, .int .u8 0, .int .u8 0, .int .u8 0, .int .u8 0, .int .u8 0, .int .u8 0, .int .u8 0, .int .u8 0, .int .u8 0, .int .u8 0, .int .u8 0, .int .u8 0, .int .u8 0, .int .u8 0] : Array Value).size) := by show _ = _; kernel_rfl
  have ONE : Hid (∀ u ∈ (#[.int .u8 0, .int .u8 0, .int .u8 0, .int .u8 0, .int .u8 0, .int .u8 0, .int .u8 0, .int .u8 0, .int .u8 0, .int .u8 0, .int .u8 0, .int .u8 0, .int .u8 0, .int .u8 0, .int .u8 0, .int .u8 0] : Array Value).toList, u.oneCell' = true) := fun u hu => by
    simp at hu
    subst hu
    rfl
  have RG : Hid (w1.rangeAt w.heap.size 0 (#[.int .u8 0, .int .u8 0, .int .u8 0, .int .u8 0, .int .u8 0, .int .u8 0, .int .u8 0, .int .u8 0, .int .u8 0, .int .u8 0, .int .u8 0, .int .u8 0, .int .u8 0, .int .u8 0, .int .u8 0, .int .u8 0] : Array Value).toList) := range_block HZ2.out
  go_wp2_with (first | (with_reducible refine wpList_load_arr (op := ⟨some 13, _, _, _, _, _⟩) rfl 97 (.tmp 2) rfl w.heap.size 0 rfl (#[.int .u8 0, .int .u8 0, .int .u8 0, .int .u8 0, .int .u8 0, .int .u8 0, .int .u8 0, .int .u8 0, .int .u8 0, .int .u8 0, .int .u8 0, .int .u8 0, .int .u8 0, .int .u8 0, .int .u8 0, .int .u8 0] : Array Value) _ RG.out Tryd.underlying97 rfl SZ.out ?_) | (with_reducible refine wpList_store_arr (op := ⟨none, .store 97 (.tmp 2) (.tmp 13), _, _, _, _⟩) rfl 97 (.tmp 2) (.tmp 13) rfl w.heap.size (#[.int .u8 0, .int .u8 0, .int .u8 0, .int .u8 0, .int .u8 0, .int .u8 0, .int .u8 0, .int .u8 0, .int .u8 0, .int .u8 0, .int .u8 0, .int .u8 0, .int .u8 0, .int .u8 0, .int .u8 0, .int .u8 0] : Array Value) (#[.int .u8 0, .int .u8 0, .int .u8 0, .int .u8 0, .int .u8 0, .int .u8 0, .int .u8 0, .int .u8 0, .int .u8 0, .int .u8 0, .int .u8 0, .int .u8 0, .int .u8 0, .int .u8 0, .int .u8 0, .int .u8 0] : Array Value) 97 rfl rfl HZ2.out rfl SZ.out ONE.out ?_; intro w3 hk3 hu3))

  have z0 : w3.cell? ⟨w.heap.size, 0, none⟩ = some (.int .u8 0) := (cell_of_row' hk3).trans rfl
  have z1 : w3.cell? ⟨w.heap.size, 1, none⟩ = some (.int .u8 0) := (cell_of_row' hk3).trans rfl
  have z2 : w3.cell? ⟨w.heap.size, 2, none⟩ = some (.int .u8 0) := (cell_of_row' hk3).trans rfl
  have z3 : w3.cell? ⟨w.heap.size, 3, none⟩ = some (.int .u8 0) := (cell_of_row' hk3).trans rfl
  have z4 : w3.cell? ⟨w.heap.size, 4, none⟩ = some (.int .u8 0) := (cell_of_row' hk3).trans rfl
  have z5 : w3.cell? ⟨w.heap.size, 5, none⟩ = some (.int .u8 0) := (cell_of_row' hk3).trans rfl
  have z6 : w3.cell? ⟨w.heap.size, 6, none⟩ = some (.int .u8 0) := (cell_of_row' hk3).trans rfl
  have z7 : w3.cell? ⟨w.heap.size, 7, none⟩ = some (.int .u8 0) := (cell_of_row' hk3).trans rfl
  have z8 : w3.cell? ⟨w.heap.size, 8, none⟩ = some (.int .u8 0) := (cell_of_row' hk3).trans rfl
  have z9 : w3.cell? ⟨w.heap.size, 9, none⟩ = some (.int .u8 0) := (cell_of_row' hk3).trans rfl
  have z10 : w3.cell? ⟨w.heap.size, 10, none⟩ = some (.int .u8 0) := (cell_of_row' hk3).trans rfl
  have z11 : w3.cell? ⟨w.heap.size, 11, none⟩ = some (.int .u8 0) := (cell_of_row' hk3).trans rfl
  have z12 : w3.cell? ⟨w.heap.size, 12, none⟩ = some (.int .u8 0) := (cell_of_row' hk3).trans rfl
  have z13 : w3.cell? ⟨w.heap.size, 13, none⟩ = some (.int .u8 0) := (cell_of_row' hk3).trans rfl
  have z14 : w3.cell? ⟨w.heap.size, 14, none⟩ = some (.int .u8 0) := (cell_of_row' hk3).trans rfl
  have z15 : w3.cell? ⟨w.heap.size, 15, none⟩ = some (.int .u8 0) := (cell_of_row' hk3).trans rfl
  have U1 := HU1.out
  have U00 := U0.out
  have hne : rb ≠ w.heap.size := Nat.ne_of_lt HRB.out
  have hrd : Rdr w3 rb ro B l 30 a cap := HR1.out.upd hu3 hne (Nat.ne_of_lt HBB.out)
  exact bodyPost_ret (v := .agg (#[.int .u8 0, .int .u8 0, .int .u8 0, .int .u8 0, .int .u8 0, .int .u8 0, .int .u8 0, .int .u8 0, .int .u8 0, .int .u8 0, .int .u8 0, .int .u8 0, .int .u8 0, .int .u8 0, .int .u8 0, .int .u8 0] : Array Value)) (by simp [results, Tryd.results40, go_sem, z0, z1, z2, z3, z4, z5, z6, z7, z8, z9, z10, z11, z12, z13, z14, z15]) rfl ⟨rfl, a, cap, hrd, rid_upd HRB.out U00 U1 hu3⟩
/-- What ID takes. -/
def rID (l : List UInt8) (e : Int) : List UInt8 × List UInt8 × Int := if e = 0 then (if 16 ≤ l.length then (l.take 16, l.drop 16, 0) else (List.replicate 16 0, l, 30)) else (List.replicate 16 0, l, e)
theorem RID_calls (rb ro B : Nat) (w : World) (l : List UInt8) (e : Int) (a : Option Addr) (cap : Nat) (h : Rdr w rb ro B l e a cap) (hB : B < w.heap.size) (hl : l.length ≤ 140737488355328) :
    Calls Tryd.prog 40 #[.pointer (some ⟨rb, ro, none⟩)] w fun r w' => r = .returned (.agg (idv (rID l e).1)) ∧ ∃ a cap, Rdr w' rb ro B (rID l e).2.1 (rID l e).2.2 a cap ∧ RUpd w w' rb ro := by
  unfold rID
  by_cases he : e = 0
  · subst he
    rw [if_pos rfl]
    by_cases h16 : 16 ≤ l.length
    · rw [if_pos h16]
      obtain ⟨d0, d1, d2, d3, d4, d5, d6, d7, d8, d9, d10, d11, d12, d13, d14, d15, hd⟩ := list16 (l := l.take 16) (by rw [List.length_take]; omega)
      have ht : l = l.take 16 ++ l.drop 16 := (List.take_append_drop 16 l).symm
      generalize l.drop 16 = t at *
      generalize l.take 16 = d at *
      subst hd
      subst ht
      exact RID_take rb ro B w d0 d1 d2 d3 d4 d5 d6 d7 d8 d9 d10 d11 d12 d13 d14 d15 t a cap h hl
    · rw [if_neg h16]
      exact RID_short rb ro B w l a cap h hB (by omega)
  · rw [if_neg he]
    refine (RID_off rb ro B w l e a cap h he).mono ?_
    rintro r w' ⟨rfl, hb⟩
    exact ⟨rfl, a, cap, h.upd (Upd.ofBelow hb) (fun s => s) (fun s => s), RUpd.ofBelow hb h.lt⟩
end Go.Proofs.YtjiciklnhcmfaaaDoor
