/- posternlaw1.Over, for any row of bytes of one's own; files of which the bytes are written over. -/
import Derived.Test.YtnbpkignkfabkaaGreatDoorFiles
import Derived.Test.YtnbpkignkfabkaaGreatDoorStep
import Derived.Test.YtnbpkignkfabkaaGreatDoorFrame
import Derived.Test.YtnbpkignkfabkaaGreatDoorRemOn
import Derived.Test.YtnbpkignkfabkaaGreatDoorGoes2
/- posternref0.CopyFile, CopyFiles: files in rows of one's own. -/
namespace Go.Proofs.YtnbpkignkfabkaaGreatDoor
set_option linter.unusedVariables false
set_option linter.unusedSimpArgs false
open Go.RowKit Go.Maps
set_option maxRecDepth 100000 in
set_option maxHeartbeats 1000000 in
theorem CopyFile_calls (nm t : List UInt8) (a : Option Addr) (c : Nat) (w : World) (hy : Byt w a t) (hn : t.length ≤ 140737488355328) :
    Calls Tryz.prog 48 #[.agg #[.string ⟨nm.toArray⟩, .slice a t.length c]] w fun r w' => ∃ a' c', r = .returned (.agg #[.string ⟨nm.toArray⟩, .slice a' t.length c']) ∧ t.length ≤ c' ∧ Own w' w.heap.size 5 1 (.slice a' t.length c') t.length (bys t) ∧ Below w.heap.size w w' := by
  obtain ⟨w2, hw2⟩ : ∃ q, (w.alloc (.cells #[.string ⟨nm.toArray⟩, .slice a t.length c] 116)).alloc (.cells #[.string ⟨#[]⟩, .slice none 0 0] 116) = q := ⟨_, rfl⟩
  obtain ⟨w3, hw3⟩ : ∃ q, w2.alloc (.cells #[.string ⟨nm.toArray⟩, .slice a t.length c] 116) = q := ⟨_, rfl⟩
  have s2 : w2.heap.size = w.heap.size + 1 + 1 := by rw [← hw2]; simp
  have s3 : w3.heap.size = w.heap.size + 1 + 1 + 1 := by rw [← hw3, World.size_alloc, s2]
  have b2 : Below w.heap.size w w2 := by rw [← hw2]; exact ((Below.refl _ _).alloc (Nat.le_refl _) _).alloc (by simp) _
  have b3 : Below w.heap.size w w3 := by rw [← hw3]; exact b2.alloc b2.size _
  have k2 : w3.heap[w.heap.size + 1 + 1]? = some (.cells #[.string ⟨nm.toArray⟩, .slice a t.length c] 116 (0, 0)) := by rw [← hw3, ← s2]; exact heap_alloc_new w2 _
  have k1 : w3.heap[w.heap.size + 1]? = some (.cells #[.string ⟨#[]⟩, .slice none 0 0] 116 (0, 0)) := by
    have h9 := heap_alloc_new (w.alloc (.cells #[.string ⟨nm.toArray⟩, .slice a t.length c] 116)) (.cells #[.string ⟨#[]⟩, .slice none 0 0] 116)
    rw [hw2, World.size_alloc] at h9
    have b23 : Below w2.heap.size w2 w3 := by rw [← hw3]; exact (Below.refl _ _).alloc (Nat.le_refl _) _
    exact (b23.block _ (lt_of_block h9)).trans h9
  have CC := Lib.hid (Copy_calls a c t w3 (hy.below b3) hn)
  have W2 := Lib.hid hw2; have W3 := Lib.hid hw3; have B3 := Lib.hid b3; have K1 := Lib.hid k1; have K2 := Lib.hid k2; have S3 := Lib.hid s3
  clear hy hw2 hw3 b2 b3 s2 s3 k1 k2
  go_enter Tryz.func48, Tryz.ntmps48
  go_wp2_with fail
  rw [W2.out, W3.out]
  refine CC.out.mono ?_
  rintro r w4 ⟨v4, rfl, o4, b4⟩
  obtain ⟨a4, c4, rfl, -, hc4, -, -, -⟩ := own_val o4
  have g1 := (b4.block _ (lt_of_block K1.out)).trans K1.out
  have g2 := (b4.block _ (lt_of_block K2.out)).trans K2.out
  have x0 : w4.cell? ⟨w.heap.size + 1 + 1, 0, none⟩ = some (.string ⟨nm.toArray⟩) := by rw [cell_of_row' g2]; rfl
  have x1 : w4.cell? ⟨w.heap.size + 1 + 1, 1, none⟩ = some (.slice a t.length c) := by rw [cell_of_row' g2]; rfl
  have f1 := frozen_of_row g2 1
  have y0 : w4.cell? ⟨w.heap.size + 1, 0, none⟩ = some (.string ⟨#[]⟩) := by rw [cell_of_row' g1]; rfl
  have y1 : w4.cell? ⟨w.heap.size + 1, 1, none⟩ = some (.slice none 0 0) := by rw [cell_of_row' g1]; rfl
  have e0 := frozen_of_row g1 0
  have e1 := frozen_of_row g1 1
  have O4 := Lib.hid (o4.rebase (base' := w.heap.size) (fun k hk => by have := (o4.lt k hk).1; have := S3.out; omega))
  have L4 := Lib.hid (fun k hk => (o4.lt k hk).1)
  have B4 := Lib.hid (B3.out.trans (b4.mono (by have := S3.out; omega)))
  have HC := Lib.hid hc4
  clear o4 b4 hc4 g1 g2 CC
  go_wp2
  obtain ⟨w5, hw5⟩ : ∃ q, ((w4.setCell ⟨w.heap.size + 1 + 1, 1, none⟩ (.slice a4 t.length c4)).setCell ⟨w.heap.size + 1, 0, none⟩ (.string ⟨nm.toArray⟩)).setCell ⟨w.heap.size + 1, 1, none⟩ (.slice a4 t.length c4) = q := ⟨_, rfl⟩
  have u5 : Upd (fun k => k = w.heap.size + 1 + 1 ∨ k = w.heap.size + 1) w4 w5 := by
    rw [← hw5]
    exact (((Upd.refl _ w4).setCell (fun _ => .inl rfl) _).setCell (fun _ => .inr rfl) _).setCell (fun _ => .inr rfl) _
  have z0 : w5.cell? ⟨w.heap.size + 1, 0, none⟩ = some (.string ⟨nm.toArray⟩) := by rw [← hw5]; clear hw5; go_simp
  have z1 : w5.cell? ⟨w.heap.size + 1, 1, none⟩ = some (.slice a4 t.length c4) := by rw [← hw5]; clear hw5; go_simp
  rw [hw5]
  refine bodyPost_ret (v := .agg #[.string ⟨nm.toArray⟩, .slice a4 t.length c4]) (by simp [results, Tryz.results48, go_sem, z0, z1]) rfl ⟨a4, c4, rfl, HC.out, O4.out.upd u5 (fun k hk s => by have := L4.out k hk; have := S3.out; rcases s with s | s <;> omega), B4.out.trans (u5.below (fun k s _ => by rcases s with s | s <;> omega) B4.out.size)⟩
set_option maxRecDepth 100000 in
set_option maxHeartbeats 4000000 in
theorem CopyFiles_calls (C : Con) (a : Option Addr) (cap : Nat) (w : World) (h : Fil w a C) (hL : C.length ≤ 200) (hby : ∀ p ∈ C, p.2.length ≤ 140737488355328) :
    Calls Tryz.prog 66 #[.slice a C.length cap] w fun r w' => ∃ v M, r = .returned v ∧ conF M = C ∧ Fio w' w.heap.size v M ∧ Below w.heap.size w w' := by
  have H := Lib.hid h; have BY := Lib.hid hby
  clear h hby
  obtain ⟨n, hn⟩ : ∃ n, C.length = n := ⟨_, rfl⟩
  have HN := Lib.hid hn
  rw [hn] at hL ⊢
  clear hn
  go_enter Tryz.func66, Tryz.ntmps66
  go_wp2
  go_loopw [3, 4] (fun v3 vi wr => ∃ j : Nat, vi = .int .i64 j ∧ j ≤ n ∧ FlS w wr C v3 j) (fun _ vi _ => n - (intOf vi).toNat)
  case atStart => exact ⟨0, rfl, Nat.zero_le _, [], rfl, Fio.nil _ _, Below.refl _ _⟩
  case round =>
    obtain ⟨j, rfl, hj, M, hM, hf, hb⟩ := hrel
    have MM := Lib.hid hM; have FI := Lib.hid hf; have BW := Lib.hid hb
    have H3 := Lib.hid (H.out.below hb)
    clear hM hf hb
    by_cases c1 : j < n
    · have t1 : decide ((j : Int) < (n : Int)) = true := decide_eq_true (by omega)
      have t1' : decide (j < n) = true := decide_eq_true c1
      have hjC : j < C.length := by have := HN.out; omega
      obtain ⟨b1, o1, p1, k1, rfl, h1, h2, h3, h4⟩ := H3.out j hjC
      obtain ⟨nm, hnm⟩ : ∃ q, C[j].1 = q := ⟨_, rfl⟩
      obtain ⟨t, ht⟩ : ∃ q, C[j].2 = q := ⟨_, rfl⟩
      have e3 : C[j] = (nm, t) := by rw [← hnm, ← ht]
      have TL : t.length ≤ 140737488355328 := by have := BY.out _ (List.getElem_mem hjC); rw [e3] at this; exact this
      rw [hnm] at h1
      rw [ht] at h2 h3 h4
      have CC := Lib.hid (CopyFile_calls nm t p1 k1 wr h4 TL)
      have E3 := Lib.hid e3
      have i2 : (j : Int) < (n : Int) := by omega
      clear hnm ht e3 h3 h4
      go_wp2_with fail
      refine CC.out.mono ?_
      rintro r w4 ⟨a4, c4', rfl, hc4, ho4, hb4⟩
      have O4 := Lib.hid (ho4.rebase (base' := w.heap.size) (fun k hk => Nat.le_trans BW.out.size (ho4.lt k hk).1))
      have V4 := Lib.hid (fun k hk => (ho4.lt k hk).1)
      have B4 := Lib.hid hb4
      have F4 := Lib.hid (FI.out.below hb4)
      have ML : M.length = j := by
        have h9 := congrArg List.length MM.out
        rw [List.length_take] at h9
        simp only [conF, List.length_map] at h9
        omega
      have MLH := Lib.hid ML
      have OM : Own w4 w.heap.size 116 2 u3 j (fcells M) := by rw [← ML]; exact F4.out.own
      have OMH := Lib.hid OM
      have HC4 := Lib.hid hc4
      have N1 : Hid (j + 1 ≤ maxLen) := by show _ ≤ _; unfold maxLen; omega
      have N2 : Hid ((j + 1) * 40 ≤ 140737488355328) := by show _ ≤ _; omega
      have N3 : Hid (w.heap.size ≤ (w4.alloc (.cells #[.string ⟨nm.toArray⟩, .slice a4 t.length c4'] 116)).heap.size) := by
        show _ ≤ _
        rw [World.size_alloc]
        have := BW.out.size; have := B4.out.size; omega
      clear ho4 hb4 h1 h2 ML OM hc4 CC
      go_wp2_with (at_builtin; refine wpList_append rfl (.tmp 11) (.tmp 17) 101 101 rfl w.heap.size 116 (.agg #[.string ⟨#[]⟩, .slice none 0 0]) 2 40 Tryz.underlying101 infoFile rfl (v := u3) (n := j) (xs := fcells M) (OMH.out.alloc _) rfl (xv := .slice (some ⟨w4.heap.size, 0, none⟩) 1 1) (m := 1) (news := [.string ⟨nm.toArray⟩, .slice a4 t.length c4']) (Src_new2 Tryz.underlying101 (heap_alloc_new w4 _) rfl rfl) rfl N1.out N2.out N3.out ?_)
      rintro v9 w9 ho9 hg9 - hv9
      have NX : Hid (FlS w w9 C v9 (j + 1)) := by
        have U9 : Upd (fun i => u3.ownBlock = some i) w4 w9 := ((Upd.refl _ w4).alloc _).grown hg9 (fun k hk _ => hk)
        refine ⟨M ++ [⟨nm, t, a4, c4'⟩], ?_, ⟨?_, ?_, ?_, ?_⟩, ?_⟩
        · rw [List.take_succ_eq_append_getElem hjC, E3.out, ← MM.out]
          simp [conF]
        · rw [List.length_append, List.length_singleton, fcells_snoc, MLH.out]
          exact ho9
        · intro f hf
          rcases List.mem_append.1 hf with hf | hf
          · refine ⟨(F4.out.byt f hf).1, (F4.out.byt f hf).2.upd U9 (fun k hk e => F4.out.sep f hf k hk e)⟩
          · rw [List.mem_singleton] at hf
            subst hf
            refine ⟨HC4.out, O4.out.upd U9 (fun k hk e => ?_)⟩
            have h1 := V4.out k hk
            have h2 := (FI.out.own.lt k e).2
            omega
        · intro f hf k hk e
          rcases hv9 with h9 | h9
          · rw [h9] at e
            rcases List.mem_append.1 hf with hf | hf
            · exact F4.out.sep f hf k hk e
            · rw [List.mem_singleton] at hf
              subst hf
              have h1 := V4.out k hk
              have h2 := (FI.out.own.lt k e).2
              omega
          · rw [h9] at e
            have e' : w4.heap.size + 1 = k := Option.some.inj e
            rcases List.mem_append.1 hf with hf | hf
            · have := ((F4.out.byt f hf).2.lt k hk).2
              omega
            · rw [List.mem_singleton] at hf
              subst hf
              have := (O4.out.lt k hk).2
              omega
        · rw [List.pairwise_append]
          refine ⟨F4.out.pair, List.pairwise_singleton _ _, ?_⟩
          intro f hf g' hg' k hk e
          rw [List.mem_singleton] at hg'
          subst hg'
          have h1 := V4.out k e
          have h2 := ((FI.out.byt f hf).2.lt k hk).2
          omega
        · exact BW.out.trans ((B4.out.mono BW.out.size).trans (U9.below (fun k hk _ => (F4.out.own.lt k hk).1) (Nat.le_trans BW.out.size B4.out.size)))
      clear ho9 hg9 hv9
      go_wp2
      go_roundw
      case rel => exact ⟨j + 1, by go_num, by omega, NX.out⟩
      case measure => simp [intOf]; omega
    · have t1 : decide ((j : Int) < (n : Int)) = false := decide_eq_false (by omega)
      have t1' : decide (j < n) = false := decide_eq_false c1
      have FIN : Hid (conF M = C) := by
        show _ = _
        rw [MM.out, List.take_of_length_le (by have := HN.out; omega)]
      go_wp2
      go_ret
      exact ⟨u3, M, rfl, FIN.out, FI.out, BW.out⟩
end Go.Proofs.YtnbpkignkfabkaaGreatDoor
namespace Go.Proofs.YtnbpkignkfabkaaGreatDoor
set_option linter.unusedVariables false
set_option linter.unusedSimpArgs false
open Go.RowKit Go.Maps
set_option maxRecDepth 100000 in
set_option maxHeartbeats 1000000 in
theorem OverO_calls (B n : Nat) (v : Value) (x : List UInt8) (w : World) (h : Own w B 5 1 v n (bys x)) (hx : x.length = n) (hs : n ≤ 140737488355328) :
    Calls Tryz.prog 27 #[v] w fun r w' => r = .returned (.tuple #[]) ∧ ∃ y : List UInt8, y.length = n ∧ Own w' B 5 1 v n (bys y) ∧ Upd (fun k => v.ownBlock = some k) w w' := by
  obtain ⟨a, cap, rfl, -, -, hob⟩ := h.shape'
  have H := Lib.hid h; have HB := Lib.hid hob; have HX0 := Lib.hid hx; clear h hob hx
  go_enter Tryz.func27, Tryz.ntmps27
  go_wp2
  go_loopw [2] (fun vi wr => ∃ (i : Nat) (y : List UInt8), vi = .int .i64 i ∧ i ≤ n ∧ y.length = n ∧ Own wr B 5 1 (.slice a n cap) n (bys y) ∧ Upd (fun k => (Value.slice a n cap).ownBlock = some k) w wr) (fun vi _ => n - (intOf vi).toNat)
  case atStart => exact ⟨0, x, rfl, by omega, HX0.out, H.out, Upd.refl _ _⟩
  case round =>
    obtain ⟨i, y, rfl, hi, hy, ho, hu⟩ := hrel
    have OW := Lib.hid ho; have UW := Lib.hid hu; have HX := Lib.hid hy; clear ho hu hy
    by_cases hlt : i < n
    · have t1 : decide ((i : Int) < (n : Int)) = true := decide_eq_true (by omega)
      have t1' : decide (i < n) = true := decide_eq_true hlt
      obtain ⟨g, cap', hv⟩ := OW.out.shape (by omega)
      simp only [Value.slice.injEq] at hv
      obtain ⟨rfl, -, rfl⟩ := hv
      have q2 := OW.out.frozenAt i (by omega)
      obtain ⟨yi, q3⟩ : ∃ z : Int, wr.cell? ⟨g, i, none⟩ = some (.int .u8 z) := ⟨_, (OW.out.cellAt i (by omega)).trans (bys_get (show i < y.length by rw [HX.out]; omega))⟩
      have OS := OW.out.set i (.int .u8 238)
      rw [show (Value.int .u8 238) = .int .u8 ((238 : UInt8).toNat : Int) from rfl, bys_set] at OS
      have OS := Lib.hid OS
      have US := Lib.hid (UW.out.setCell (p := ⟨g, i, none⟩) (fun _ => HB.out) (.int .u8 238))
      have i2 : (i : Int) < (n : Int) := by omega
      go_wp2
      go_roundw
      case rel => exact ⟨i + 1, _, by go_num, by omega, by rw [List.length_set]; exact HX.out, OS.out, US.out⟩
      case measure => simp [intOf]; omega
    · have t1 : decide ((i : Int) < (n : Int)) = false := decide_eq_false (by omega)
      have t1' : decide (i < n) = false := decide_eq_false hlt
      go_wp2
      go_end0
      exact ⟨rfl, y, HX.out, OW.out, UW.out⟩
/-- Files in rows that lie from B up to E; their bytes are whatever they are. -/
structure HdF (w : World) (B E : Nat) (v : Value) (M : List Fl) : Prop where
  own : Own w B 116 2 v M.length (fcells M)
  byt : ∀ i (h : i < M.length), ∃ x : List UInt8, x.length = (M[i]).by_.length ∧ Own w B 5 1 (M[i]).val (M[i]).by_.length (bys x)
  sep : ∀ i (h : i < M.length) k, (M[i]).val.ownBlock = some k → v.ownBlock ≠ some k
  pair : ∀ i j (h : i < M.length) (h' : j < M.length), i ≠ j → ∀ k, (M[i]).val.ownBlock = some k → (M[j]).val.ownBlock ≠ some k
  le : ∀ k, v.ownBlock = some k → k < E
  lb : ∀ i (h : i < M.length) k, (M[i]).val.ownBlock = some k → k < E
section
variable {w w' : World} {B E : Nat} {v : Value} {M : List Fl}
theorem Fio.hdF (h : Fio w B v M) : HdF w B w.heap.size v M := by
  refine ⟨h.own, fun i hi => ⟨_, rfl, (h.byt _ (List.getElem_mem hi)).2⟩, fun i hi => h.sep _ (List.getElem_mem hi), fun i j hi hj hne k h1 h2 => ?_, fun k hk => (h.own.lt k hk).2, fun i hi k hk => ((h.byt _ (List.getElem_mem hi)).2.lt k hk).2⟩
  have hp := List.pairwise_iff_getElem.1 h.pair
  rcases Nat.lt_or_gt_of_ne hne with h9 | h9
  · exact hp i j hi hj h9 k h1 h2
  · exact hp j i hj hi h9 k h2 h1
theorem HdF.upd {S : Nat → Prop} (h : HdF w B E v M) (hu : Upd S w w') (hs : ∀ k, S k → k < B ∨ E ≤ k) : HdF w' B E v M := by
  refine ⟨h.own.upd hu (fun k hk s => ?_), fun i hi => ?_, h.sep, h.pair, h.le, h.lb⟩
  · have := h.le k hk; have := (h.own.lt k hk).1; rcases hs k s with h9 | h9 <;> omega
  · obtain ⟨x, h1, h2⟩ := h.byt i hi
    refine ⟨x, h1, h2.upd hu (fun k hk s => ?_)⟩
    have := h.lb i hi k hk; have := (h2.lt k hk).1; rcases hs k s with h9 | h9 <;> omega
theorem HdF.below (h : HdF w B E v M) (hb : Below w.heap.size w w') : HdF w' B E v M := h.upd (Upd.ofBelow hb) (fun _ s => s.elim)
theorem HdF.over (h : HdF w B E v M) {i : Nat} (hi : i < M.length) {y : List UInt8} (hy : y.length = (M[i]).by_.length) (ho : Own w' B 5 1 (M[i]).val (M[i]).by_.length (bys y)) (hu : Upd (fun k => (M[i]).val.ownBlock = some k) w w') : HdF w' B E v M := by
  refine ⟨h.own.upd hu (fun k hk s => h.sep i hi k s hk), fun j hj => ?_, h.sep, h.pair, h.le, h.lb⟩
  by_cases e : j = i
  · subst e
    exact ⟨y, hy, ho⟩
  · obtain ⟨x, h1, h2⟩ := h.byt j hj
    exact ⟨x, h1, h2.upd hu (fun k hk s => h.pair j i hj hi e k hk s)⟩
end
theorem Writes_s {w : World} {B db : Nat} {F : Nat → Prop} {s : DS} (h : DkS w B db F s) : Calls Tryz.prog 36 #[.pointer (some ⟨db, 0, none⟩)] w fun r w' => r = .returned (.int .i64 (s.writes : Int)) ∧ DkStep w w' B db F s :=
  (Writes_dk h.dk).mono fun _ _ hr => ⟨hr.1, h.step hr.2⟩
theorem Remove_s {w : World} {B db : Nat} {F : Nat → Prop} {s : DS} (h : DkS w B db F s) (nm : List UInt8) (hnm : nm.length ≤ 140737488351232) (hw : s.writes ≤ 4611686018427387904) : Calls Tryz.prog 62 #[.pointer (some ⟨db, 0, none⟩), .string ⟨nm.toArray⟩] w fun r w' => r = .returned (.int .i64 (s.remove nm).1) ∧ DkStep w w' B db F (s.remove nm).2 :=
  (Remove_dk B db F s nm w h.dk hnm hw).mono fun _ _ hr => ⟨hr.1, h.step hr.2⟩
/-- A row turned. -/
theorem rot_get {α : Type} {M : List α} {r j : Nat} (hr : r < M.length) (hj : j < M.length) : ∃ (h : (j + r) % M.length < M.length), (M.drop r ++ M.take r)[j]? = some (M[(j + r) % M.length]) := by
  refine ⟨Nat.mod_lt _ (by omega), ?_⟩
  rw [List.getElem?_eq_some_iff]
  refine ⟨by simp; omega, ?_⟩
  by_cases c : j < M.length - r
  · rw [List.getElem_append_left (by simp; omega), List.getElem_drop]
    congr 1
    rw [Nat.mod_eq_of_lt (by omega)]; omega
  · rw [List.getElem_append_right (by simp; omega), List.getElem_take]
    congr 1
    rw [List.length_drop, Nat.mod_eq_sub_mod (by omega), Nat.mod_eq_of_lt (by omega)]; omega
theorem rot_perm {α : Type} (M : List α) (r : Nat) : (M.drop r ++ M.take r).Perm M := List.perm_append_comm.trans (by rw [List.take_append_drop])
theorem swap_perm {α : Type} {M : List α} {i j : Nat} (hi : i < M.length) (hj : j < M.length) : ((M.set i M[j]).set j M[i]).Perm M := List.set_set_perm hi hj
theorem fcells_set : ∀ (M : List Fl) (i : Nat) (f : Fl), ((fcells M).set (i * 2) (.string ⟨f.nm.toArray⟩)).set (i * 2 + 1) f.val = fcells (M.set i f)
  | [], _, _ => rfl
  | g :: M, 0, f => rfl
  | g :: M, i + 1, f => by
    rw [fcells_cons, show (i + 1) * 2 = i * 2 + 1 + 1 by omega, show i * 2 + 1 + 1 + 1 = (i * 2 + 1) + 1 + 1 by omega]
    simp only [List.set_cons_succ]
    rw [fcells_set M i f]
    rfl
theorem Own.setG {w : World} {base size : Nat} {e : TypeId} {g cap n : Nat} {xs : List Value} (h : Own w base e size (.slice (some ⟨g, 0, none⟩) n cap) n xs) (j : Nat) (u : Value) :
    Own (w.setCell ⟨g, j, none⟩ u) base e size (.slice (some ⟨g, 0, none⟩) n cap) n (xs.set j u) := by
  obtain ⟨hl, hn | ⟨g', cap', cur, fr, heq, hb, hh, hf, h1, h2, h3, h4⟩⟩ := h
  · cases hn.1
  · cases heq
    have hk : (w.setCell ⟨g, j, none⟩ u).heap[g]? = some (.cells (cur.setIfInBounds j u) e fr) := by
      have hg : g < w.heap.size := lt_of_block hh
      have hv : w.heap[g] = .cells cur e fr := (Array.getElem?_eq_some_iff.1 hh).2
      show (w.heap.modify g _)[g]? = _
      rw [Array.getElem?_eq_getElem (by simpa using hg), Array.getElem_modify_self, hv]
      rfl
    exact ⟨by simpa using hl, .inr ⟨g, cap, cur.setIfInBounds j u, fr, rfl, hb, hk, by simpa using hf, h1, h2, by simpa using h3, by rw [← h4]; simp [List.take_set]⟩⟩
def swapW (w : World) (g i q : Nat) (fi fq : Fl) : World :=
  ((((w.setCell ⟨g, i * 2, none⟩ (.string ⟨fq.nm.toArray⟩)).setCell ⟨g, i * 2 + 1, none⟩ fq.val).setCell ⟨g, q * 2, none⟩ (.string ⟨fi.nm.toArray⟩)).setCell ⟨g, q * 2 + 1, none⟩ fi.val).drew
theorem swap_own {w : World} {B g cap n i q : Nat} {M : List Fl} {fi fq : Fl} (h : Own w B 116 2 (.slice (some ⟨g, 0, none⟩) n cap) n (fcells M)) (hi : M[i]? = some fi) (hq : M[q]? = some fq) :
    Own (swapW w g i q fi fq) B 116 2 (.slice (some ⟨g, 0, none⟩) n cap) n (fcells ((M.set i fq).set q fi)) ∧ ((M.set i fq).set q fi).Perm M ∧ Upd (fun k => k = g) w (swapW w g i q fi fq) := by
  refine ⟨?_, ?_, ?_⟩
  · have h9 := (((h.setG (i * 2) (.string ⟨fq.nm.toArray⟩)).setG (i * 2 + 1) fq.val).setG (q * 2) (.string ⟨fi.nm.toArray⟩)).setG (q * 2 + 1) fi.val
    rw [fcells_set, fcells_set] at h9
    exact h9.below (bel_drew (Below.refl _ _))
  · obtain ⟨hi1, rfl⟩ := List.getElem?_eq_some_iff.1 hi
    obtain ⟨hq1, rfl⟩ := List.getElem?_eq_some_iff.1 hq
    exact swap_perm hi1 hq1
  · exact (((((Upd.refl (fun k => k = g) w).setCell (p := ⟨g, i * 2, none⟩) (fun _ => rfl) _).setCell (p := ⟨g, i * 2 + 1, none⟩) (fun _ => rfl) _).setCell (p := ⟨g, q * 2, none⟩) (fun _ => rfl) _).setCell (p := ⟨g, q * 2 + 1, none⟩) (fun _ => rfl) _).same ((Upd.ofBelow (bel_drew (Below.refl _ _))).mono (fun _ s _ => s.elim))
/-- Two disks, files beside them, of which the bytes are whatever they are; what stood. -/
structure OrS (w0 wr : World) (da db Ba Bb Bl El Bw Ew : Nat) (sa sb : DS) (Fa Fb : Nat → Prop) (v : Value) (M : List Fl) (aw : Option Addr) (C : Con) : Prop where
  pr : Pair wr Ba Bb da db Fa Fb sa sb
  hd : HdF wr Bl El v M
  wz : FilZ wr Bw Ew aw C
  bel : Below w0.heap.size w0 wr
  la : El ≤ Ba
  lb : El ≤ Bb
  lw : El ≤ Bw
  wl : w0.heap.size ≤ Bl
  wa : w0.heap.size ≤ Ba
  wb : w0.heap.size ≤ Bb
  fa : ∀ k, Fa k → k < Bw ∨ Ew ≤ k
  fb : ∀ k, Fb k → k < Bw ∨ Ew ≤ k
  ew : Ew ≤ wr.heap.size
section
variable {w0 wr w' : World} {da db Ba Bb Bl El Bw Ew : Nat} {sa sb t : DS} {Fa Fb : Nat → Prop} {v : Value} {M : List Fl} {aw : Option Addr} {C : Con}
theorem OrS.stepA (h : OrS w0 wr da db Ba Bb Bl El Bw Ew sa sb Fa Fb v M aw C) (hs : DkStep wr w' Ba da Fa t) : ∃ F', OrS w0 w' da db Ba Bb Bl El Bw Ew t sb F' Fb v M aw C := by
  obtain ⟨F', h1, h2, h3, h4⟩ := h.pr.step hs
  exact ⟨F', ⟨h1, h.hd.upd h2 (fun k hk => .inr (Nat.le_trans h.la (h.pr.d1.fl k hk).1)), h.wz.upd h2 h.fa, h.bel.trans (h3.mono h.wa), h.la, h.lb, h.lw, h.wl, h.wa, h.wb, fun k hk => (h4 k hk).elim (h.fa k) (fun h9 => .inr (Nat.le_trans h.ew h9)), h.fb, Nat.le_trans h.ew h2.size⟩⟩
theorem OrS.readA (h : OrS w0 wr da db Ba Bb Bl El Bw Ew sa sb Fa Fb v M aw C) (hd : DkS w' Ba da Fa sa) (hu : Upd (fun i => i = da) wr w') (hb : Below Ba wr w') : OrS w0 w' da db Ba Bb Bl El Bw Ew sa sb Fa Fb v M aw C :=
  ⟨h.pr.read hd hu, h.hd.upd hu (fun k hk => .inr (by rw [hk]; exact Nat.le_trans h.la (h.pr.d1.fl _ h.pr.d1.dk.at_).1)), h.wz.upd hu (fun k hk => by rw [hk]; exact h.fa _ h.pr.d1.dk.at_), h.bel.trans (hb.mono h.wa), h.la, h.lb, h.lw, h.wl, h.wa, h.wb, h.fa, h.fb, Nat.le_trans h.ew hu.size⟩
theorem OrS.readB (h : OrS w0 wr da db Ba Bb Bl El Bw Ew sa sb Fa Fb v M aw C) (hd : DkS w' Bb db Fb sb) (hu : Upd (fun i => i = db) wr w') (hb : Below Bb wr w') : OrS w0 w' da db Ba Bb Bl El Bw Ew sa sb Fa Fb v M aw C :=
  ⟨(h.pr.symm.read hd hu).symm, h.hd.upd hu (fun k hk => .inr (by rw [hk]; exact Nat.le_trans h.lb (h.pr.d2.fl _ h.pr.d2.dk.at_).1)), h.wz.upd hu (fun k hk => by rw [hk]; exact h.fb _ h.pr.d2.dk.at_), h.bel.trans (hb.mono h.wb), h.la, h.lb, h.lw, h.wl, h.wa, h.wb, h.fa, h.fb, Nat.le_trans h.ew hu.size⟩
theorem OrS.below (h : OrS w0 wr da db Ba Bb Bl El Bw Ew sa sb Fa Fb v M aw C) (hb : Below wr.heap.size wr w') : OrS w0 w' da db Ba Bb Bl El Bw Ew sa sb Fa Fb v M aw C :=
  ⟨h.pr.below hb, h.hd.below hb, h.wz.below hb, h.bel.trans (hb.mono (Nat.le_trans h.wa h.pr.d1.bw)), h.la, h.lb, h.lw, h.wl, h.wa, h.wb, h.fa, h.fb, Nat.le_trans h.ew hb.size⟩
theorem OrS.over (h : OrS w0 wr da db Ba Bb Bl El Bw Ew sa sb Fa Fb v M aw C) {i : Nat} (hi : i < M.length) {y : List UInt8} (hy : y.length = (M[i]).by_.length) (ho : Own w' Bl 5 1 (M[i]).val (M[i]).by_.length (bys y)) (hu : Upd (fun k => (M[i]).val.ownBlock = some k) wr w') : OrS w0 w' da db Ba Bb Bl El Bw Ew sa sb Fa Fb v M aw C := by
  obtain ⟨x, -, hx⟩ := h.hd.byt i hi
  have hb : ∀ k, (M[i]).val.ownBlock = some k → Bl ≤ k ∧ k < El := fun k hk => ⟨(hx.lt k hk).1, h.hd.lb i hi k hk⟩
  refine ⟨⟨h.pr.d1.upd hu (fun k hk hf => ?_), h.pr.d2.upd hu (fun k hk hf => ?_), h.pr.dj⟩, h.hd.over hi hy ho hu, h.wz.upd hu (fun k hk => .inl (Nat.lt_of_lt_of_le (hb k hk).2 h.lw)), h.bel.trans (hu.below (fun k hk _ => Nat.le_trans h.wl (hb k hk).1) (Nat.le_trans h.wa h.pr.d1.bw)), h.la, h.lb, h.lw, h.wl, h.wa, h.wb, h.fa, h.fb, Nat.le_trans h.ew hu.size⟩
  · have := (hb k hk).2; have := (h.pr.d1.fl k hf).1; have := h.la; omega
  · have := (hb k hk).2; have := (h.pr.d2.fl k hf).1; have := h.lb; omega
end
/-- What a Remove leaves where the power is on and nothing is armed: whether it is refused or not, the name is gone. -/
theorem remove_has {s : DS} (h : Calm s) (ho : s.ok) (nm m : List UInt8) : hasC (s.remove nm).2.C m = (hasC s.C m && !(m == nm)) ∧ Calm (s.remove nm).2 ∧ (s.remove nm).2.writes ≤ s.writes + 1 := by
  unfold DS.remove
  by_cases c : s.may true [nm] ≠ 0
  · rw [if_pos c]
    have hn : hasC s.C nm = false := by
      cases hh : hasC s.C nm with
      | false => rfl
      | true =>
        exfalso
        apply c
        unfold hasC at hh
        obtain ⟨p, hp, he⟩ := List.any_eq_true.1 hh
        have he' : p.1 = nm := by simpa using he
        have h1 := ho.nm p hp
        rw [he'] at h1
        unfold DS.may
        rw [if_neg (by rw [h.off]; decide), if_neg (by simp [h1]), if_neg (by simp; unfold hasC; rw [hh])]
    refine ⟨?_, h, Nat.le_succ _⟩
    by_cases e : m = nm
    · subst e; simp [hn]
    · simp [e]
  · rw [if_neg c]
    unfold DS.whole
    rw [if_neg (by rw [h.arm]; decide)]
    exact ⟨hasC_delC _ _ _, ⟨h.wr.off, h.wr.arm⟩, Nat.le_refl _⟩
theorem loadR_none {room e : Int} {l : Con} (h : loadR room l = (e, none)) : (e == 0) = false := by
  unfold loadR at h
  split at h
  · cases h; rfl
  · split at h
    · cases h; rfl
    · split at h
      · cases h; rfl
      · cases h
/-- Rows of files, with the bytes wherever they lie, as files to read. -/
theorem fil_own {w : World} {B n : Nat} {a : Option Addr} {c : Nat} {M : List Fl} (h : Own w B 116 2 (.slice a n c) n (fcells M)) (hb : ∀ f ∈ M, f.by_.length ≤ f.c ∧ Byt w f.a f.by_) (hn : M.length = n) : Fil w a (conF M) := by
  intro i hi
  have hi' : i < M.length := by simpa [conF] using hi
  have hg : (conF M)[i] = (M[i].nm, M[i].by_) := by simp [conF]
  obtain ⟨g, cap, hv⟩ := h.shape (by omega)
  simp only [Value.slice.injEq] at hv
  obtain ⟨rfl, -, rfl⟩ := hv
  obtain ⟨g1, g2⟩ := fcells_get hi'
  obtain ⟨b1, b2⟩ := hb M[i] (List.getElem_mem hi')
  rw [hg]
  refine ⟨g, 0, M[i].a, M[i].c, rfl, ?_, ?_, b1, b2⟩
  · rw [Nat.zero_add, h.cellAt _ (by omega)]; exact g1
  · rw [Nat.zero_add, h.cellAt _ (by omega)]; exact g2
theorem Fio.bytw {w : World} {B : Nat} {v : Value} {M : List Fl} (h : Fio w B v M) (f : Fl) (hf : f ∈ M) : f.by_.length ≤ f.c ∧ Byt w f.a f.by_ := by
  obtain ⟨b1, b2⟩ := h.byt f hf
  obtain ⟨a2, c2, hv2, -, -, y2, -, -⟩ := own_val b2
  have e : f.val = .slice f.a f.by_.length f.c := rfl
  rw [e] at hv2
  cases hv2
  exact ⟨b1, y2⟩
theorem hasC_none : ∀ {C : Con}, (∀ nm, hasC C nm = false) → C = []
  | [], _ => rfl
  | p :: r, h => by
    have h9 := h p.1
    unfold hasC at h9
    simp at h9
section
variable {w0 wr w' : World} {da db Ba Bb Bl El Bw Ew j : Nat} {sa sb t : DS} {Fa Fb : Nat → Prop} {v : Value} {M : List Fl} {aw : Option Addr} {C C2 : Con}
theorem OrS.filesA (h : OrS w0 wr da db Ba Bb Bl El Bw Ew sa sb Fa Fb v M aw C) (hC : sa.C = C2) (hj : C2.length = j) : Calls Tryz.prog 34 #[.pointer (some ⟨da, 0, none⟩)] wr fun r w' => ∃ a c, r = .returned (.slice a j c) ∧ Fil w' a C2 ∧ OrS w0 w' da db Ba Bb Bl El Bw Ew sa sb Fa Fb v M aw C := by
  refine (Files_s h.pr.d1).mono ?_
  rintro r w' ⟨a, c, rfl, -, hf, hd, hu, hb⟩
  rw [hC] at hf ⊢
  rw [hj]
  exact ⟨a, c, rfl, hf.fil, h.readA hd hu hb⟩
theorem OrS.filesB (h : OrS w0 wr da db Ba Bb Bl El Bw Ew sa sb Fa Fb v M aw C) (hC : sb.C = C2) (hj : C2.length = j) : Calls Tryz.prog 34 #[.pointer (some ⟨db, 0, none⟩)] wr fun r w' => ∃ a c, r = .returned (.slice a j c) ∧ Fil w' a C2 ∧ OrS w0 w' da db Ba Bb Bl El Bw Ew sa sb Fa Fb v M aw C := by
  refine (Files_s h.pr.d2).mono ?_
  rintro r w' ⟨a, c, rfl, -, hf, hd, hu, hb⟩
  rw [hC] at hf ⊢
  rw [hj]
  exact ⟨a, c, rfl, hf.fil, h.readB hd hu hb⟩
theorem OrS.eq {a : Option Addr} {c cw : Nat} (h : OrS w0 wr da db Ba Bb Bl El Bw Ew sa sb Fa Fb v M aw C) (hx : Fil wr a C) (hj : C.length = j) (hl : j ≤ 140737488355328) (hn : ∀ p ∈ C, p.2.length ≤ 140737488355328) :
    Calls Tryz.prog 33 #[.slice a j c, .slice aw j cw] wr fun r w' => r = .returned (.bool true) ∧ OrS w0 w' da db Ba Bb Bl El Bw Ew sa sb Fa Fb v M aw C := by
  have h9 := EqFiles_same C a aw c cw wr hx h.wz.b.fil (by omega) hn
  rw [hj] at h9
  exact h9.mono fun _ _ hr => ⟨hr.1, h.below hr.2⟩
theorem OrS.writesA (h : OrS w0 wr da db Ba Bb Bl El Bw Ew sa sb Fa Fb v M aw C) (hC : sa.writes = 0) : Calls Tryz.prog 36 #[.pointer (some ⟨da, 0, none⟩)] wr fun r w' => r = .returned (.int .i64 0) ∧ ∃ F', OrS w0 w' da db Ba Bb Bl El Bw Ew sa sb F' Fb v M aw C := by
  refine (Writes_s h.pr.d1).mono ?_
  rintro r w' ⟨rfl, hs⟩
  rw [hC]
  exact ⟨rfl, h.stepA hs⟩
theorem OrS.offA (h : OrS w0 wr da db Ba Bb Bl El Bw Ew sa sb Fa Fb v M aw C) (hC : sa.off = false) : Calls Tryz.prog 37 #[.pointer (some ⟨da, 0, none⟩)] wr fun r w' => r = .returned (.bool false) ∧ ∃ F', OrS w0 w' da db Ba Bb Bl El Bw Ew sa sb F' Fb v M aw C := by
  refine h.pr.d1.offq.mono ?_
  rintro r w' ⟨rfl, hs⟩
  rw [hC]
  exact ⟨rfl, h.stepA hs⟩
theorem OrS.removeA (h : OrS w0 wr da db Ba Bb Bl El Bw Ew sa sb Fa Fb v M aw C) (nm : List UInt8) (hnm : nm.length ≤ 140737488351232) (hw : sa.writes ≤ 4611686018427387904) (hc : Calm sa) : Calls Tryz.prog 62 #[.pointer (some ⟨da, 0, none⟩), .string ⟨nm.toArray⟩] wr fun r w' => ∃ e t F', r = .returned (.int .i64 e) ∧ OrS w0 w' da db Ba Bb Bl El Bw Ew t sb F' Fb v M aw C ∧ (∀ m, hasC t.C m = (hasC sa.C m && !(m == nm))) ∧ Calm t ∧ t.writes ≤ sa.writes + 1 := by
  refine (Remove_s h.pr.d1 nm hnm hw).mono ?_
  rintro r w' ⟨rfl, hs⟩
  obtain ⟨F', h9⟩ := h.stepA hs
  exact ⟨_, _, F', rfl, h9, fun m => (remove_has hc h.pr.d1.dk.ok nm m).1, (remove_has hc h.pr.d1.dk.ok nm []).2⟩
theorem OrS.overA (h : OrS w0 wr da db Ba Bb Bl El Bw Ew sa sb Fa Fb v M aw C) {i : Nat} (hi : i < M.length) (hs : (M[i]).by_.length ≤ 140737488355328) : Calls Tryz.prog 27 #[(M[i]).val] wr fun r w' => r = .returned (.tuple #[]) ∧ OrS w0 w' da db Ba Bb Bl El Bw Ew sa sb Fa Fb v M aw C := by
  obtain ⟨x, hx, ho⟩ := h.hd.byt i hi
  refine (OverO_calls Bl _ _ x wr ho hx hs).mono ?_
  rintro r w' ⟨rfl, y, hy, ho', hu⟩
  exact ⟨rfl, h.over hi hy ho' hu⟩
end
end Go.Proofs.YtnbpkignkfabkaaGreatDoor
