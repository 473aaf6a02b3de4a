/- posternlaw1: LendFile, LendFiles, BackFile, BackFiles, OverFile, OverFiles; posternref9.New; posternref0.EqStrings. -/
import Derived.Test.YtcmllfnhdodbdaaGreatDoorRefL
import Derived.Test.YtcmllfnhdodbdaaGreatDoorLend
namespace Go.Proofs.YtcmllfnhdodbdaaGreatDoor
set_option linter.unusedVariables false
set_option linter.unusedSimpArgs false
open Go.RowKit Go.Maps
set_option maxRecDepth 100000 in
set_option maxHeartbeats 1000000 in
theorem New9_calls (room : Int) (w : World) :
    Calls Tryz.prog 59 #[.int .i64 room] w fun r w' => Load9P w w' room [] r := by
  have LC := Lib.hid (Load9_calls room [] none 0 w (fun i h => absurd h (Nat.not_lt_zero _)) (fun _ h => by cases h) (Nat.zero_le _))
  go_enter Tryz.func59, Tryz.ntmps59
  go_wp2_with fail
  refine LC.out.mono ?_
  rintro r w1 hr
  unfold Load9P at hr
  obtain ⟨q, hq⟩ : ∃ q, loadR room [] = q := ⟨_, rfl⟩
  rw [hq] at hr
  have HQ := Lib.hid hq
  clear hq
  obtain ⟨e, o⟩ := q
  cases o with
  | none =>
    obtain ⟨rfl, hb⟩ := hr
    have HB := Lib.hid hb
    clear hb LC
    go_wp2
    go_ret2
    unfold Load9P
    rw [HQ.out]
    exact ⟨rfl, HB.out⟩
  | some s =>
    obtain ⟨rb, G, rfl, h1, h2⟩ := hr
    have H1 := Lib.hid h1; have H2 := Lib.hid h2
    clear h1 h2 LC
    go_wp2
    go_ret2
    unfold Load9P
    rw [HQ.out]
    exact ⟨rb, G, rfl, H1.out, H2.out⟩
set_option maxRecDepth 100000 in
set_option maxHeartbeats 1000000 in
theorem EqStrings_same (l : List (List UInt8)) (B1 B2 : Nat) (va vb : Value) (w : World) (ha : Own w B1 9 1 va l.length (strs l)) (hb : Own w B2 9 1 vb l.length (strs l)) (hl : l.length ≤ 140737488355328) :
    Calls Tryz.prog 114 #[va, vb] w fun r w' => r = .returned (.bool true) ∧ Below w.heap.size w w' := by
  obtain ⟨a1, c1, rfl, -, -, -⟩ := ha.shape'
  obtain ⟨a2, c2, rfl, -, -, -⟩ := hb.shape'
  have HA := Lib.hid ha; have HB := Lib.hid hb
  have t0 : ((l.length : Int) != (l.length : Int)) = false := by simp
  clear ha hb
  go_enter Tryz.func114, Tryz.ntmps114
  go_wp2
  go_loopw [5] (fun vi wr => ∃ i k : Nat, vi = .int .i64 i ∧ i ≤ l.length ∧ wr = w.drewN k) (fun vi _ => l.length - (intOf vi).toNat)
  case atStart => exact ⟨0, 0, rfl, Nat.zero_le _, rfl⟩
  case round =>
    obtain ⟨i, k, rfl, hi, hk⟩ := hrel
    have KQ := Lib.hid hk
    have hbel : Below w.heap.size w wr := by rw [hk]; exact bel_drewN (Below.refl _ _) k
    have O1 := HA.out.below hbel
    have O2 := HB.out.below hbel
    clear hk hbel
    by_cases c : i < l.length
    · have t1 : decide ((i : Int) < (l.length : Int)) = true := decide_eq_true (by omega)
      have t1' : decide (i < l.length) = true := decide_eq_true c
      have i2 : (i : Int) < (l.length : Int) := by omega
      obtain ⟨g1, d1, hv1⟩ := O1.shape (by omega)
      obtain ⟨g2, d2, hv2⟩ := O2.shape (by omega)
      simp only [Value.slice.injEq] at hv1 hv2
      obtain ⟨rfl, -, rfl⟩ := hv1
      obtain ⟨rfl, -, rfl⟩ := hv2
      have y1 := (O1.cellAt i (by omega)).trans (strs_get c)
      have y2 := (O2.cellAt i (by omega)).trans (strs_get c)
      obtain ⟨q, hq⟩ : ∃ q, l[i] = q := ⟨_, rfl⟩
      rw [hq] at y1 y2
      have t2 : (q != q) = false := by simp
      clear O1 O2 hq
      go_wp2_with fail
      go_quiet (fail)
      go_wp2
      go_roundw
      case rel => exact ⟨i + 1, _, by go_num, by omega, by rw [KQ.out]; exact World.drewN_drewN _ _ _⟩
      case measure => simp [intOf]; omega
    · have t1 : decide ((i : Int) < (l.length : Int)) = false := decide_eq_false (by omega)
      have t1' : decide (i < l.length) = false := decide_eq_false c
      clear O1 O2
      go_wp2
      go_ret
      exact ⟨rfl, by rw [KQ.out]; exact bel_drewN (Below.refl _ _) k⟩
set_option maxRecDepth 100000 in
set_option maxHeartbeats 1000000 in
theorem LendFile_calls (nm t : List UInt8) (a : Option Addr) (c : Nat) (w : World) (hy : Byt w a t) (hn : t.length ≤ 100000000000000) :
    Calls Tryz.prog 179 #[.agg #[.string ⟨nm.toArray⟩, .slice a t.length c]] w fun r w' => ∃ g c', r = .returned (.agg #[.string ⟨nm.toArray⟩, .slice (some ⟨g, 0, none⟩) t.length c']) ∧ Lnt w' w.heap.size g c' t ∧ Below w.heap.size w w' := by
  obtain ⟨w2, hw2⟩ : ∃ q, (w.alloc (.cells #[.string ⟨nm.toArray⟩, .slice a t.length c] 71)).alloc (.cells #[.string ⟨#[]⟩, .slice none 0 0] 71) = q := ⟨_, rfl⟩
  obtain ⟨w3, hw3⟩ : ∃ q, w2.alloc (.cells #[.string ⟨nm.toArray⟩, .slice a t.length c] 71) = q := ⟨_, rfl⟩
  have s2 : w2.heap.size = w.heap.size + 1 + 1 := by rw [← hw2]; simp
  have s3 : w3.heap.size = w.heap.size + 1 + 1 + 1 := by rw [← hw3, World.size_alloc, s2]
  have b2 : Below w.heap.size w w2 := by rw [← hw2]; exact ((Below.refl _ _).alloc (Nat.le_refl _) _).alloc (by simp) _
  have b3 : Below w.heap.size w w3 := by rw [← hw3]; exact b2.alloc b2.size _
  have k2 : w3.heap[w.heap.size + 1 + 1]? = some (.cells #[.string ⟨nm.toArray⟩, .slice a t.length c] 71 (0, 0)) := by rw [← hw3, ← s2]; exact heap_alloc_new w2 _
  have k1 : w3.heap[w.heap.size + 1]? = some (.cells #[.string ⟨#[]⟩, .slice none 0 0] 71 (0, 0)) := by
    have h9 := heap_alloc_new (w.alloc (.cells #[.string ⟨nm.toArray⟩, .slice a t.length c] 71)) (.cells #[.string ⟨#[]⟩, .slice none 0 0] 71)
    rw [hw2, World.size_alloc] at h9
    have b23 : Below w2.heap.size w2 w3 := by rw [← hw3]; exact (Below.refl _ _).alloc (Nat.le_refl _) _
    exact (b23.block _ (lt_of_block h9)).trans h9
  have CC := Lib.hid (Lend_calls a c t w3 (hy.below b3) hn)
  have W2 := Lib.hid hw2; have W3 := Lib.hid hw3; have B3 := Lib.hid b3; have K1 := Lib.hid k1; have K2 := Lib.hid k2; have S3 := Lib.hid s3
  clear hy hw2 hw3 b2 b3 s2 s3 k1 k2
  go_enter Tryz.func179, Tryz.ntmps179
  go_wp2_with fail
  rw [W2.out, W3.out]
  refine CC.out.mono ?_
  rintro r w4 ⟨g4, c4, rfl, o4, b4⟩
  have g1 := (b4.block _ (lt_of_block K1.out)).trans K1.out
  have g2 := (b4.block _ (lt_of_block K2.out)).trans K2.out
  have x0 : w4.cell? ⟨w.heap.size + 1 + 1, 0, none⟩ = some (.string ⟨nm.toArray⟩) := by rw [cell_of_row' g2]; rfl
  have x1 : w4.cell? ⟨w.heap.size + 1 + 1, 1, none⟩ = some (.slice a t.length c) := by rw [cell_of_row' g2]; rfl
  have f1 := frozen_of_row g2 1
  have y0 : w4.cell? ⟨w.heap.size + 1, 0, none⟩ = some (.string ⟨#[]⟩) := by rw [cell_of_row' g1]; rfl
  have y1 : w4.cell? ⟨w.heap.size + 1, 1, none⟩ = some (.slice none 0 0) := by rw [cell_of_row' g1]; rfl
  have e0 := frozen_of_row g1 0
  have e1 := frozen_of_row g1 1
  have O4 : Hid (Lnt w4 w.heap.size g4 c4 t) := Own.rebase o4 (fun k hk => by have := (Own.lt o4 k hk).1; have := S3.out; omega)
  have L4 := Lib.hid o4.lt.1
  have B4 := Lib.hid (B3.out.trans (b4.mono (by have := S3.out; omega)))
  clear o4 b4 g1 g2 CC
  go_wp2
  obtain ⟨w5, hw5⟩ : ∃ q, ((w4.setCell ⟨w.heap.size + 1 + 1, 1, none⟩ (.slice (some ⟨g4, 0, none⟩) t.length c4)).setCell ⟨w.heap.size + 1, 0, none⟩ (.string ⟨nm.toArray⟩)).setCell ⟨w.heap.size + 1, 1, none⟩ (.slice (some ⟨g4, 0, none⟩) t.length c4) = q := ⟨_, rfl⟩
  have u5 : Upd (fun k => k = w.heap.size + 1 + 1 ∨ k = w.heap.size + 1) w4 w5 := by
    rw [← hw5]
    exact (((Upd.refl _ w4).setCell (fun _ => .inl rfl) _).setCell (fun _ => .inr rfl) _).setCell (fun _ => .inr rfl) _
  have z0 : w5.cell? ⟨w.heap.size + 1, 0, none⟩ = some (.string ⟨nm.toArray⟩) := by rw [← hw5]; clear hw5; go_simp
  have z1 : w5.cell? ⟨w.heap.size + 1, 1, none⟩ = some (.slice (some ⟨g4, 0, none⟩) t.length c4) := by rw [← hw5]; clear hw5; go_simp
  rw [hw5]
  refine bodyPost_ret (v := .agg #[.string ⟨nm.toArray⟩, .slice (some ⟨g4, 0, none⟩) t.length c4]) (by simp [results, Tryz.results179, go_sem, z0, z1]) rfl ⟨g4, c4, rfl, O4.out.upd u5 (fun s => by have := L4.out; have := S3.out; rcases s with s | s <;> omega), B4.out.trans (u5.below (fun k s _ => by rcases s with s | s <;> omega) B4.out.size)⟩
/-- The name of the marks behind lent files. -/
def fmark : Fl := ⟨[109, 97, 114, 107], [], none, 0⟩
/-- Bytes of files, each lent, none in the block of v. -/
structure LntB (w : World) (B : Nat) (v : Value) (M : List Fl) : Prop where
  byt : ∀ i (h : i < M.length), ∃ g, (M[i]).a = some ⟨g, 0, none⟩ ∧ Lnt w B g (M[i]).c (M[i]).by_ ∧ v.ownBlock ≠ some g
  pair : ∀ i j (h : i < M.length) (h' : j < M.length), i ≠ j → (M[i]).a ≠ (M[j]).a
/-- Files that are lent: a row of one's own, nine marks behind them, each file's bytes lent. -/
structure LntF (w : World) (B : Nat) (v : Value) (n m : Nat) (M : List Fl) : Prop where
  own : Own w B 71 2 v (n + m) (fcells (M ++ List.replicate m fmark))
  len : M.length = n
  bs : LntB w B v M
theorem LntB.upd {S : Nat → Prop} {w w' : World} {B : Nat} {v : Value} {M : List Fl} (h : LntB w B v M) (hu : Upd S w w') (hs : ∀ i (hi : i < M.length) g, (M[i]).a = some ⟨g, 0, none⟩ → ¬ S g) : LntB w' B v M :=
  ⟨fun i hi => by obtain ⟨g, h1, h2, h3⟩ := h.byt i hi; exact ⟨g, h1, h2.upd hu (hs i hi g h1), h3⟩, h.pair⟩
theorem LntB.below {w w' : World} {B : Nat} {v : Value} {M : List Fl} (h : LntB w B v M) (hb : Below w.heap.size w w') : LntB w' B v M := h.upd (Upd.ofBelow hb) (fun _ _ _ _ s => s)
theorem LntF.below {w w' : World} {B : Nat} {v : Value} {n m : Nat} {M : List Fl} (h : LntF w B v n m M) (hb : Below w.heap.size w w') : LntF w' B v n m M :=
  ⟨h.own.below hb, h.len, h.bs.below hb⟩
theorem LntB.grow {w w9 : World} {B : Nat} {v v9 : Value} {M : List Fl} (h : LntB w B v M) (hu : Upd (fun i => v.ownBlock = some i) w w9) (hv : v9.ownBlock = v.ownBlock ∨ ∃ k, v9.ownBlock = some k ∧ w.heap.size ≤ k) : LntB w9 B v9 M := by
  refine ⟨fun i hi => ?_, h.pair⟩
  obtain ⟨g, h1, h2, h3⟩ := h.byt i hi
  refine ⟨g, h1, h2.upd hu (fun e => h3 e), fun e => ?_⟩
  rcases hv with hv | ⟨k, hv, hk⟩
  · rw [hv] at e; exact h3 e
  · rw [hv] at e
    have e' : k = g := Option.some.inj e
    have := h2.lt.2; omega
theorem LntB.snoc {w : World} {B : Nat} {v : Value} {M : List Fl} {f : Fl} {g : Nat} (h : LntB w B v M) (h1 : f.a = some ⟨g, 0, none⟩) (h2 : Lnt w B g f.c f.by_) (h3 : v.ownBlock ≠ some g) (hn : ∀ i (hi : i < M.length), (M[i]).a ≠ f.a) : LntB w B v (M ++ [f]) := by
  have hl : ∀ i (hi : i < (M ++ [f]).length), (∃ h : i < M.length, (M ++ [f])[i] = M[i]) ∨ (i = M.length ∧ (M ++ [f])[i] = f) := by
    intro i hi
    by_cases c : i < M.length
    · exact .inl ⟨c, List.getElem_append_left c⟩
    · have e : i = M.length := by simp at hi; omega
      subst e
      exact .inr ⟨rfl, by simp⟩
  refine ⟨fun i hi => ?_, fun i j hi hj hne => ?_⟩
  · rcases hl i hi with ⟨c, e⟩ | ⟨_, e⟩
    · rw [e]; exact h.byt i c
    · rw [e]; exact ⟨g, h1, h2, h3⟩
  · rcases hl i hi with ⟨c, e⟩ | ⟨e1, e⟩ <;> rcases hl j hj with ⟨c', e'⟩ | ⟨e1', e'⟩
    · rw [e, e']; exact h.pair i j c c' hne
    · rw [e, e']; exact hn i c
    · rw [e, e']; exact fun k => hn j c' k.symm
    · omega
set_option maxRecDepth 100000 in
set_option maxHeartbeats 4000000 in
theorem LendFiles_calls (C : Con) (a : Option Addr) (cap : Nat) (w : World) (h : Fil w a C) (hL : C.length ≤ 100000000000) (hby : ∀ p ∈ C, p.2.length ≤ 100000000000000) :
    Calls Tryz.prog 116 #[.slice a C.length cap] w fun r w' => ∃ g c M, r = .returned (.slice (some ⟨g, 0, none⟩) C.length c) ∧ conF M = C ∧ LntF w' w.heap.size (.slice (some ⟨g, 0, none⟩) (C.length + 9) c) C.length 9 M ∧ C.length + 9 ≤ c ∧ Below w.heap.size w w' := by
  have H := Lib.hid h; have BY := Lib.hid hby
  clear h hby
  obtain ⟨n, hn⟩ : ∃ n, C.length = n := ⟨_, rfl⟩
  have HN := Lib.hid hn
  rw [hn] at hL ⊢
  clear hn
  obtain ⟨i0, hi0, hz, hsz, hby⟩ := info_parts infoFile
  have M0 : Hid (i0.bytes * (n + 9) ≤ 281474976710656) := by show _ ≤ _; rw [hby]; omega
  have M1 : Hid (n + 9 ≤ maxLen) := by show _ ≤ _; unfold maxLen; omega
  have HI := Lib.hid hi0; have HZ := Lib.hid hz; have HS := Lib.hid hsz
  clear hi0 hz hsz hby
  go_enter Tryz.func116, Tryz.ntmps116
  go_wp2_with (at_make; refine wpList_make_own w rfl (.const (.int .i64 0)) (.tmp 8) 34 rfl w.heap.size 71 i0 (.agg #[.string ⟨#[]⟩, .slice none 0 0]) 2 Tryz.underlying34 HI.out HZ.out HS.out .i64 .i64 ((n : Int) + 9) (n + 9) rfl rfl (by omega) M0.out M1.out (Nat.le_refl _) ?_)
  intro w1 ho hg
  have B1 := Lib.hid ((Below.refl w.heap.size w).grown hg (Nat.le_refl _) (fun k hk => by cases hk))
  have O1 := Lib.hid (Own.ofRow ho); clear ho hg
  go_wp2
  go_loopw [3, 4] (fun v3 vi wr => ∃ (j : Nat) (M : List Fl), vi = .int .i64 j ∧ j ≤ n ∧ conF M = C.take j ∧ Own wr w.heap.size 71 2 v3 j (fcells M) ∧ LntB wr w.heap.size v3 M ∧ Below w.heap.size w wr) (fun _ vi _ => n - (intOf vi).toNat)
  case atStart => exact ⟨0, [], rfl, Nat.zero_le _, rfl, O1.out, ⟨(fun i hi => absurd hi (Nat.not_lt_zero _)), (fun i j hi => absurd hi (Nat.not_lt_zero _))⟩, B1.out⟩
  case round =>
    obtain ⟨j, M, rfl, hj, hM, hO, hB, hb⟩ := hrel
    have MM := Lib.hid hM; have OW := Lib.hid hO; have LB := Lib.hid hB; have BW := Lib.hid hb
    have H3 := Lib.hid (H.out.below hb)
    clear hM hO hB hb
    have ML : Hid (M.length = j) := by
      have h9 := congrArg List.length MM.out
      rw [List.length_take] at h9
      simp only [conF, List.length_map] at h9
      have := HN.out
      show _ = _
      omega
    by_cases c1 : j < n
    · have t1 : decide ((j : Int) < (n : Int)) = true := decide_eq_true (by omega)
      have t1' : decide (j < n) = true := decide_eq_true c1
      have hjC : j < C.length := by have := HN.out; omega
      obtain ⟨b1, o1, p1, k1, rfl, h1, h2, h3, h4⟩ := H3.out j hjC
      obtain ⟨nm, hnm⟩ : ∃ q, C[j].1 = q := ⟨_, rfl⟩
      obtain ⟨t, ht⟩ : ∃ q, C[j].2 = q := ⟨_, rfl⟩
      have e3 : C[j] = (nm, t) := by rw [← hnm, ← ht]
      have TL : t.length ≤ 100000000000000 := by have := BY.out _ (List.getElem_mem hjC); rw [e3] at this; exact this
      rw [hnm] at h1
      rw [ht] at h2 h3 h4
      have CC := Lib.hid (LendFile_calls nm t p1 k1 wr h4 TL)
      have E3 := Lib.hid e3
      have i2 : (j : Int) < (n : Int) := by omega
      clear hnm ht e3 h3 h4
      go_wp2_with fail
      refine CC.out.mono ?_
      rintro r w4 ⟨g4, c4, rfl, hl4, hb4⟩
      have B4 := Lib.hid hb4
      have L4 := Lib.hid hl4
      have OM := Lib.hid (OW.out.below hb4)
      have LB4 := Lib.hid (LB.out.below hb4)
      have N1 : Hid (j + 1 ≤ maxLen) := by show _ ≤ _; unfold maxLen; omega
      have N2 : Hid ((j + 1) * 40 ≤ 140737488355328) := by show _ ≤ _; omega
      have N3 : Hid (w.heap.size ≤ (w4.alloc (.cells #[.string ⟨nm.toArray⟩, .slice (some ⟨g4, 0, none⟩) t.length c4] 71)).heap.size) := by
        show _ ≤ _
        rw [World.size_alloc]
        have := BW.out.size; have := B4.out.size; omega
      clear hl4 hb4 h1 h2 CC
      go_wp2_with (at_builtin; refine wpList_append rfl (.tmp 16) (.tmp 22) 34 34 rfl w.heap.size 71 (.agg #[.string ⟨#[]⟩, .slice none 0 0]) 2 40 Tryz.underlying34 infoFile rfl (v := u3) (n := j) (xs := fcells M) (OM.out.alloc _) rfl (xv := .slice (some ⟨w4.heap.size, 0, none⟩) 1 1) (m := 1) (news := [.string ⟨nm.toArray⟩, .slice (some ⟨g4, 0, none⟩) t.length c4]) (Src_new2 Tryz.underlying34 (heap_alloc_new w4 _) rfl rfl) rfl N1.out N2.out N3.out ?_)
      rintro v9 w9 ho9 hg9 - hv9
      have NX : Hid (conF (M ++ [⟨nm, t, some ⟨g4, 0, none⟩, c4⟩]) = C.take (j + 1) ∧ Own w9 w.heap.size 71 2 v9 (j + 1) (fcells (M ++ [⟨nm, t, some ⟨g4, 0, none⟩, c4⟩])) ∧ LntB w9 w.heap.size v9 (M ++ [⟨nm, t, some ⟨g4, 0, none⟩, c4⟩]) ∧ Below w.heap.size w w9) := by
        have U9 : Upd (fun i => u3.ownBlock = some i) w4 w9 := ((Upd.refl _ w4).alloc _).grown hg9 (fun k hk _ => hk)
        have hne : u3.ownBlock ≠ some g4 := fun e => by have h1 := (OW.out.lt g4 e).2; have h2 := L4.out.lt.1; omega
        have hgw : g4 < w4.heap.size := L4.out.lt.2
        refine ⟨?_, ?_, (LB4.out.grow U9 (hv9.imp_right (fun e => ⟨_, e, Nat.le_succ _⟩))).snoc rfl ?_ ?_ ?_, ?_⟩
        · rw [List.take_succ_eq_append_getElem hjC, E3.out, ← MM.out]
          simp [conF]
        · rw [fcells_snoc]; exact ho9
        · exact (Own.rebase L4.out (fun k hk => Nat.le_trans BW.out.size (Own.lt L4.out k hk).1) : Lnt w4 w.heap.size g4 c4 t) |>.upd U9 (fun k hk e => by cases hk; exact hne e)
        · intro e
          rcases hv9 with hv | hv
          · rw [hv] at e; exact hne e
          · rw [hv] at e
            have := Option.some.inj e; omega
        · intro i hi e
          obtain ⟨g', q1, q2, _⟩ := LB.out.byt i hi
          rw [q1] at e
          have e' : g' = g4 := by simpa using e
          have h1 := q2.lt.2; have h2 := L4.out.lt.1; omega
        · exact BW.out.trans ((B4.out.mono BW.out.size).trans (U9.below (fun k hk _ => (OW.out.lt k hk).1) (Nat.le_trans BW.out.size B4.out.size)))
      clear ho9 hg9 hv9
      go_wp2
      go_roundw
      case rel => exact ⟨j + 1, _, by go_num, by omega, NX.out⟩
      case measure => simp [intOf]; omega
    · have t1 : decide ((j : Int) < (n : Int)) = false := decide_eq_false (by omega)
      have t1' : decide (j < n) = false := decide_eq_false c1
      have ej : j = n := by omega
      subst ej
      have MF : Hid (conF M = C) := by
        show _ = _
        rw [MM.out, List.take_of_length_le (by have := HN.out; omega)]
      clear MM c1 t1 t1' hj
      go_wp2
      go_loopw [3, 5] (fun v3 vi wx => ∃ i : Nat, vi = .int .i64 i ∧ i ≤ 9 ∧ Own wx w.heap.size 71 2 v3 (j + i) (fcells (M ++ List.replicate i fmark)) ∧ LntB wx w.heap.size v3 M ∧ Below w.heap.size w wx) (fun _ vi _ => 9 - (intOf vi).toNat)
      case atStart => exact ⟨0, rfl, Nat.zero_le _, by simpa using OW.out, LB.out, BW.out⟩
      case round =>
        obtain ⟨i, rfl, hi, hO, hB, hb⟩ := hrel
        have OX := Lib.hid hO; have LX := Lib.hid hB; have BX := Lib.hid hb
        clear hO hB hb
        by_cases c2 : i < 9
        · have t2 : decide ((i : Int) < 9) = true := decide_eq_true (by omega)
          have t2' : decide (i < 9) = true := decide_eq_true c2
          have N1 : Hid (j + i + 1 ≤ maxLen) := by show _ ≤ _; unfold maxLen; omega
          have N2 : Hid ((j + i + 1) * 40 ≤ 140737488355328) := by show _ ≤ _; omega
          have N3 : Hid (w.heap.size ≤ (wr.alloc (.cells #[.string ⟨#[109, 97, 114, 107]⟩, .slice none 0 0] 71)).heap.size) := by
            show _ ≤ _
            rw [World.size_alloc]
            have := BX.out.size; omega
          go_wp2_with (at_builtin; refine wpList_append rfl (.tmp 28) (.tmp 30) 34 34 rfl w.heap.size 71 (.agg #[.string ⟨#[]⟩, .slice none 0 0]) 2 40 Tryz.underlying34 infoFile rfl (v := u3) (n := j + i) (xs := fcells (M ++ List.replicate i fmark)) (OX.out.alloc _) rfl (xv := .slice (some ⟨wr.heap.size, 0, none⟩) 1 1) (m := 1) (news := [.string ⟨#[109, 97, 114, 107]⟩, .slice none 0 0]) (Src_new2 Tryz.underlying34 (heap_alloc_new wr _) rfl rfl) rfl N1.out N2.out N3.out ?_)
          rintro v9 w9 ho9 hg9 - hv9
          have NX : Hid (Own w9 w.heap.size 71 2 v9 (j + (i + 1)) (fcells (M ++ List.replicate (i + 1) fmark)) ∧ LntB w9 w.heap.size v9 M ∧ Below w.heap.size w w9) := by
            have U9 : Upd (fun i => u3.ownBlock = some i) wr w9 := ((Upd.refl _ wr).alloc _).grown hg9 (fun k hk _ => hk)
            refine ⟨?_, LX.out.grow U9 (hv9.imp_right (fun e => ⟨_, e, Nat.le_succ _⟩)), BX.out.trans (U9.below (fun k hk _ => (OX.out.lt k hk).1) BX.out.size)⟩
            rw [List.replicate_succ', ← List.append_assoc, fcells_snoc]
            exact ho9
          clear ho9 hg9 hv9
          go_wp2
          go_roundw
          case rel => exact ⟨i + 1, by go_num, by omega, NX.out⟩
          case measure => simp [intOf]; omega
        · have t2 : decide ((i : Int) < 9) = false := decide_eq_false (by omega)
          have t2' : decide (i < 9) = false := decide_eq_false c2
          obtain rfl : i = 9 := by omega
          obtain ⟨g, c, hv⟩ := OX.out.shape (by omega)
          have hc := OX.out.shape'
          obtain ⟨_, c', hv', hcc, -, -⟩ := hc
          rw [hv] at hv'
          simp only [Value.slice.injEq] at hv'
          obtain ⟨-, -, rfl⟩ := hv'
          subst hv
          have MLj := ML.out
          have RES : Hid (LntF wr w.heap.size (.slice (some ⟨g, 0, none⟩) (j + 9) c) j 9 M) := ⟨OX.out, MLj, LX.out⟩
          have i5 : (j : Int) ≤ (c : Int) := by omega
          clear MLj
          go_wp2
          go_ret
          exact ⟨g, c, M, rfl, MF.out, RES.out, hcc, BX.out⟩
set_option maxRecDepth 100000 in
set_option maxHeartbeats 1000000 in
theorem BackFile_calls (nm t : List UInt8) (base g c : Nat) (a : Option Addr) (c2 : Nat) (w : World) (hx : Lnt w base g c t) (hy : Byt w a t) (hn : t.length ≤ 100000000000000) :
    Calls Tryz.prog 180 #[.agg #[.string ⟨nm.toArray⟩, .slice (some ⟨g, 0, none⟩) t.length c], .agg #[.string ⟨nm.toArray⟩, .slice a t.length c2]] w fun r w' => r = .returned (.bool true) ∧ Below w.heap.size w w' := by
  obtain ⟨w2, hw2⟩ : ∃ q, (w.alloc (.cells #[.string ⟨nm.toArray⟩, .slice (some ⟨g, 0, none⟩) t.length c] 71)).alloc (.cells #[.string ⟨nm.toArray⟩, .slice a t.length c2] 71) = q := ⟨_, rfl⟩
  have B2 : Below w.heap.size w w2 := by rw [← hw2]; exact ((Below.refl _ _).alloc (Nat.le_refl _) _).alloc (by simp) _
  have IC := Lib.hid (Intact_calls base g c t a c2 w2 (Own.below hx B2) (hy.below B2) hn)
  have W2 := Lib.hid hw2; have BB := Lib.hid B2
  have t0 : (nm == nm) = true := by simp
  clear hx hy hw2 B2
  go_enter Tryz.func180, Tryz.ntmps180
  go_wp2_with fail
  rw [W2.out]
  refine IC.out.mono ?_
  rintro r w3 ⟨n, rfl, rfl⟩
  go_wp2
  go_ret
  exact ⟨by first | rfl | simp, bel_drewN BB.out n⟩
set_option maxRecDepth 100000 in
set_option maxHeartbeats 2000000 in
theorem BackFiles_calls (C : Con) (a : Option Addr) (cap g c B : Nat) (M : List Fl) (w : World) (h : Fil w a C) (hM : conF M = C) (hF : LntF w B (.slice (some ⟨g, 0, none⟩) (C.length + 9) c) C.length 9 M) (hc : C.length + 9 ≤ c) (hL : C.length ≤ 100000000000) (hby : ∀ p ∈ C, p.2.length ≤ 100000000000000) :
    Calls Tryz.prog 117 #[.slice (some ⟨g, 0, none⟩) C.length c, .slice a C.length cap] w fun r w' => r = .returned (.bool true) ∧ Below w.heap.size w w' := by
  have H := Lib.hid h; have BY := Lib.hid hby; have HF := Lib.hid hF; have HM := Lib.hid hM
  clear h hby hF hM
  obtain ⟨n, hn⟩ : ∃ n, C.length = n := ⟨_, rfl⟩
  have HN := Lib.hid hn
  rw [hn] at hL hc HF ⊢
  clear hn
  have t0 : ((n : Int) != (n : Int)) = false := by simp
  go_enter Tryz.func117, Tryz.ntmps117
  go_wp2
  go_loopw [5] (fun vi wr => ∃ j : Nat, vi = .int .i64 j ∧ j ≤ n ∧ Below w.heap.size w wr) (fun vi _ => n - (intOf vi).toNat)
  case atStart => exact ⟨0, rfl, Nat.zero_le _, Below.refl _ _⟩
  case round =>
    obtain ⟨j, rfl, hj, hb⟩ := hrel
    have BW := Lib.hid hb
    clear hb
    by_cases c1 : j < n
    · have t1 : decide ((j : Int) < (n : Int)) = true := decide_eq_true (by omega)
      have t1' : decide (j < n) = true := decide_eq_true c1
      have i2 : (j : Int) < (n : Int) := by omega
      have hjC : j < C.length := by have := HN.out; omega
      obtain ⟨b1, o1, p1, k1, rfl, h1, h2, h3, h4⟩ := H.out.below BW.out j hjC
      have HFr := HF.out.below BW.out
      have hjM : j < M.length := by have := HFr.len; omega
      have hjMM : j < (M ++ List.replicate 9 fmark).length := by rw [List.length_append]; omega
      have y0 := (HFr.own.cellAt (j * 2) (by omega)).trans (fcells_get hjMM).1
      have y1 := (HFr.own.cellAt (j * 2 + 1) (by omega)).trans (fcells_get hjMM).2
      have eM : (M ++ List.replicate 9 fmark)[j] = M[j] := List.getElem_append_left hjM
      obtain ⟨gj, q1, q2, -⟩ := HFr.bs.byt j hjM
      have eC : C[j] = ((M[j]).nm, (M[j]).by_) := by
        have e : C[j] = (conF M)[j]'(by simpa [conF] using hjM) := by simp only [HM.out]
        rw [e]; simp [conF]
      rw [eM] at y0 y1
      have hby := BY.out _ (List.getElem_mem hjC)
      rw [eC] at h1 h2 h3 h4 hby
      dsimp only at h1 h2 h3 h4 hby
      have ev : (M[j]).val = .slice (some ⟨gj, 0, none⟩) (M[j]).by_.length (M[j]).c := by show Value.slice (M[j]).a _ _ = _; rw [q1]
      rw [ev] at y1
      obtain ⟨f, hf⟩ : ∃ f, M[j] = f := ⟨_, rfl⟩
      rw [hf] at y0 y1 h1 h2 h3 h4 q2 hby
      obtain ⟨fnm, fby, fa, fc⟩ := f
      have BC := Lib.hid (BackFile_calls fnm fby B gj fc p1 k1 wr.drew (Own.below q2 (bel_drew (Below.refl _ _))) (h4.below (bel_drew (Below.refl _ _))) hby)
      clear HFr hjMM eM q1 q2 eC hby ev hf h3 h4 t0
      dsimp only at y0 y1 h1 h2
      go_wp2_with fail
      go_still_tail 8, (by kernel_rfl)
      go_wp2_with fail
      refine BC.out.mono ?_
      rintro r w5 ⟨rfl, b5⟩
      have B5 := Lib.hid (BW.out.trans (((bel_drew (Below.refl wr.heap.size wr)).trans b5).mono BW.out.size))
      clear b5 BC
      go_wp2
      go_roundw
      case rel => exact ⟨j + 1, by go_num, by omega, B5.out⟩
      case measure => simp [intOf]; omega
    · have t1 : decide ((j : Int) < (n : Int)) = false := decide_eq_false (by omega)
      have t1' : decide (j < n) = false := decide_eq_false c1
      have ej : j = n := by omega
      subst ej
      have wn9 : IntKind.i64.wrap ((j : Int) + 9) = (j : Int) + 9 := IntWalk.i64_in _ (by omega)
      have i5 : (j : Int) + 9 ≤ (c : Int) := by omega
      have HX := Lib.hid (HF.out.below BW.out)
      clear c1 t1 t1' hj t0
      go_wp2
      obtain ⟨m, hm⟩ : ∃ m, j + 9 = m := ⟨_, rfl⟩
      have hmi : (j : Int) + 9 = (m : Int) := by omega
      go_loopw [7] (fun vi wx => ∃ i : Nat, vi = .int .i64 i ∧ j ≤ i ∧ i ≤ j + 9 ∧ wr = wx) (fun vi _ => j + 9 - (intOf vi).toNat)
      case atStart => exact ⟨j, rfl, Nat.le_refl _, by omega, rfl⟩
      case round =>
        obtain ⟨i, rfl, hji, hi, rfl⟩ := hrel
        by_cases c2 : i < j + 9
        · have t2 : decide ((i : Int) < (j : Int) + 9) = true := decide_eq_true (by omega)
          have t2' : decide (i < j + 9) = true := decide_eq_true c2
          have i2 : (i : Int) < (j : Int) + 9 := by omega
          have hjMM : i < (M ++ List.replicate 9 fmark).length := by rw [List.length_append, List.length_replicate]; have := HX.out.len; omega
          have y0 := (HX.out.own.cellAt (i * 2) (by omega)).trans (fcells_get hjMM).1
          have y1 := (HX.out.own.cellAt (i * 2 + 1) (by omega)).trans (fcells_get hjMM).2
          have eM : (M ++ List.replicate 9 fmark)[i] = fmark := by
            rw [List.getElem_append_right (by have := HX.out.len; omega), List.getElem_replicate]
          rw [eM] at y0 y1
          have y0' : wr.cell? ⟨g, i * 2, none⟩ = some (.string ⟨#[109, 97, 114, 107]⟩) := y0
          have y1' : wr.cell? ⟨g, i * 2 + 1, none⟩ = some (.slice none 0 0) := y1
          clear hjMM y0 y1 eM
          go_wp2
          go_roundw
          case rel => exact ⟨i + 1, by go_num, by omega, by omega, by first | rfl | trivial⟩
          case measure => simp [intOf]; omega
        · have t2 : decide ((i : Int) < (j : Int) + 9) = false := decide_eq_false (by omega)
          have t2' : decide (i < j + 9) = false := decide_eq_false c2
          go_wp2
          go_ret
          exact ⟨rfl, BW.out⟩
set_option maxRecDepth 100000 in
set_option maxHeartbeats 1000000 in
theorem OverL_calls (base g cap : Nat) (l : List UInt8) (w : World) (h : Lnt w base g cap l) (hs : l.length ≤ 100000000000000) :
    Calls Tryz.prog 99 #[.slice (some ⟨g, 0, none⟩) l.length cap] w fun r w' => r = .returned (.tuple #[]) ∧ Upd (fun k => k = g) w w' := by
  have H := Lib.hid h; clear h
  go_enter Tryz.func99, Tryz.ntmps99
  go_wp2
  go_loopw [2] (fun vi wr => ∃ (i : Nat) (x : List UInt8), vi = .int .i64 i ∧ i ≤ l.length ∧ x.length = l.length + 70 ∧ Own wr base 5 1 (.slice (some ⟨g, 0, none⟩) (l.length + 70) cap) (l.length + 70) (bys x) ∧ Upd (fun k => k = g) w wr) (fun vi _ => l.length - (intOf vi).toNat)
  case atStart => exact ⟨0, l ++ mkl, rfl, by omega, by rw [List.length_append, mkl_length], H.out, Upd.refl _ _⟩
  case round =>
    obtain ⟨i, x, rfl, hi, hx, ho, hu⟩ := hrel
    have OW := Lib.hid ho; have UW := Lib.hid hu; have HX := Lib.hid hx; clear ho hu hx
    by_cases hlt : i < l.length
    · have t1 : decide ((i : Int) < (l.length : Int)) = true := decide_eq_true (by omega)
      have t1' : decide (i < l.length) = true := decide_eq_true hlt
      have q2 := OW.out.frozenAt i (by omega)
      obtain ⟨yi, q3⟩ : ∃ y : Int, wr.cell? ⟨g, i, none⟩ = some (.int .u8 y) := ⟨_, (OW.out.cellAt i (by omega)).trans (bys_get (show i < x.length by rw [HX.out]; omega))⟩
      have OS := OW.out.set i (.int .u8 238)
      rw [show (Value.int .u8 238) = .int .u8 ((238 : UInt8).toNat : Int) from rfl, bys_set] at OS
      have OS := Lib.hid OS
      have US := Lib.hid (UW.out.setCell (p := ⟨g, i, none⟩) (fun _ => rfl) (.int .u8 238))
      go_wp2
      go_roundw
      case rel => exact ⟨i + 1, _, by go_num, by omega, by rw [List.length_set]; exact HX.out, OS.out, US.out⟩
      case measure => simp [intOf]; omega
    · have t1 : decide ((i : Int) < (l.length : Int)) = false := decide_eq_false (by omega)
      have t1' : decide (i < l.length) = false := decide_eq_false hlt
      go_wp2
      go_end0
      exact ⟨rfl, UW.out⟩
set_option maxRecDepth 100000 in
set_option maxHeartbeats 1000000 in
theorem OverFile_calls (nm t : List UInt8) (base g c : Nat) (w : World) (hx : Lnt w base g c t) (hn : t.length ≤ 100000000000000) :
    Calls Tryz.prog 181 #[.agg #[.string ⟨nm.toArray⟩, .slice (some ⟨g, 0, none⟩) t.length c]] w fun r w' => r = .returned (.tuple #[]) ∧ Upd (fun k => k = g) w w' := by
  obtain ⟨w2, hw2⟩ : ∃ q, w.alloc (.cells #[.string ⟨nm.toArray⟩, .slice (some ⟨g, 0, none⟩) t.length c] 71) = q := ⟨_, rfl⟩
  have B2 : Below w.heap.size w w2 := by rw [← hw2]; exact (Below.refl _ _).alloc (Nat.le_refl _) _
  have OC := Lib.hid (OverL_calls base g c t w2 (Own.below hx B2) hn)
  have W2 := Lib.hid hw2; have BB := Lib.hid B2
  clear hx hw2 B2
  go_enter Tryz.func181, Tryz.ntmps181
  go_wp2_with fail
  rw [W2.out]
  refine OC.out.mono ?_
  rintro r w3 ⟨rfl, hu⟩
  have HU := Lib.hid ((Upd.ofBelow BB.out).trans hu (fun _ s _ => s.elim) (fun _ s _ => s) (S := fun k => k = g))
  clear hu
  go_wp2
  go_end0
  exact ⟨rfl, HU.out⟩
set_option maxRecDepth 100000 in
set_option maxHeartbeats 2000000 in
theorem OverFiles_calls (n g c B : Nat) (M : List Fl) (w : World) (hF : LntF w B (.slice (some ⟨g, 0, none⟩) (n + 9) c) n 9 M) (hL : n ≤ 100000000000) (hby : ∀ f ∈ M, f.by_.length ≤ 100000000000000) (E : Nat) (hE : g < E ∧ ∀ i (hi : i < M.length) gi, (M[i]).a = some ⟨gi, 0, none⟩ → gi < E) :
    Calls Tryz.prog 118 #[.slice (some ⟨g, 0, none⟩) n c] w fun r w' => r = .returned (.tuple #[]) ∧ Upd (fun k => B ≤ k ∧ k < E) w w' := by
  have HF := Lib.hid hF; have BY := Lib.hid hby; have HBB := Lib.hid hE
  have hnc : n + 9 ≤ c := by
    obtain ⟨_, c', hv, hc, -, -⟩ := hF.own.shape'
    simp only [Value.slice.injEq] at hv
    obtain ⟨-, -, rfl⟩ := hv
    exact hc
  clear hF hby hE
  go_enter Tryz.func118, Tryz.ntmps118
  go_wp2
  go_loopw [2] (fun vi wr => ∃ (i : Nat) (N : List Fl), vi = .int .i64 i ∧ i ≤ n ∧ N.length = n + 9 ∧ Own wr B 71 2 (.slice (some ⟨g, 0, none⟩) (n + 9) c) (n + 9) (fcells N) ∧ (∀ k, i ≤ k → k < n → N[k]? = M[k]?) ∧ (∀ k (hk : k < M.length), i ≤ k → ∃ gk, (M[k]).a = some ⟨gk, 0, none⟩ ∧ Lnt wr B gk (M[k]).c (M[k]).by_ ∧ gk ≠ g) ∧ Upd (fun k => B ≤ k ∧ k < E) w wr) (fun vi _ => n - (intOf vi).toNat)
  case atStart =>
    refine ⟨0, M ++ List.replicate 9 fmark, rfl, Nat.zero_le _, by rw [List.length_append, List.length_replicate, HF.out.len], HF.out.own, fun k _ hk => ?_, fun k hk _ => ?_, Upd.refl _ _⟩
    · rw [List.getElem?_append_left (by rw [HF.out.len]; exact hk)]
    · obtain ⟨gk, q1, q2, q3⟩ := HF.out.bs.byt k hk
      exact ⟨gk, q1, q2, fun e => q3 (by rw [e]; rfl)⟩
  case round =>
    obtain ⟨i, N, rfl, hi, hN, hO, hE, hG, hb⟩ := hrel
    have OX := Lib.hid hO; have EX := Lib.hid hE; have GX := Lib.hid hG; have BX := Lib.hid hb; have NLH := Lib.hid hN
    clear hO hE hG hb hN
    by_cases c1 : i < n
    · have t1 : decide ((i : Int) < (n : Int)) = true := decide_eq_true (by omega)
      have t1' : decide (i < n) = true := decide_eq_true c1
      have i2 : (i : Int) < (n : Int) := by omega
      have hiM : i < M.length := by have := HF.out.len; omega
      have hiN : i < N.length := by have := NLH.out; omega
      have eN : N[i] = M[i] := by
        have h9 := EX.out i (Nat.le_refl _) c1
        rw [List.getElem?_eq_getElem hiN, List.getElem?_eq_getElem hiM] at h9
        exact Option.some.inj h9
      have y0 := (OX.out.cellAt (i * 2) (by omega)).trans (fcells_get hiN).1
      have y1 := (OX.out.cellAt (i * 2 + 1) (by omega)).trans (fcells_get hiN).2
      obtain ⟨gi, q1, q2, q3⟩ := GX.out i hiM (Nat.le_refl _)
      have hb5 := BY.out _ (List.getElem_mem hiM)
      have ev : (M[i]).val = .slice (some ⟨gi, 0, none⟩) (M[i]).by_.length (M[i]).c := by show Value.slice (M[i]).a _ _ = _; rw [q1]
      rw [eN] at y0 y1
      rw [ev] at y1
      obtain ⟨f, hf⟩ : ∃ f, M[i] = f := ⟨_, rfl⟩
      have AI := Lib.hid q1
      rw [hf] at y0 y1 q2 hb5
      obtain ⟨fnm, fby, fa, fc⟩ := f
      dsimp only at y0 y1 q2 hb5
      have OC := Lib.hid (OverFile_calls fnm fby B gi fc wr q2 hb5)
      have GI := Lib.hid q2.lt
      have Q3 := Lib.hid q3
      clear q1 q2 q3 ev hf eN hb5
      go_wp2_with fail
      refine OC.out.mono ?_
      rintro r w5 ⟨rfl, hu⟩
      have HU := Lib.hid hu
      have O5 := Lib.hid (OX.out.upd hu (fun k hk e => by cases hk; exact Q3.out e.symm))
      have z0 := (O5.out.cellAt (i * 2) (by omega)).trans (fcells_get hiN).1
      have z1 := (O5.out.cellAt (i * 2 + 1) (by omega)).trans (fcells_get hiN).2
      obtain ⟨u0, hu0⟩ : ∃ u, (N[i]).nm = u := ⟨_, rfl⟩
      obtain ⟨u1, hu1⟩ : ∃ u, (N[i]).val = u := ⟨_, rfl⟩
      rw [hu0] at z0
      obtain ⟨va, vl, vc, hu2⟩ : ∃ va vl vc, (N[i]).val = .slice va vl vc := ⟨_, _, _, rfl⟩
      rw [hu2] at z1
      have f0 := O5.out.frozenAt (i * 2) (by omega)
      have f1 := O5.out.frozenAt (i * 2 + 1) (by omega)
      have NX : Hid (∃ N' : List Fl, N'.length = n + 9 ∧ Own ((w5.setCell ⟨g, i * 2, none⟩ (.string ⟨#[111, 118, 101, 114]⟩)).setCell ⟨g, i * 2 + 1, none⟩ (.slice none 0 0)) B 71 2 (.slice (some ⟨g, 0, none⟩) (n + 9) c) (n + 9) (fcells N') ∧ (∀ k, i + 1 ≤ k → k < n → N'[k]? = M[k]?) ∧ (∀ k (hk : k < M.length), i + 1 ≤ k → ∃ gk, (M[k]).a = some ⟨gk, 0, none⟩ ∧ Lnt ((w5.setCell ⟨g, i * 2, none⟩ (.string ⟨#[111, 118, 101, 114]⟩)).setCell ⟨g, i * 2 + 1, none⟩ (.slice none 0 0)) B gk (M[k]).c (M[k]).by_ ∧ gk ≠ g) ∧ Upd (fun k => B ≤ k ∧ k < E) w ((w5.setCell ⟨g, i * 2, none⟩ (.string ⟨#[111, 118, 101, 114]⟩)).setCell ⟨g, i * 2 + 1, none⟩ (.slice none 0 0))) := by
        have US : Upd (fun k => k = g) w5 ((w5.setCell ⟨g, i * 2, none⟩ (.string ⟨#[111, 118, 101, 114]⟩)).setCell ⟨g, i * 2 + 1, none⟩ (.slice none 0 0)) := ((Upd.refl (fun k => k = g) w5).setCell (p := ⟨g, i * 2, none⟩) (fun _ => rfl) _).setCell (p := ⟨g, i * 2 + 1, none⟩) (fun _ => rfl) _
        refine ⟨N.set i ⟨[111, 118, 101, 114], [], none, 0⟩, by rw [List.length_set]; exact NLH.out, ?_, fun k hk hkn => ?_, fun k hk hik => ?_, ?_⟩
        · have h9 := (O5.out.setG (i * 2) (.string ⟨#[111, 118, 101, 114]⟩)).setG (i * 2 + 1) (.slice none 0 0)
          have h8 := fcells_set N i ⟨[111, 118, 101, 114], [], none, 0⟩
          rw [← h8]
          exact h9
        · rw [List.getElem?_set_ne (by omega)]
          exact EX.out k (by omega) hkn
        · obtain ⟨gk, q1, q2, q3⟩ := GX.out k hk (by omega)
          have hne : gk ≠ gi := fun e => HF.out.bs.pair k i hk hiM (by omega) (by rw [q1, AI.out, e])
          exact ⟨gk, q1, (q2.upd HU.out (fun e => hne e)).upd US (fun e => q3 e), q3⟩
        · exact (BX.out.same (HU.out.mono (fun k hk _ => by rw [hk]; exact ⟨GI.out.1, HBB.out.2 i hiM gi AI.out⟩))).same (US.mono (fun k hk _ => by rw [hk]; exact ⟨(O5.out.lt g rfl).1, HBB.out.1⟩))
      clear hu y0 y1 OC hu0 hu1 hu2
      go_wp2
      obtain ⟨N', n1, n2, n3, n4, n5⟩ := NX.out
      go_roundw
      case rel => exact ⟨i + 1, N', by go_num, by omega, n1, n2, n3, n4, n5⟩
      case measure => simp [intOf]; omega
    · have t1 : decide ((i : Int) < (n : Int)) = false := decide_eq_false (by omega)
      have t1' : decide (i < n) = false := decide_eq_false c1
      go_wp2
      go_end0
      exact ⟨rfl, BX.out⟩
end Go.Proofs.YtcmllfnhdodbdaaGreatDoor
