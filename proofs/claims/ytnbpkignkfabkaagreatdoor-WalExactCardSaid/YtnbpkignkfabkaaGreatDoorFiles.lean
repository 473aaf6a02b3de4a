/- disk.Files: all that stands, in rows of the caller's own. -/
import Derived.Test.YtnbpkignkfabkaaGreatDoorNamesW
import Derived.Test.YtnbpkignkfabkaaGreatDoorDkS
namespace Go.Proofs.YtnbpkignkfabkaaGreatDoor
set_option linter.unusedVariables false
set_option linter.unusedSimpArgs false
open Go.RowKit Go.Maps Go.MuLone
def fcells (M : List Fl) : List Value := M.flatMap fun f => [.string ⟨f.nm.toArray⟩, f.val]
theorem fcells_cons (f : Fl) (M : List Fl) : fcells (f :: M) = .string ⟨f.nm.toArray⟩ :: f.val :: fcells M := rfl
theorem fcells_snoc (M : List Fl) (f : Fl) : fcells (M ++ [f]) = fcells M ++ [.string ⟨f.nm.toArray⟩, f.val] := by simp [fcells]
theorem fcells_length : ∀ M : List Fl, (fcells M).length = M.length * 2
  | [] => rfl
  | f :: M => by rw [fcells_cons, List.length_cons, List.length_cons, fcells_length M, List.length_cons]; omega
theorem fcells_get : ∀ {M : List Fl} {i : Nat} (h : i < M.length), (fcells M)[i * 2]? = some (.string ⟨M[i].nm.toArray⟩) ∧ (fcells M)[i * 2 + 1]? = some M[i].val
  | f :: M, 0, _ => ⟨rfl, rfl⟩
  | f :: M, i + 1, h => by
    have e1 : (i + 1) * 2 = i * 2 + 1 + 1 := by omega
    rw [fcells_cons, e1]
    simp only [List.getElem?_cons_succ, List.getElem_cons_succ]
    exact fcells_get (by simpa using h)
/-- Files in rows of one's own. -/
structure Fio (w : World) (B : Nat) (v : Value) (M : List Fl) : Prop where
  own : Own w B 116 2 v M.length (fcells M)
  byt : ∀ f ∈ M, f.by_.length ≤ f.c ∧ Own w B 5 1 f.val f.by_.length (bys f.by_)
  sep : ∀ f ∈ M, ∀ k, f.val.ownBlock = some k → v.ownBlock ≠ some k
  pair : M.Pairwise fun f g => ∀ k, f.val.ownBlock = some k → g.val.ownBlock ≠ some k
section
variable {w w' : World} {B : Nat} {v : Value} {M : List Fl}
theorem Fio.nil (w : World) (B : Nat) : Fio w B (.slice none 0 0) [] := ⟨Own.nil _ _ _ _, (fun _ h => by cases h), (fun _ h => by cases h), List.Pairwise.nil⟩
theorem Fio.upd {S : Nat → Prop} (h : Fio w B v M) (hu : Upd S w w') (hs : ∀ k, S k → k < B) : Fio w' B v M :=
  ⟨h.own.upd hu (fun k hk s => by have := (h.own.lt k hk).1; have := hs k s; omega), fun f hf => ⟨(h.byt f hf).1, (h.byt f hf).2.upd hu (fun k hk s => by have := ((h.byt f hf).2.lt k hk).1; have := hs k s; omega)⟩, h.sep, h.pair⟩
theorem Fio.below (h : Fio w B v M) (hb : Below w.heap.size w w') : Fio w' B v M :=
  ⟨h.own.below hb, fun f hf => ⟨(h.byt f hf).1, (h.byt f hf).2.below hb⟩, h.sep, h.pair⟩
theorem Fio.mono {B' : Nat} (h : Fio w B v M) (hb : B' ≤ B) : Fio w B' v M := ⟨h.own.mono hb, fun f hf => ⟨(h.byt f hf).1, (h.byt f hf).2.mono hb⟩, h.sep, h.pair⟩
/-- As files to read. -/
theorem Fio.fil (h : Fio w B v M) : ∃ a c, v = .slice a M.length c ∧ M.length ≤ c ∧ Fil w a (conF M) := by
  obtain ⟨a, c, hv, hc, ha, -⟩ := h.own.shape'
  refine ⟨a, c, hv, hc, ?_⟩
  intro i hi
  have hi' : i < M.length := by simpa [conF] using hi
  have hg : (conF M)[i] = (M[i].nm, M[i].by_) := by simp [conF]
  have ho := h.own
  rw [hv] at ho
  cases a with
  | none =>
    rcases ho.2 with ⟨_, h0⟩ | ⟨_, _, _, _, h0, _⟩
    · omega
    · cases h0
  | some ad =>
    rw [(ha ad rfl).1] at ho ⊢
    obtain ⟨g1, g2⟩ := fcells_get hi'
    obtain ⟨b1, b2⟩ := h.byt M[i] (List.getElem_mem hi')
    obtain ⟨a2, c2, hv2, -, -, y2, -, -⟩ := own_val b2
    have e : M[i].val = .slice M[i].a M[i].by_.length M[i].c := rfl
    rw [e] at hv2
    cases hv2
    rw [hg]
    refine ⟨_, 0, M[i].a, M[i].c, rfl, ?_, ?_, b1, y2⟩
    · rw [Nat.zero_add, ho.cellAt _ (by omega)]; exact g1
    · rw [Nat.zero_add, ho.cellAt _ (by omega)]; exact g2
end
theorem infoFile : (Tryz.prog.info? 116).map (fun i => (i.zero, i.size, i.bytes)) = some (some (.agg #[.string ⟨#[]⟩, .slice none 0 0]), 2, 40) := by kernel_rfl
theorem Src_new2 {P : Program} {tx e' : TypeId} (hk : P.underlying tx = some (.slice e')) {w : World} {g : Nat} {u1 u2 : Value} {e : TypeId} (h : w.heap[g]? = some (.cells #[u1, u2] e (0, 0))) (h1 : u1.oneCell' = true) (h2 : u2.oneCell' = true) : Src P 2 tx (.slice (some ⟨g, 0, none⟩) 1 1) 1 [u1, u2] w :=
  Src.ofSlice w hk ⟨g, 0, none⟩ 1 1 [u1, u2] rfl (by
    intro j x hx
    match j, hx with
    | 0, hx => simp at hx; subst hx; rw [Addr.add_lit, cell_of_row' h]; rfl
    | 1, hx => simp at hx; subst hx; rw [Addr.add_lit, cell_of_row' h]; rfl) (by
    intro x hx
    simp at hx
    rcases hx with rfl | rfl
    · exact h1
    · exact h2)
/-- What Files comes to. -/
def FilesP (w w' : World) (base db mb : Nat) (k : DkV) (L : List Fl) (D : DataW Value) (C : Con) (r : Ending) : Prop :=
  ∃ v M, r = .returned v ∧ conF M = C ∧ Fio w' w.heap.size v M ∧ Dsk w' base db mb 0 k L D ∧ Upd (fun i => i = db) w w'
/-- In the loop. -/
def FlS (w2 wr : World) (C : Con) (v : Value) (j : Nat) : Prop := ∃ M, conF M = C.take j ∧ Fio wr w2.heap.size v M ∧ Below w2.heap.size w2 wr
set_option maxRecDepth 100000 in
set_option maxHeartbeats 4000000 in
theorem Files_calls (base db mb : Nat) (k : DkV) (L : List Fl) (D : DataW Value) (C : Con) (w : World) (h : Dsk w base db mb 0 k L D) (hr : Rep L C) (hL : C.length ≤ 64) (hnm : ∀ p ∈ C, p.1.length ≤ 140737488351232) (hby : ∀ p ∈ C, p.2.length ≤ 140737488355328) :
    Calls Tryz.prog 34 #[.pointer (some ⟨db, 0, none⟩)] w fun r w' => FilesP w w' base db mb k L D C r := by
  have H := Lib.hid h
  have H1 := Lib.hid (h.lock 1)
  have U1 := Lib.hid (upd_lock (db := db) (Below.refl w.heap.size w) (.int .i32 1))
  have NC := Lib.hid (names_calls base db mb 1 k L D C _ (h.lock 1) hr hL)
  have z0 : (w.setCell ⟨db, 0, none⟩ (.int .i32 1)).heap.size = w.heap.size := by simp [World.setCell]
  have Z0 := Lib.hid z0
  have RP := Lib.hid hr; have NM := Lib.hid hnm; have BY := Lib.hid hby
  clear h hr hnm hby z0
  go_enter_defers Tryz.func34, Tryz.ntmps34
  go_wp2_with fail
  refine (lock_free muLib ⟨db, 0, none⟩ _ (H.out.cell 0) (H.out.froz 0)).mono ?_
  rintro r w1 ⟨rfl, rfl⟩
  go_wp2_with fail
  refine NC.out.mono ?_
  rintro r w2 ⟨vn, rfl, on, b2⟩
  obtain ⟨n, hn⟩ : ∃ n, (nmsC C).length = n := ⟨_, rfl⟩
  have hn2 : n = C.length := by rw [← hn]; simp [nmsC]
  rw [hn] at on
  obtain ⟨an, cn, rfl, -, -, -⟩ := on.shape'
  have ON := Lib.hid on; have B2 := Lib.hid b2; have HN := Lib.hid hn2
  have H2 := Lib.hid (H1.out.below b2)
  have S2 : Hid (w.heap.size ≤ w2.heap.size) := by show _ ≤ _; rw [← Z0.out]; exact b2.size
  have nl : n ≤ 64 := by omega
  clear on b2 hn hn2 NC
  go_wp2
  go_loopw [3, 5, 16] (fun v3 _ vi wr => ∃ j : Nat, vi = .int .i64 j ∧ j ≤ n ∧ FlS w2 wr C v3 j) (fun _ _ vi _ => n - (intOf vi).toNat)
  case atStart => exact ⟨0, rfl, Nat.zero_le _, [], rfl, Fio.nil _ _, Below.refl _ _⟩
  case round =>
    obtain ⟨j, rfl, hj, M, hM, hf, hb⟩ := hrel
    have MM := Lib.hid hM; have FI := Lib.hid hf; have BW := Lib.hid hb
    have H3 := Lib.hid (H2.out.below hb)
    have ON3 := Lib.hid (ON.out.below hb)
    clear hM hf hb
    by_cases c1 : j < n
    · have t1 : decide ((j : Int) < (n : Int)) = true := decide_eq_true (by omega)
      have t1' : decide (j < n) = true := decide_eq_true c1
      have hjC : j < C.length := by have := HN.out; omega
      obtain ⟨g, cn', hv⟩ := ON3.out.shape (by omega)
      cases hv
      have hcell := ON3.out.cellAt j (by omega)
      have hjn : j < (nmsC C).length := by simpa [nmsC] using hjC
      rw [strs_get hjn] at hcell
      obtain ⟨nm, hnm⟩ : ∃ q, (nmsC C)[j] = q := ⟨_, rfl⟩
      rw [hnm] at hcell
      have hpm : C[j] ∈ C := List.getElem_mem hjC
      have e1 : C[j].1 = nm := by rw [← hnm]; simp [nmsC]
      have e2 : bytF L nm = C[j].2 := by rw [RP.out.byt, ← e1]; exact bytC_mem RP.out.so hpm
      obtain ⟨t, ht⟩ : ∃ q, bytF L nm = q := ⟨_, rfl⟩
      have e3 : C[j] = (nm, t) := by rw [← e1, ← ht, e2]
      have NML : Hid (nm.length ≤ maxLen) := by show _ ≤ _; unfold maxLen; have := NM.out _ hpm; rw [e1] at this; omega
      have TL : t.length ≤ 140737488355328 := by have := BY.out _ hpm; rw [e3] at this; exact this
      obtain ⟨VO, -, -⟩ := H3.out.fls.val_own nm
      obtain ⟨va, vc, hv, -, -, hy, -, -⟩ := own_val VO
      have lk := H3.out.fls.look nm NML.out
      rw [ht] at hv hy
      rw [hv] at lk
      have c4 : wr.cell? ⟨db, 4, none⟩ = some (.map (some mb)) := H3.out.cell 4
      have CC := Lib.hid (Clone_calls va vc t wr hy TL)
      have E3 := Lib.hid e3
      clear hnm e1 e2 ht e3 VO hv hy hpm
      go_wp2_with fail
      refine CC.out.mono ?_
      rintro r w4 ⟨v4, rfl, ho4, hb4⟩
      have O4 := Lib.hid (ho4.rebase (base' := w2.heap.size) (fun k hk => Nat.le_trans BW.out.size (ho4.lt k hk).1))
      have V4 := Lib.hid (fun k hk => (ho4.lt k hk).1)
      obtain ⟨a4, c4', rfl, -, hc4, -, -, -⟩ := own_val ho4
      have B4 := Lib.hid hb4
      have F4 := Lib.hid (FI.out.below hb4)
      have ML : M.length = j := by
        have h9 := congrArg List.length MM.out
        rw [List.length_take] at h9
        simp only [conF, List.length_map] at h9
        omega
      have MLH := Lib.hid ML
      have OM : Own w4 w2.heap.size 116 2 u3 j (fcells M) := by rw [← ML]; exact F4.out.own
      have OMH := Lib.hid OM
      have HC4 := Lib.hid hc4
      have N1 : Hid (j + 1 ≤ maxLen) := by show _ ≤ _; unfold maxLen; omega
      have N2 : Hid ((j + 1) * 40 ≤ 140737488355328) := by show _ ≤ _; omega
      have N3 : Hid (w2.heap.size ≤ (w4.alloc (.cells #[.string ⟨nm.toArray⟩, .slice a4 t.length c4'] 116)).heap.size) := by
        show _ ≤ _
        rw [World.size_alloc]
        have := BW.out.size; have := B4.out.size; omega
      clear ho4 hb4 lk c4 hcell ML OM hc4 CC
      go_wp2_with (at_builtin; refine wpList_append rfl (.tmp 20) (.tmp 30) 101 101 rfl w2.heap.size 116 (.agg #[.string ⟨#[]⟩, .slice none 0 0]) 2 40 Tryz.underlying101 infoFile rfl (v := u3) (n := j) (xs := fcells M) (OMH.out.alloc _) rfl (xv := .slice (some ⟨w4.heap.size, 0, none⟩) 1 1) (m := 1) (news := [.string ⟨nm.toArray⟩, .slice a4 t.length c4']) (Src_new2 Tryz.underlying101 (heap_alloc_new w4 _) rfl rfl) rfl N1.out N2.out N3.out ?_)
      rintro v9 w9 ho9 hg9 - hv9
      have NX : Hid (FlS w2 w9 C v9 (j + 1)) := by
        have U9 : Upd (fun i => u3.ownBlock = some i) w4 w9 := ((Upd.refl _ w4).alloc _).grown hg9 (fun k hk _ => hk)
        refine ⟨M ++ [⟨nm, t, a4, c4'⟩], ?_, ⟨?_, ?_, ?_, ?_⟩, ?_⟩
        · rw [List.take_succ_eq_append_getElem hjC, E3.out, ← MM.out]
          simp [conF]
        · rw [List.length_append, List.length_singleton, fcells_snoc, MLH.out]
          exact ho9
        · intro f hf
          rcases List.mem_append.1 hf with hf | hf
          · refine ⟨(F4.out.byt f hf).1, (F4.out.byt f hf).2.upd U9 (fun k hk e => F4.out.sep f hf k hk e)⟩
          · rw [List.mem_singleton] at hf
            subst hf
            refine ⟨HC4.out, O4.out.upd U9 (fun k hk e => ?_)⟩
            have h1 := V4.out k hk
            have h2 := (FI.out.own.lt k e).2
            omega
        · intro f hf k hk e
          rcases hv9 with h9 | h9
          · rw [h9] at e
            rcases List.mem_append.1 hf with hf | hf
            · exact F4.out.sep f hf k hk e
            · rw [List.mem_singleton] at hf
              subst hf
              have h1 := V4.out k hk
              have h2 := (FI.out.own.lt k e).2
              omega
          · rw [h9] at e
            have e' : w4.heap.size + 1 = k := Option.some.inj e
            rcases List.mem_append.1 hf with hf | hf
            · have := ((F4.out.byt f hf).2.lt k hk).2
              omega
            · rw [List.mem_singleton] at hf
              subst hf
              have := (O4.out.lt k hk).2
              omega
        · rw [List.pairwise_append]
          refine ⟨F4.out.pair, List.pairwise_singleton _ _, ?_⟩
          intro f hf g' hg' k hk e
          rw [List.mem_singleton] at hg'
          subst hg'
          have h1 := V4.out k e
          have h2 := ((FI.out.byt f hf).2.lt k hk).2
          omega
        · exact BW.out.trans ((B4.out.mono BW.out.size).trans (U9.below (fun k hk _ => (F4.out.own.lt k hk).1) (Nat.le_trans BW.out.size B4.out.size)))
      clear ho9 hg9 hv9
      go_wp2
      go_roundw
      case rel => exact ⟨j + 1, by go_num, by omega, NX.out⟩
      case measure => simp [intOf]; omega
    · have t1 : decide ((j : Int) < (n : Int)) = false := decide_eq_false (by omega)
      have t1' : decide (j < n) = false := decide_eq_false c1
      have FIN : Hid (conF M = C) := by
        show _ = _
        rw [MM.out, List.take_of_length_le (by have := HN.out; omega)]
      go_wp2
      refine leaves_cons (f := 55) (args := #[.pointer (some ⟨db, 0, none⟩)]) (by simp) (by simp [go_sem]) ?_
      refine (unlock_deferred muLib ⟨db, 0, none⟩ .returning _ (H3.out.cell 0) (H3.out.froz 0)).mono ?_
      rintro r u' w5 ⟨rfl, rfl, rfl⟩
      have FE := FI.out.upd (w' := wr.setCell ⟨db, 0, none⟩ (.int .i32 0)) ((Upd.refl (fun k => k = db) wr).setCell (fun _ => rfl) _) (fun k hk => by rw [hk]; have := H.out.lt; have := S2.out; omega)
      exact ⟨_, results_tmp rfl _ _ _, u3, M, rfl, FIN.out, FE.mono S2.out, H3.out.lock 0, (U1.out.same ((Upd.ofBelow (B2.out.trans (BW.out.mono B2.out.size))).mono (fun _ s _ => s.elim))).setCell (fun _ => rfl) _⟩
end Go.Proofs.YtnbpkignkfabkaaGreatDoor
namespace Go.Proofs.YtnbpkignkfabkaaGreatDoor
set_option linter.unusedVariables false
set_option linter.unusedSimpArgs false
open Go.RowKit Go.Maps
/-- Files, for a disk in plain words. -/
theorem Files_dk {w : World} {base db : Nat} {F : Nat → Prop} {s : DS} (h : Dk w base F db s) : Calls Tryz.prog 34 #[.pointer (some ⟨db, 0, none⟩)] w fun r w' => ∃ v M, r = .returned v ∧ conF M = s.C ∧ Fio w' w.heap.size v M ∧ Dk w' base F db s ∧ Upd (fun i => i = db) w w' := by
  obtain ⟨mb, L, D, h1, hr, hok, hF⟩ := h
  refine (Files_calls base db mb s.k L D s.C w h1 hr hok.len (fun p hp => ?_) (fun p hp => ?_)).mono ?_
  · have h9 := hok.nm p hp
    unfold nmOk at h9
    simp only [Bool.and_eq_true, decide_eq_true_eq] at h9
    omega
  · have h9 := hok.byt p.1
    rw [bytC_mem hok.so hp] at h9
    omega
  · rintro r w' ⟨v, M, hv, hM, hf, g1, g2⟩
    exact ⟨v, M, hv, hM, hf, ⟨mb, L, D, g1, hr, hok, hF⟩, g2⟩
/-- Files in rows that lie from Bd on. -/
def FilB (w : World) (Bd : Nat) (a : Option Addr) (C : Con) : Prop := ∃ M c, Fio w Bd (.slice a C.length c) M ∧ conF M = C
section
variable {w w' : World} {Bd : Nat} {a : Option Addr} {C : Con}
theorem FilB.fil (h : FilB w Bd a C) : Fil w a C := by
  obtain ⟨M, c, hf, hM⟩ := h
  obtain ⟨a', c', hv, _, h9⟩ := hf.fil
  simp only [Value.slice.injEq] at hv
  obtain ⟨rfl, -, -⟩ := hv
  rw [← hM]
  exact h9
theorem FilB.upd {S : Nat → Prop} (h : FilB w Bd a C) (hu : Upd S w w') (hs : ∀ k, S k → k < Bd) : FilB w' Bd a C := by
  obtain ⟨M, c, hf, hM⟩ := h
  exact ⟨M, c, hf.upd hu hs, hM⟩
theorem FilB.below (h : FilB w Bd a C) (hb : Below w.heap.size w w') : FilB w' Bd a C := by
  obtain ⟨M, c, hf, hM⟩ := h
  exact ⟨M, c, hf.below hb, hM⟩
end
/-- Files, for a disk as a law holds it. -/
def FilesS (w w' : World) (B db : Nat) (F : Nat → Prop) (s : DS) (r : Ending) : Prop := ∃ a c, r = .returned (.slice a s.C.length c) ∧ s.C.length ≤ c ∧ FilB w' w.heap.size a s.C ∧ DkS w' B db F s ∧ Upd (fun i => i = db) w w' ∧ Below B w w'
theorem Files_s {w : World} {B db : Nat} {F : Nat → Prop} {s : DS} (h : DkS w B db F s) : Calls Tryz.prog 34 #[.pointer (some ⟨db, 0, none⟩)] w fun r w' => FilesS w w' B db F s r := by
  refine (Files_dk h.dk).mono ?_
  rintro r w' ⟨v, M, rfl, hM, hf, hd, hu⟩
  obtain ⟨a, c, rfl, hc, -⟩ := hf.fil
  have hl : M.length = s.C.length := by rw [← hM]; simp [conF]
  rw [hl] at hf hc ⊢
  obtain ⟨h1, _, h3⟩ := h.read hd hu
  exact ⟨a, c, rfl, hc, ⟨M, c, hf, hM⟩, h1, hu, h3⟩
end Go.Proofs.YtnbpkignkfabkaaGreatDoor
