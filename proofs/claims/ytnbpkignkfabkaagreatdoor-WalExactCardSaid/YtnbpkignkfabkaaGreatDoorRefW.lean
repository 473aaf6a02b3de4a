/- posternref9: drop, lay, bytes. -/
import Derived.Test.YtnbpkignkfabkaaGreatDoorHdF
import Derived.Test.YtnbpkignkfabkaaGreatDoorGoes2
import Derived.BigQuiet
/- posternref9: the document's disk in memory; where a name stands. -/
namespace Go.Proofs.YtnbpkignkfabkaaGreatDoor
set_option linter.unusedVariables false
set_option linter.unusedSimpArgs false
open Go.RowKit Go.Maps
theorem bytesLess_ge : ∀ {a b : List UInt8}, ¬ a < b → Op.bytesLess a b = false
  | [], [], _ => rfl
  | _ :: _, [], _ => rfl
  | [], _ :: _, h => absurd (List.nil_lt_cons _ _) h
  | a :: x, b :: y, h => by
    rw [List.cons_lt_cons_iff] at h
    by_cases c : a = b
    · subst c
      have h2 : ¬ x < y := fun k => h (.inr ⟨rfl, k⟩)
      simp [Op.bytesLess, bytesLess_ge h2]
    · have h2 : ¬ a < b := fun k => h (.inl k)
      simp [Op.bytesLess, h2, c]
/-- Where a name stands, or would. -/
def plc (nm : List UInt8) : Con → Nat
  | [] => 0
  | q :: C => if q.1 < nm then plc nm C + 1 else 0
theorem plc_le (nm : List UInt8) : ∀ C : Con, plc nm C ≤ C.length
  | [] => Nat.le_refl _
  | q :: C => by
    unfold plc
    split
    · have := plc_le nm C
      rw [List.length_cons]; omega
    · exact Nat.zero_le _
theorem plc_lt {nm : List UInt8} : ∀ {C : Con} {i : Nat} (h : i < C.length), i < plc nm C → (C[i]).1 < nm
  | q :: C, i, h, hi => by
    by_cases hq : q.1 < nm
    · rw [plc, if_pos hq] at hi
      cases i with
      | zero => exact hq
      | succ i => exact plc_lt (C := C) (i := i) (by simpa using h) (Nat.lt_of_succ_lt_succ hi)
    · rw [plc, if_neg hq] at hi
      omega
theorem plc_ge {nm : List UInt8} : ∀ {C : Con} (h : plc nm C < C.length), ¬ (C[plc nm C]).1 < nm
  | q :: C, h => by
    by_cases hq : q.1 < nm
    · have e : plc nm (q :: C) = plc nm C + 1 := by rw [plc, if_pos hq]
      have h' : plc nm C < C.length := by rw [e, List.length_cons] at h; omega
      simp only [e, List.getElem_cons_succ]
      exact plc_ge h'
    · have e : plc nm (q :: C) = 0 := by rw [plc, if_neg hq]
      simp only [e, List.getElem_cons_zero]
      exact hq
/-- What stands there. -/
theorem plc_has {nm : List UInt8} : ∀ {C : Con}, SortedC C → hasC C nm = true → ∃ h : plc nm C < C.length, (C[plc nm C]).1 = nm
  | q :: C, hs, hh => by
    have hs' := List.pairwise_cons.1 hs
    by_cases hq : q.1 < nm
    · have e : plc nm (q :: C) = plc nm C + 1 := by rw [plc, if_pos hq]
      have hh' : hasC C nm = true := by
        rw [hasC_iff] at hh ⊢
        obtain ⟨p, hp, he⟩ := hh
        rcases List.mem_cons.1 hp with rfl | hp
        · exact absurd he (nm_ne hq)
        · exact ⟨p, hp, he⟩
      obtain ⟨h1, h2⟩ := plc_has hs'.2 hh'
      refine ⟨by rw [e, List.length_cons]; omega, ?_⟩
      simp only [e, List.getElem_cons_succ]
      exact h2
    · have e : plc nm (q :: C) = 0 := by rw [plc, if_neg hq]
      refine ⟨by rw [e, List.length_cons]; omega, ?_⟩
      simp only [e, List.getElem_cons_zero]
      rw [hasC_iff] at hh
      obtain ⟨p, hp, he⟩ := hh
      rcases List.mem_cons.1 hp with rfl | hp
      · exact he
      · exact absurd (he ▸ hs'.1 p hp) hq
theorem plc_no {nm : List UInt8} {C : Con} (hh : hasC C nm = false) (h : plc nm C < C.length) : (C[plc nm C]).1 ≠ nm := hasC_no.1 hh _ (List.getElem_mem h)
theorem plc_del {nm : List UInt8} : ∀ {C : Con}, SortedC C → hasC C nm = true → delC C nm = C.take (plc nm C) ++ C.drop (plc nm C + 1)
  | q :: C, hs, hh => by
    have hs' := List.pairwise_cons.1 hs
    by_cases hq : q.1 < nm
    · have e : plc nm (q :: C) = plc nm C + 1 := by rw [plc, if_pos hq]
      have hh' : hasC C nm = true := by
        rw [hasC_iff] at hh ⊢
        obtain ⟨p, hp, he⟩ := hh
        rcases List.mem_cons.1 hp with rfl | hp
        · exact absurd he (nm_ne hq)
        · exact ⟨p, hp, he⟩
      rw [e, List.take_succ_cons, List.drop_succ_cons, List.cons_append, ← plc_del hs'.2 hh']
      unfold delC
      rw [List.filter_cons_of_pos (by have := nm_ne hq; simpa using this)]
    · have e : plc nm (q :: C) = 0 := by rw [plc, if_neg hq]
      obtain ⟨h1, h2⟩ := plc_has hs hh
      simp only [e, List.getElem_cons_zero] at h2
      rw [e, List.take_zero, List.nil_append, List.drop_succ_cons, List.drop_zero]
      unfold delC
      rw [List.filter_cons_of_neg (by simpa using h2)]
      refine List.filter_eq_self.2 (fun p hp => ?_)
      have h3 := hs'.1 p hp
      rw [h2] at h3
      have := nm_ne h3
      simpa using fun e => this e.symm
theorem plc_ins {nm b : List UInt8} : ∀ {C : Con}, hasC C nm = false → insC (nm, b) C = C.take (plc nm C) ++ (nm, b) :: C.drop (plc nm C)
  | [], _ => rfl
  | q :: C, hh => by
    have hn := hasC_no.1 hh q (by simp)
    by_cases hq : q.1 < nm
    · have e : plc nm (q :: C) = plc nm C + 1 := by rw [plc, if_pos hq]
      have hh' : hasC C nm = false := hasC_no.2 (fun p hp => hasC_no.1 hh p (List.mem_cons_of_mem _ hp))
      rw [e, List.take_succ_cons, List.drop_succ_cons, List.cons_append, ← plc_ins hh', insC, if_neg (nm_asymm hq)]
    · have e : plc nm (q :: C) = 0 := by rw [plc, if_neg hq]
      rw [e, insC, if_pos (nm_tri hq hn)]
      rfl
/-- The document's disk. -/
def rfcells (s : DS) (a : Option Addr) (c : Nat) : Array Value := #[.int .i64 (s.room : Int), .slice a s.C.length c, .int .i64 s.armed, .int .i64 s.keep, .bool s.off, .int .i64 (s.writes : Int)]
/-- Files that stand: rows of G, none of them rb. -/
structure FilG (w : World) (G : Nat → Prop) (rb : Nat) (v : Value) (M : List Fl) : Prop where
  own : Own w 0 116 2 v M.length (fcells M)
  ob : ∀ k, v.ownBlock = some k → G k ∧ k ≠ rb
  byt : ∀ f ∈ M, f.by_.length ≤ f.c ∧ Own w 0 5 1 f.val f.by_.length (bys f.by_) ∧ ∀ k, f.val.ownBlock = some k → G k ∧ k ≠ rb
structure RfS (w : World) (B rb : Nat) (G : Nat → Prop) (s : DS) : Prop where
  st : ∃ a c M, w.heap[rb]? = some (.cells (rfcells s a c) 104 (0, 0)) ∧ conF M = s.C ∧ FilG w G rb (.slice a s.C.length c) M
  ok : s.ok
  at_ : G rb
  fl : ∀ i, G i → B ≤ i ∧ i < w.heap.size
  bw : B ≤ w.heap.size
def RfStep (w w' : World) (B rb : Nat) (G : Nat → Prop) (s : DS) : Prop := ∃ G', RfS w' B rb G' s ∧ Upd (fun i => i = rb) w w' ∧ Below B w w' ∧ ∀ i, G' i → G i ∨ w.heap.size ≤ i
section
variable {w w' : World} {B rb : Nat} {G : Nat → Prop} {s t : DS} {v : Value} {M : List Fl}
theorem FilG.upd {S : Nat → Prop} (h : FilG w G rb v M) (hu : Upd S w w') (hs : ∀ k, S k → ¬ G k ∨ k = rb) : FilG w' G rb v M :=
  ⟨h.own.upd hu (fun k hk s => (hs k s).elim (fun h9 => h9 (h.ob k hk).1) (h.ob k hk).2), h.ob, fun f hf => ⟨(h.byt f hf).1, (h.byt f hf).2.1.upd hu (fun k hk s => (hs k s).elim (fun h9 => h9 ((h.byt f hf).2.2 k hk).1) ((h.byt f hf).2.2 k hk).2), (h.byt f hf).2.2⟩⟩
theorem FilG.mono {G' : Nat → Prop} (h : FilG w G rb v M) (hg : ∀ k, G k → G' k) : FilG w G' rb v M :=
  ⟨h.own, fun k hk => ⟨hg k (h.ob k hk).1, (h.ob k hk).2⟩, fun f hf => ⟨(h.byt f hf).1, (h.byt f hf).2.1, fun k hk => ⟨hg k ((h.byt f hf).2.2 k hk).1, ((h.byt f hf).2.2 k hk).2⟩⟩⟩
theorem RfS.upd {S : Nat → Prop} (h : RfS w B rb G s) (hu : Upd S w w') (hs : ∀ i, S i → ¬ G i) : RfS w' B rb G s := by
  obtain ⟨a, c, M, h1, h2, h3⟩ := h.st
  exact ⟨⟨a, c, M, (hu.block _ (lt_of_block h1) (fun e => hs _ e h.at_)).trans h1, h2, h3.upd hu (fun k hk => .inl (hs k hk))⟩, h.ok, h.at_, fun i hi => ⟨(h.fl i hi).1, Nat.lt_of_lt_of_le (h.fl i hi).2 hu.size⟩, Nat.le_trans h.bw hu.size⟩
theorem RfS.below (h : RfS w B rb G s) (hb : Below w.heap.size w w') : RfS w' B rb G s := h.upd (Upd.ofBelow hb) (fun _ s => s.elim)
/-- The struct's cells. -/
theorem RfS.cells (h : RfS w B rb G s) : ∃ a c, w.heap[rb]? = some (.cells (rfcells s a c) 104 (0, 0)) ∧ s.C.length ≤ c ∧ (∀ ad, a = some ad → ad = ⟨ad.block, 0, none⟩) ∧ Fil w a s.C := by
  obtain ⟨a, c, M, h1, h2, h3⟩ := h.st
  have hl : M.length = s.C.length := by rw [← h2]; simp [conF]
  obtain ⟨a', c', hv, hc, ha, -⟩ := h3.own.shape'
  simp only [Value.slice.injEq] at hv
  obtain ⟨rfl, -, rfl⟩ := hv
  have ho := h3.own
  rw [← hl] at ho ⊢
  refine ⟨a, c, h1, hc, fun ad e => (ha ad e).1, ?_⟩
  · rw [← h2]
    refine fil_own ho (fun f hf => ?_) rfl
    obtain ⟨b1, b2, _⟩ := h3.byt f hf
    obtain ⟨a2, c2, hv2, -, -, y2, -, -⟩ := own_val b2
    have e : f.val = .slice f.a f.by_.length f.c := rfl
    rw [e] at hv2
    cases hv2
    exact ⟨b1, y2⟩
end
theorem rf_of {w : World} {rb : Nat} {s : DS} {a : Option Addr} {c : Nat} (h : w.heap[rb]? = some (.cells (rfcells s a c) 104 (0, 0))) : w.cell? ⟨rb, 0, none⟩ = some (.int .i64 (s.room : Int)) ∧ w.cell? ⟨rb, 1, none⟩ = some (.slice a s.C.length c) ∧ w.cell? ⟨rb, 2, none⟩ = some (.int .i64 s.armed) ∧ w.cell? ⟨rb, 3, none⟩ = some (.int .i64 s.keep) ∧ w.cell? ⟨rb, 4, none⟩ = some (.bool s.off) ∧ w.cell? ⟨rb, 5, none⟩ = some (.int .i64 (s.writes : Int)) :=
  ⟨by rw [cell_of_row' h]; rfl, by rw [cell_of_row' h]; rfl, by rw [cell_of_row' h]; rfl, by rw [cell_of_row' h]; rfl, by rw [cell_of_row' h]; rfl, by rw [cell_of_row' h]; rfl⟩
end Go.Proofs.YtnbpkignkfabkaaGreatDoor
/- posternref9: Named, place, used, bytes, torn, refused, missing. -/
namespace Go.Proofs.YtnbpkignkfabkaaGreatDoor
set_option linter.unusedVariables false
set_option linter.unusedSimpArgs false
open Go.RowKit Go.Maps
theorem nm_char0 : ∀ m : Fin 256, nmCs.contains (UInt8.ofNat m.val) = decide ((97 ≤ m.val ∧ m.val ≤ 122) ∨ (48 ≤ m.val ∧ m.val ≤ 57) ∨ m.val = 46 ∨ m.val = 45 ∨ m.val = 95) := by decide +kernel
theorem nm_char (x : UInt8) : nmCs.contains x = decide ((97 ≤ x.toNat ∧ x.toNat ≤ 122) ∨ (48 ≤ x.toNat ∧ x.toNat ≤ 57) ∨ x.toNat = 46 ∨ x.toNat = 45 ∨ x.toNat = 95) := by
  have h := nm_char0 ⟨x.toNat, x.toNat_lt⟩
  simpa using h
theorem nm_yes {x : UInt8} (h : (97 ≤ x.toNat ∧ x.toNat ≤ 122) ∨ (48 ≤ x.toNat ∧ x.toNat ≤ 57) ∨ x.toNat = 46 ∨ x.toNat = 45 ∨ x.toNat = 95) : nmCs.contains x = true := by rw [nm_char]; exact decide_eq_true h
theorem nm_not {x : UInt8} (h : ¬ ((97 ≤ x.toNat ∧ x.toNat ≤ 122) ∨ (48 ≤ x.toNat ∧ x.toNat ≤ 57) ∨ x.toNat = 46 ∨ x.toNat = 45 ∨ x.toNat = 95)) : nmCs.contains x = false := by rw [nm_char]; exact decide_eq_false h
theorem take_all {l : List UInt8} {i : Nat} (h : i < l.length) (ha : (l.take i).all (nmCs.contains ·) = true) (hx : nmCs.contains l[i] = true) : (l.take (i + 1)).all (nmCs.contains ·) = true := by
  rw [List.take_succ_eq_append_getElem h, List.all_append, ha]
  simp only [List.all_cons, hx, List.all_nil, Bool.and_self]
theorem nmOk_no {l : List UInt8} {i : Nat} (h : i < l.length) (hx : nmCs.contains l[i] = false) : nmOk l = false := by
  unfold nmOk
  rw [show l.all (nmCs.contains ·) = false from List.all_eq_false.2 ⟨l[i], List.getElem_mem h, by rw [hx]; exact Bool.false_ne_true⟩, Bool.and_false]
set_option maxRecDepth 100000 in
set_option maxHeartbeats 2000000 in
theorem Named9_calls (l : List UInt8) (w : World) (hs : l.length ≤ 140737488355328) :
    Calls Tryz.prog 45 #[.string ⟨l.toArray⟩] w fun r w' => r = .returned (.bool (nmOk l)) ∧ w = w' := by
  go_enter Tryz.func45, Tryz.ntmps45
  go_wp2
  go_loopw [3] (fun vi wr => ∃ i : Nat, vi = .int .i64 i ∧ i ≤ l.length ∧ (l.take i).all (nmCs.contains ·) = true ∧ w = wr) (fun vi _ => l.length - (intOf vi).toNat)
  case atStart => exact ⟨0, rfl, Nat.zero_le _, rfl, rfl⟩
  case round =>
    obtain ⟨i, rfl, hi, ha, rfl⟩ := hrel
    by_cases c1 : i < l.length
    · have t1 : decide ((i : Int) < (l.length : Int)) = true := decide_eq_true (by omega)
      have t1' : decide (i < l.length) = true := decide_eq_true c1
      have i2 : (i : Int) < (l.length : Int) := by omega
      obtain ⟨x, hx⟩ : ∃ x, l[i] = x := ⟨_, rfl⟩
      have TA := Lib.hid (fun (h : (97 ≤ x.toNat ∧ x.toNat ≤ 122) ∨ (48 ≤ x.toNat ∧ x.toNat ≤ 57) ∨ x.toNat = 46 ∨ x.toNat = 45 ∨ x.toNat = 95) => take_all c1 ha (by rw [hx]; exact nm_yes h))
      have TN := Lib.hid (fun (h : ¬ ((97 ≤ x.toNat ∧ x.toNat ≤ 122) ∨ (48 ≤ x.toNat ∧ x.toNat ≤ 57) ∨ x.toNat = 46 ∨ x.toNat = 45 ∨ x.toNat = 95)) => nmOk_no c1 (by rw [hx]; exact nm_not h))
      have gx : (ByteArray.mk l.toArray)[i]'(by show i < l.toArray.size; simpa using c1) = x := by rw [← hx]; rfl
      clear hx ha
      go_wp2
      all_goals (try simp only [beq_iff_eq, beq_eq_false_iff_ne, ne_eq, Bool.not_eq_false', Bool.not_eq_true', decide_eq_true_eq, decide_eq_false_iff_not] at *)
      all_goals first
        | (go_ret; exact ⟨congrArg (fun b => Ending.returned (.bool b)) (TN.out (by omega)).symm, rfl⟩)
        | (refine ⟨⟨i + 1, by go_num, by omega, TA.out (by omega), by trivial⟩, ?_⟩; simp [intOf]; omega)
        | skip
    · have t1 : decide ((i : Int) < (l.length : Int)) = false := decide_eq_false (by omega)
      have t1' : decide (i < l.length) = false := decide_eq_false c1
      have ha2 : l.all (nmCs.contains ·) = true := by rw [List.take_of_length_le (by omega)] at ha; exact ha
      clear ha
      have FIN := Lib.hid (show nmOk l = (decide (1 ≤ l.length) && decide (l.length ≤ 64)) by
        unfold nmOk
        rw [ha2, Bool.and_true]
        cases l with
        | nil => rfl
        | cons a b => simp)
      clear ha2
      by_cases d1 : 1 ≤ l.length
      · have s1 : decide ((1 : Int) ≤ (l.length : Int)) = true := decide_eq_true (by omega)
        by_cases d2 : l.length ≤ 64
        · have s2 : decide ((l.length : Int) ≤ 64) = true := decide_eq_true (by omega)
          have FN := FIN.out
          rw [decide_eq_true d1, decide_eq_true d2] at FN
          go_wp2
          go_ret
          exact ⟨by rw [FN]; rfl, rfl⟩
        · have s2 : decide ((l.length : Int) ≤ 64) = false := decide_eq_false (by omega)
          have FN := FIN.out
          rw [decide_eq_true d1, decide_eq_false d2] at FN
          go_wp2
          go_ret
          exact ⟨by rw [FN]; rfl, rfl⟩
      · have s1 : decide ((1 : Int) ≤ (l.length : Int)) = false := decide_eq_false (by omega)
        have FN := FIN.out
        rw [decide_eq_false d1] at FN
        go_wp2
        go_ret
        exact ⟨by rw [FN]; rfl, rfl⟩
set_option maxRecDepth 100000 in
set_option maxHeartbeats 2000000 in
theorem place_calls {w : World} {B rb : Nat} {G : Nat → Prop} {s : DS} (h : RfS w B rb G s) (nm : List UInt8) (hnm : nm.length ≤ 140737488355328) :
    Calls Tryz.prog 44 #[.pointer (some ⟨rb, 0, none⟩), .string ⟨nm.toArray⟩] w fun r w' => r = .returned (.tuple #[.int .i64 (plc nm s.C : Nat), .bool (hasC s.C nm)]) ∧ Below w.heap.size w w' := by
  obtain ⟨a, c, blk, hc, -, fil⟩ := h.cells
  obtain ⟨-, x1, -, -, -, -⟩ := rf_of blk
  have SO := Lib.hid h.ok.so
  have nl := h.ok.len
  have FI := Lib.hid fil
  obtain ⟨C, hC⟩ : ∃ q, s.C = q := ⟨_, rfl⟩
  rw [hC] at x1 SO FI nl hc ⊢
  obtain ⟨n, hn⟩ : ∃ q, C.length = q := ⟨_, rfl⟩
  rw [hn] at x1 nl hc
  have HN := Lib.hid hn
  have PL := Lib.hid (plc_le nm C)
  clear h blk fil hC hn
  go_enter Tryz.func44, Tryz.ntmps44
  go_wp2
  go_loopw [6] (fun vi wr => ∃ i : Nat, vi = .int .i64 i ∧ i ≤ plc nm C ∧ w = wr) (fun vi _ => n - (intOf vi).toNat)
  case atStart => exact ⟨0, rfl, Nat.zero_le _, rfl⟩
  case round =>
    obtain ⟨i, rfl, hi, rfl⟩ := hrel
    have hin : i ≤ n := by have := PL.out; have := HN.out; omega
    by_cases c1 : i < n
    · have t1 : decide ((i : Int) < (n : Int)) = true := decide_eq_true (by omega)
      have t1' : decide (i < n) = true := decide_eq_true c1
      have i2 : (i : Int) < (n : Int) := by omega
      have hiC : i < C.length := by have := HN.out; omega
      obtain ⟨b1, o1, p1, k1, rfl, h1, -, -, -⟩ := FI.out i hiC
      obtain ⟨q, hq⟩ : ∃ q, C[i].1 = q := ⟨_, rfl⟩
      rw [hq] at h1
      by_cases c2 : q < nm
      · have t2 := bytesLess_lt c2
        have hlt : i < plc nm C := by
          rcases Nat.lt_or_ge i (plc nm C) with h9 | h9
          · exact h9
          · exfalso
            obtain rfl : i = plc nm C := by omega
            exact plc_ge hiC (by rw [hq]; exact c2)
        clear hq c2
        go_wp2
        go_roundw
        case rel => exact ⟨i + 1, by go_num, by omega, by trivial⟩
        case measure => simp [intOf]; omega
      · have t2 := bytesLess_ge c2
        have hip : i = plc nm C := by
          rcases Nat.lt_or_ge i (plc nm C) with h9 | h9
          · exact absurd (hq ▸ plc_lt hiC h9) c2
          · omega
        have HIP := Lib.hid hip
        by_cases c3 : q = nm
        · have hh : Hid (hasC C nm = true) := hasC_iff.2 ⟨C[i], List.getElem_mem hiC, by rw [hq, c3]⟩
          have t3 : (q == nm) = true := beq_iff_eq.2 c3
          clear hq c2 hip c3
          go_wp2_with fail
          go_quiet (fail)
          go_wp2
          go_ret2
          exact ⟨by rw [← HIP.out, hh.out]; rfl, bel_drewN (Below.refl _ _) _⟩
        · have hh : Hid (hasC C nm = false) := by
            show _ = _
            cases h9 : hasC C nm with
            | false => rfl
            | true =>
              obtain ⟨h7, h8⟩ := plc_has SO.out h9
              subst hip
              exact absurd (hq ▸ h8) c3
          have t3 : (q == nm) = false := beq_eq_false_iff_ne.2 c3
          clear hq c2 hip c3
          go_wp2_with fail
          go_quiet (fail)
          go_wp2
          go_ret2
          exact ⟨by rw [← HIP.out, hh.out]; rfl, bel_drewN (Below.refl _ _) _⟩
    · have t1 : decide ((i : Int) < (n : Int)) = false := decide_eq_false (by omega)
      have t1' : decide (i < n) = false := decide_eq_false c1
      have HIP := Lib.hid (show i = plc nm C by have := PL.out; have := HN.out; omega)
      have hh : Hid (hasC C nm = false) := by
        show _ = _
        cases h9 : hasC C nm with
        | false => rfl
        | true =>
          obtain ⟨h7, h8⟩ := plc_has SO.out h9
          have := HIP.out; have := HN.out; omega
      go_wp2_with fail
      go_quiet (fail)
      go_wp2
      go_ret2
      exact ⟨by rw [← HIP.out, hh.out]; rfl, bel_drewN (Below.refl _ _) _⟩
set_option maxRecDepth 100000 in
set_option maxHeartbeats 2000000 in
theorem used_calls {w : World} {B rb : Nat} {G : Nat → Prop} {s : DS} (h : RfS w B rb G s) :
    Calls Tryz.prog 46 #[.pointer (some ⟨rb, 0, none⟩)] w fun r w' => r = .returned (.int .i64 (sumC s.C : Nat)) ∧ w = w' := by
  obtain ⟨a, c, blk, hc, -, fil⟩ := h.cells
  obtain ⟨-, x1, -, -, -, -⟩ := rf_of blk
  have FI := Lib.hid fil
  have SM := Lib.hid h.ok.sum
  have RM := Lib.hid h.ok.r2
  obtain ⟨C, hC⟩ : ∃ q, s.C = q := ⟨_, rfl⟩
  have nl := h.ok.len
  rw [hC] at x1 FI nl hc SM ⊢
  clear h blk fil hC
  go_enter Tryz.func46, Tryz.ntmps46
  go_wp2
  go_loopw [3, 4] (fun vs vi wr => ∃ i : Nat, vs = .int .i64 (sumC (C.take i) : Nat) ∧ vi = .int .i64 i ∧ i ≤ C.length ∧ w = wr) (fun _ vi _ => C.length - (intOf vi).toNat)
  case atStart => exact ⟨0, rfl, rfl, Nat.zero_le _, rfl⟩
  case round =>
    obtain ⟨i, rfl, rfl, hi, rfl⟩ := hrel
    have k1 := sumC_take_le C i
    have k2 : sumC C ≤ 268435456 := by have := SM.out; have := RM.out; omega
    by_cases c1 : i < C.length
    · have t1 : decide ((i : Int) < (C.length : Int)) = true := decide_eq_true (by omega)
      have t1' : decide (i < C.length) = true := decide_eq_true c1
      have i2 : (i : Int) < (C.length : Int) := by omega
      obtain ⟨b1, o1, p1, q1, rfl, h1, h2, -, -⟩ := FI.out i c1
      have e1 := sumC_take C i c1
      have k3 := sumC_take_le C (i + 1)
      have E1 := Lib.hid e1
      obtain ⟨m, hm⟩ : ∃ m, sumC (C.take i) = m := ⟨_, rfl⟩
      have HM := Lib.hid hm
      obtain ⟨z, hz⟩ : ∃ z, C[i].2.length = z := ⟨_, rfl⟩
      have HZ := Lib.hid hz
      rw [hm, hz] at e1
      rw [hz] at h2
      rw [hm] at k1 ⊢
      have k4 : (m : Int) + (z : Int) ≤ 268435456 := by omega
      clear e1 hm hz k3
      go_wp2
      go_roundw
      case rel => exact ⟨i + 1, by rw [E1.out, HM.out, HZ.out]; go_num, by go_num, by omega, by trivial⟩
      case measure => simp [intOf]; omega
    · have t1 : decide ((i : Int) < (C.length : Int)) = false := decide_eq_false (by omega)
      have t1' : decide (i < C.length) = false := decide_eq_false c1
      have e1 : Hid (sumC (C.take i) = sumC C) := by show _ = _; rw [List.take_of_length_le (by omega)]
      go_wp2
      go_ret
      exact ⟨by rw [e1.out]; rfl, rfl⟩
set_option maxRecDepth 100000 in
set_option maxHeartbeats 2000000 in
theorem refused_calls {w : World} {B rb : Nat} {G : Nat → Prop} {s : DS} (h : RfS w B rb G s) (nm : List UInt8) (hnm : nm.length ≤ 140737488355328) :
    Calls Tryz.prog 122 #[.pointer (some ⟨rb, 0, none⟩), .string ⟨nm.toArray⟩] w fun r w' => r = .returned (.int .i64 (s.may false [nm])) ∧ w = w' := by
  obtain ⟨a, c, blk, -, -, -⟩ := h.cells
  obtain ⟨-, -, -, -, x4, -⟩ := rf_of blk
  have NC := Lib.hid (Named9_calls nm w hnm)
  have MY := Lib.hid (show s.may false [nm] = if s.off = true then 94 else if nmOk nm = false then 91 else 0 by unfold DS.may; simp)
  obtain ⟨o, ho⟩ : ∃ q, s.off = q := ⟨_, rfl⟩
  rw [ho] at x4 MY
  clear h blk ho
  go_enter Tryz.func122, Tryz.ntmps122
  cases o with
  | true =>
    go_wp2
    go_ret
    exact ⟨by rw [MY.out]; rfl, rfl⟩
  | false =>
    go_wp2_with fail
    refine NC.out.mono ?_
    rintro r w1 ⟨rfl, rfl⟩
    obtain ⟨b, hb⟩ : ∃ q, nmOk nm = q := ⟨_, rfl⟩
    rw [hb] at MY ⊢
    clear hb NC
    cases b with
    | true =>
      go_wp2
      go_ret
      exact ⟨by rw [MY.out]; rfl, rfl⟩
    | false =>
      go_wp2
      go_ret
      exact ⟨by rw [MY.out]; rfl, rfl⟩
set_option maxRecDepth 100000 in
set_option maxHeartbeats 2000000 in
theorem missing_calls {w : World} {B rb : Nat} {G : Nat → Prop} {s : DS} (h : RfS w B rb G s) (nm : List UInt8) (hnm : nm.length ≤ 140737488355328) :
    Calls Tryz.prog 115 #[.pointer (some ⟨rb, 0, none⟩), .string ⟨nm.toArray⟩] w fun r w' => r = .returned (.int .i64 (s.may true [nm])) ∧ Below w.heap.size w w' := by
  have RC := Lib.hid (refused_calls h nm hnm)
  have PC := Lib.hid (place_calls h nm hnm)
  have MY := Lib.hid (show s.may true [nm] = if s.may false [nm] = 0 ∧ hasC s.C nm = false then 92 else s.may false [nm] by
    unfold DS.may
    cases h1 : s.off <;> cases h2 : nmOk nm <;> cases h3 : hasC s.C nm <;> simp [h2, h3])
  obtain ⟨e, he⟩ : ∃ q, s.may false [nm] = q := ⟨_, rfl⟩
  obtain ⟨b, hb⟩ : ∃ q, hasC s.C nm = q := ⟨_, rfl⟩
  rw [he] at RC MY
  rw [hb] at PC MY
  clear h he hb
  go_enter Tryz.func115, Tryz.ntmps115
  go_wp2_with fail
  refine RC.out.mono ?_
  rintro r w1 ⟨rfl, rfl⟩
  go_wp2_with fail
  refine PC.out.mono ?_
  rintro r w2 ⟨rfl, b2⟩
  have B2 := Lib.hid b2
  clear b2 PC RC
  by_cases c : e = 0
  · subst c
    cases b with
    | true =>
      go_wp2
      go_ret
      exact ⟨by rw [MY.out]; rfl, B2.out⟩
    | false =>
      go_wp2
      go_ret
      exact ⟨by rw [MY.out]; rfl, B2.out⟩
  · have t1 : (e == 0) = false := beq_eq_false_iff_ne.2 c
    have MY2 := MY.out
    rw [if_neg (fun h9 => c h9.1)] at MY2
    have MZ := Lib.hid MY2
    clear MY2
    go_wp2
    go_ret
    exact ⟨by rw [MZ.out]; rfl, B2.out⟩
theorem rf_ext {w : World} {B rb : Nat} {G : Nat → Prop} {s t : DS} (h : RfS w B rb G s) {w' : World} (hu : Upd (fun i => i = rb) w w') (hb : ∀ a c, w.heap[rb]? = some (.cells (rfcells s a c) 104 (0, 0)) → w'.heap[rb]? = some (.cells (rfcells t a c) 104 (0, 0))) (hC : t.C = s.C) (hok : t.ok) : RfStep w w' B rb G t := by
  obtain ⟨a, c, M, h1, h2, h3⟩ := h.st
  refine ⟨G, ⟨⟨a, c, M, hb a c h1, by rw [hC]; exact h2, by rw [hC]; exact h3.upd hu (fun k hk => .inr hk)⟩, hok, h.at_, fun i hi => ⟨(h.fl i hi).1, Nat.lt_of_lt_of_le (h.fl i hi).2 hu.size⟩, Nat.le_trans h.bw hu.size⟩, hu, hu.below (fun k hk _ => by rw [hk]; exact (h.fl _ h.at_).1) h.bw, fun i hi => .inl hi⟩
theorem setCell_row {w : World} {g : Nat} {cur : Array Value} {e : TypeId} {fr : Nat × Nat} (hh : w.heap[g]? = some (.cells cur e fr)) (j : Nat) (u : Value) : (w.setCell ⟨g, j, none⟩ u).heap[g]? = some (.cells (cur.setIfInBounds j u) e fr) := by
  have hg : g < w.heap.size := lt_of_block hh
  have hv : w.heap[g] = .cells cur e fr := (Array.getElem?_eq_some_iff.1 hh).2
  show (w.heap.modify g _)[g]? = _
  rw [Array.getElem?_eq_getElem (by simpa using hg), Array.getElem_modify_self, hv]
  rfl
set_option maxRecDepth 100000 in
set_option maxHeartbeats 2000000 in
theorem torn_calls {w : World} {B rb : Nat} {G : Nat → Prop} {s : DS} (h : RfS w B rb G s) (hof : s.off = false) (hw : s.writes ≤ 4611686018427387904) :
    Calls Tryz.prog 118 #[.pointer (some ⟨rb, 0, none⟩)] w fun r w' => r = .returned (.bool (decide (s.armed = 1))) ∧ RfStep w w' B rb G s.wr := by
  obtain ⟨a, c, blk, hc, -, -⟩ := h.cells
  obtain ⟨-, -, x2, -, x4, x5⟩ := rf_of blk
  have f2 := frozen_of_row blk 2
  have f4 := frozen_of_row blk 4
  have f5 := frozen_of_row blk 5
  have a1 := h.ok.a1
  have a2 := h.ok.a2
  have H := Lib.hid h
  have OF := Lib.hid hof
  rw [hof] at x4
  have WR := Lib.hid (show s.wr = { s with writes := s.writes + 1, armed := if 0 < s.armed then s.armed - 1 else s.armed, off := decide (s.armed = 1) } by unfold DS.wr; rw [hof]; rfl)
  obtain ⟨n, hn⟩ : ∃ q, s.writes = q := ⟨_, rfl⟩
  obtain ⟨A, hA⟩ : ∃ q, s.armed = q := ⟨_, rfl⟩
  rw [hn] at x5 hw
  rw [hA] at x2 a1 a2
  have HN := Lib.hid hn; have HA := Lib.hid hA
  have wn : IntKind.i64.wrap ((n : Int) + 1) = (n : Int) + 1 := IntWalk.i64_in _ (by omega)
  clear h hof blk hc hn
  rw [hA]
  clear hA
  go_enter Tryz.func118, Tryz.ntmps118
  by_cases c1 : A = 0
  · subst c1
    go_wp2
    go_ret
    refine ⟨rfl, rf_ext H.out ((Upd.refl (fun i => i = rb) w).setCell (fun _ => rfl) _) (fun a c hb => ?_) (by rw [WR.out]) H.out.ok.wr⟩
    rw [setCell_row hb, WR.out]
    simp [rfcells, HN.out, HA.out, OF.out]
  · have t1 : (A == 0) = false := beq_eq_false_iff_ne.2 c1
    have wa : IntKind.i64.wrap (A - 1) = A - 1 := IntWalk.i64_in _ (by omega)
    obtain ⟨z, hz, hz2⟩ : ∃ z : Bool, (A - 1 == 0) = z ∧ decide (A = 1) = z := by
      by_cases c2 : A = 1
      · exact ⟨true, beq_iff_eq.2 (by omega), decide_eq_true c2⟩
      · exact ⟨false, beq_eq_false_iff_ne.2 (by omega), decide_eq_false c2⟩
    rw [hz2]
    have HZ := Lib.hid hz2
    clear hz2
    go_wp2
    go_ret
    refine ⟨rfl, rf_ext H.out ((((Upd.refl (fun i => i = rb) w).setCell (fun _ => rfl) _).setCell (fun _ => rfl) _).setCell (fun _ => rfl) _) (fun a c hb => ?_) (by rw [WR.out]) H.out.ok.wr⟩
    rw [setCell_row (setCell_row (setCell_row hb _ _) _ _), WR.out]
    have h9 := HA.out
    have h8 : 0 < A := by omega
    simp [rfcells, HN.out, h9, OF.out, h8, HZ.out]
end Go.Proofs.YtnbpkignkfabkaaGreatDoor
namespace Go.Proofs.YtnbpkignkfabkaaGreatDoor
set_option linter.unusedVariables false
set_option linter.unusedSimpArgs false
open Go.RowKit Go.Maps
theorem fcells_app (M N : List Fl) : fcells (M ++ N) = fcells M ++ fcells N := by simp [fcells]
theorem fcells_one : ∀ {M : List Fl} {u : Value}, u ∈ fcells M → u.oneCell' = true
  | f :: M, u, h => by
    rw [fcells_cons, List.mem_cons, List.mem_cons] at h
    rcases h with rfl | rfl | h
    · rfl
    · rfl
    · exact fcells_one h
theorem fcells_take : ∀ (M : List Fl) (i : Nat), fcells (M.take i) = (fcells M).take (i * 2)
  | [], i => by simp [fcells]
  | f :: M, 0 => rfl
  | f :: M, i + 1 => by
    rw [List.take_succ_cons, fcells_cons, fcells_take M i, show (i + 1) * 2 = i * 2 + 1 + 1 by omega, fcells_cons, List.take_succ_cons, List.take_succ_cons]
theorem fcells_drop : ∀ (M : List Fl) (i : Nat), fcells (M.drop i) = (fcells M).drop (i * 2)
  | [], i => by simp [fcells]
  | f :: M, 0 => rfl
  | f :: M, i + 1 => by
    rw [List.drop_succ_cons, fcells_drop M i, show (i + 1) * 2 = i * 2 + 1 + 1 by omega, fcells_cons, List.drop_succ_cons, List.drop_succ_cons]
theorem Src_take {w : World} {B g n cap i : Nat} {M : List Fl} (h : Own w B 116 2 (.slice (some ⟨g, 0, none⟩) n cap) n (fcells M)) (hn : M.length = n) (hi : i ≤ n) (c' : Nat) : Src Tryz.prog 2 101 (.slice (some ⟨g, 0, none⟩) i c') i (fcells (M.take i)) w :=
  Src.ofSlice w Tryz.underlying101 ⟨g, 0, none⟩ i c' _ (by rw [fcells_length, List.length_take]; omega) (fun j u hj => by
    rw [fcells_take, List.getElem?_take] at hj
    split at hj
    · rw [Addr.add_lit, Nat.zero_add, h.cellAt j (by omega), hj]
    · cases hj) (fun u hu => fcells_one hu)
theorem Src_drop {w : World} {B g n cap i : Nat} {M : List Fl} (h : Own w B 116 2 (.slice (some ⟨g, 0, none⟩) n cap) n (fcells M)) (hn : M.length = n) (hi : i ≤ n) (m c' : Nat) (hm : n - i = m) : Src Tryz.prog 2 101 (.slice (some ⟨g, i * 2, none⟩) m c') m (fcells (M.drop i)) w :=
  Src.ofSlice w Tryz.underlying101 ⟨g, i * 2, none⟩ m c' _ (by rw [fcells_length, List.length_drop]; omega) (fun j u hj => by
    have hj2 : j < (fcells (M.drop i)).length := (List.getElem?_eq_some_iff.1 hj).1
    rw [fcells_length, List.length_drop] at hj2
    rw [fcells_drop, List.getElem?_drop] at hj
    rw [Addr.add_lit, h.cellAt (i * 2 + j) (by omega), hj]) (fun u hu => fcells_one hu)
theorem Src_zero (w : World) (a : Addr) (c' : Nat) : Src Tryz.prog 2 101 (.slice (some a) 0 c') 0 [] w :=
  Src.ofSlice w Tryz.underlying101 a 0 c' [] rfl (fun j u hj => by simp at hj) (fun u hu => by simp at hu)
section
variable {w w1 w2 w4 : World} {B rb : Nat} {G G1 : Nat → Prop} {s t u : DS} {v4 : Value} {N : List Fl} {C : Con}
/-- The files are others from now on. -/
theorem rf_set (h : RfS w B rb G s) (hb : Below w.heap.size w w4) (ho : Own w4 w.heap.size 116 2 v4 N.length (fcells N)) (hy : ∀ f ∈ N, f.by_.length ≤ f.c ∧ Own w4 0 5 1 f.val f.by_.length (bys f.by_) ∧ ∀ k, f.val.ownBlock = some k → (G k ∧ k ≠ rb) ∨ w.heap.size ≤ k) (hC : conF N = C) (hok : DS.ok { s with C := C }) :
    RfStep w (w4.setCell ⟨rb, 1, none⟩ v4) B rb G { s with C := C } := by
  obtain ⟨a0, c0, M0, blk, -, -⟩ := h.st
  have hrb : rb < w.heap.size := (h.fl _ h.at_).2
  have hu : Upd (fun i => i = rb) w (w4.setCell ⟨rb, 1, none⟩ v4) := (show Upd (fun i => i = rb) w w4 from (Upd.ofBelow hb).mono (fun _ s _ => s.elim)).setCell (fun _ => rfl) _
  have hlN : N.length = C.length := by rw [← hC]; simp [conF]
  have own4 : ∀ {v : Value} {e : TypeId} {sz n : Nat} {xs : List Value}, Own w4 0 e sz v n xs → v.ownBlock ≠ some rb → Own (w4.setCell ⟨rb, 1, none⟩ v4) 0 e sz v n xs := fun hh hne => hh.setCell_other (a := ⟨rb, 1, none⟩) hne _
  have hv4 : ∀ k, v4.ownBlock = some k → w.heap.size ≤ k ∧ k < w4.heap.size := fun k hk => ho.lt k hk
  have hsz : (w4.setCell ⟨rb, 1, none⟩ v4).heap.size = w4.heap.size := by simp [World.setCell]
  obtain ⟨a, c, rfl, hc, -, -⟩ := ho.shape'
  refine ⟨fun k => G k ∨ (w.heap.size ≤ k ∧ k < w4.heap.size), ⟨⟨a, c, N, ?_, hC, ⟨?_, ?_, ?_⟩⟩, hok, .inl h.at_, fun i hi => ?_, Nat.le_trans h.bw hu.size⟩, hu, hu.below (fun k hk _ => by rw [hk]; exact (h.fl _ h.at_).1) h.bw, fun i hi => hi.elim .inl (fun h9 => .inr h9.1)⟩
  · rw [setCell_row ((hb.block _ hrb).trans blk), hlN]
    simp [rfcells]
  · show Own _ 0 116 2 (.slice a C.length c) N.length (fcells N)
    rw [← hlN]
    exact own4 (ho.rebase (base' := 0) (fun _ _ => Nat.zero_le _)) (fun e => by have := (hv4 _ e).1; omega)
  · show ∀ k, (Value.slice a C.length c).ownBlock = some k → _
    rw [← hlN]
    exact fun k hk => ⟨.inr (hv4 k hk), fun e => by have := (hv4 k hk).1; omega⟩
  · intro f hf
    obtain ⟨h1, h2, h3⟩ := hy f hf
    exact ⟨h1, own4 h2 (fun e => by rcases h3 _ e with h9 | h9; exact h9.2 rfl; omega), fun k hk => (h3 k hk).elim (fun h9 => ⟨.inl h9.1, h9.2⟩) (fun h9 => ⟨.inr ⟨h9, (h2.lt k hk).2⟩, fun e => by omega⟩)⟩
  · rw [hsz]
    rcases hi with hi | hi
    · exact ⟨(h.fl i hi).1, Nat.lt_of_lt_of_le (h.fl i hi).2 hb.size⟩
    · exact ⟨Nat.le_trans h.bw hi.1, hi.2⟩
theorem RfStep.front (h : RfS w B rb G s) (hb : Below w.heap.size w w1) (hs : RfStep w1 w2 B rb G t) : RfStep w w2 B rb G t := by
  obtain ⟨G', h1, h2, h3, h4⟩ := hs
  exact ⟨G', h1, (Upd.ofBelow hb).trans h2 (fun _ s _ => s.elim) (fun _ s _ => s), (hb.mono h.bw).trans h3, fun i hi => (h4 i hi).imp_right (Nat.le_trans hb.size)⟩
theorem RfStep.back (hs : RfStep w w1 B rb G t) (hb : Below w1.heap.size w1 w2) : RfStep w w2 B rb G t := by
  obtain ⟨G', h1, h2, h3, h4⟩ := hs
  exact ⟨G', h1.below hb, h2.same ((Upd.ofBelow hb).mono (fun _ s _ => s.elim)), h3.trans (hb.mono h1.bw), h4⟩
theorem RfStep.bind (hs : RfStep w w1 B rb G t) (hk : ∀ G1, RfS w1 B rb G1 t → RfStep w1 w2 B rb G1 u) : RfStep w w2 B rb G u := by
  obtain ⟨G1, h1, h2, h3, h4⟩ := hs
  obtain ⟨G2, k1, k2, k3, k4⟩ := hk G1 h1
  exact ⟨G2, k1, h2.same k2, h3.trans k3, fun i hi => (k4 i hi).elim (h4 i) (fun h9 => .inr (Nat.le_trans h2.size h9))⟩
theorem RfStep.same (h : RfS w B rb G s) (hb : Below w.heap.size w w1) : RfStep w w1 B rb G s :=
  ⟨G, h.below hb, (Upd.ofBelow hb).mono (fun _ s _ => s.elim), hb.mono h.bw, fun _ hi => .inl hi⟩
end
set_option maxRecDepth 100000 in
set_option maxHeartbeats 2000000 in
theorem drop9_calls {w : World} {B rb : Nat} {G : Nat → Prop} {s : DS} (h : RfS w B rb G s) (nm : List UInt8) (hnm : nm.length ≤ 140737488355328) :
    Calls Tryz.prog 101 #[.pointer (some ⟨rb, 0, none⟩), .string ⟨nm.toArray⟩] w fun r w' => r = .returned (.tuple #[]) ∧ RfStep w w' B rb G (s.del nm) := by
  have PC := Lib.hid (place_calls h nm hnm)
  have H := Lib.hid h
  obtain ⟨b, hb⟩ : ∃ q, hasC s.C nm = q := ⟨_, rfl⟩
  obtain ⟨i, hi⟩ : ∃ q, plc nm s.C = q := ⟨_, rfl⟩
  rw [hb, hi] at PC
  have HB := Lib.hid hb; have HI := Lib.hid hi
  clear h hb hi
  go_enter Tryz.func101, Tryz.ntmps101
  go_wp2_with fail
  refine PC.out.mono ?_
  rintro r w1 ⟨rfl, b1⟩
  have h1 := H.out.below b1
  have B1 := Lib.hid b1
  clear b1 PC
  cases b with
  | false =>
    have e : s.del nm = s := by unfold DS.del; rw [delC_no HB.out]
    have H1 := Lib.hid h1
    have E := Lib.hid e
    clear h1 e
    go_wp2
    go_end0
    refine ⟨rfl, ?_⟩
    rw [E.out]
    exact RfStep.same H.out B1.out
  | true =>
    obtain ⟨a, c, M, blk, hM, fg⟩ := h1.st
    obtain ⟨-, x1, -, -, -, -⟩ := rf_of blk
    have f1 := frozen_of_row blk 1
    have hl : M.length = s.C.length := by rw [← hM]; simp [conF]
    obtain ⟨n, hn⟩ : ∃ q, s.C.length = q := ⟨_, rfl⟩
    obtain ⟨hp, -⟩ := plc_has H.out.ok.so HB.out
    rw [HI.out, hn] at hp
    rw [hn] at x1 hl fg
    have ho := fg.own
    rw [hl] at ho
    obtain ⟨g, cap, hv⟩ := ho.shape (by omega)
    simp only [Value.slice.injEq] at hv
    obtain ⟨rfl, -, rfl⟩ := hv
    obtain ⟨_, _, hv, hnc, -, -⟩ := ho.shape'
    simp only [Value.slice.injEq] at hv
    obtain ⟨-, -, rfl⟩ := hv
    have n64 : n ≤ 64 := by have := H.out.ok.len; omega
    have SR := Lib.hid (Src_take ho hl (show i ≤ n by omega) c)
    have SO := Lib.hid ho
    have HH1 := Lib.hid h1; have HM := Lib.hid hM; have FG := Lib.hid fg; have BLK := Lib.hid blk; have HL := Lib.hid hl
    have N1 : Hid (0 + i ≤ maxLen) := by show _ ≤ _; unfold maxLen; omega
    have N2 : Hid ((0 + i) * 40 ≤ 140737488355328) := by show _ ≤ _; omega
    have HNC := Lib.hid hn
    clear ho h1 hM fg hl hn
    have i2 : (i : Int) ≤ (c : Int) := by omega
    have i3 : (i : Int) + 1 ≤ (n : Int) := by omega
    have i4 : (n : Int) ≤ (c : Int) := by omega
    go_wp2_with (at_builtin; refine wpList_append rfl (.tmp 14) (.tmp 20) 101 101 rfl w1.heap.size 116 (.agg #[.string ⟨#[]⟩, .slice none 0 0]) 2 40 Tryz.underlying101 infoFile rfl (v := .slice none 0 0) (n := 0) (xs := []) (Own.nil _ _ _ _) rfl (xv := .slice (some ⟨g, 0, none⟩) i c) (m := i) (news := fcells (M.take i)) SR.out rfl N1.out N2.out (Nat.le_refl _) ?_)
    rintro v2 w2 ho2 hg2 - -
    have b2 : Below w1.heap.size w1 w2 := (Below.refl _ w1).grown hg2 (Nat.le_refl _) (by intro k hk; cases hk)
    have B2 := Lib.hid b2
    have O2 := Lib.hid (show Own w2 w1.heap.size 116 2 v2 i (fcells (M.take i)) from ho2)
    obtain ⟨-, y1, -, -, -, -⟩ := rf_of ((b2.block _ (lt_of_block BLK.out)).trans BLK.out)
    have y1' : w2.cell? ⟨rb, 1, none⟩ = some (.slice (some ⟨g, 0, none⟩) n c) := by rw [HNC.out] at y1; exact y1
    clear ho2 hg2 b2 x1 f1 SR y1
    have f2 := frozen_of_row ((B2.out.block _ (lt_of_block BLK.out)).trans BLK.out) 1
    have N3 : Hid (i + (n - (i + 1)) ≤ maxLen) := by show _ ≤ _; unfold maxLen; omega
    have N4 : Hid ((i + (n - (i + 1))) * 40 ≤ 140737488355328) := by show _ ≤ _; omega
    have FIN := Lib.hid (fun (v4 : Value) (w4 : World) (ho4 : Own w4 w1.heap.size 116 2 v4 (i + (n - (i + 1))) (fcells (M.take i) ++ fcells (M.drop (i + 1)))) (hb4 : Below w1.heap.size w1 w4) => show RfStep w (w4.setCell ⟨rb, 1, none⟩ v4) B rb G (s.del nm) from by
      have hm : ∀ f ∈ M.take i ++ M.drop (i + 1), f ∈ M := fun f hf => (List.mem_append.1 hf).elim List.mem_of_mem_take List.mem_of_mem_drop
      have hlen : (M.take i ++ M.drop (i + 1)).length = i + (n - (i + 1)) := by have := HL.out; simp; omega
      refine RfStep.front H.out B1.out (rf_set (N := M.take i ++ M.drop (i + 1)) HH1.out hb4 ?_ (fun f hf => ?_) ?_ (H.out.ok.del nm))
      · rw [hlen, fcells_app]; exact ho4
      · obtain ⟨k1, k2, k3⟩ := FG.out.byt f (hm f hf)
        exact ⟨k1, k2.below hb4, fun k hk => .inl (k3 k hk)⟩
      · rw [plc_del H.out.ok.so HB.out, HI.out, ← HM.out]
        simp [conF])
    by_cases ec : c = i + 1
    · have e0 : n - (i + 1) = 0 := by omega
      have SZ := Lib.hid (Src_zero w2 ⟨g, 0, none⟩ 0)
      have ed : M.drop (i + 1) = [] := List.drop_eq_nil_iff.2 (by have := HL.out; omega)
      rw [e0, ed] at FIN
      rw [e0] at N3 N4
      subst ec
      clear e0 ed
      go_wp2_with (at_builtin; refine wpList_append rfl (.tmp 23) (.tmp 30) 101 101 rfl w1.heap.size 116 (.agg #[.string ⟨#[]⟩, .slice none 0 0]) 2 40 Tryz.underlying101 infoFile rfl (v := v2) (n := i) (xs := fcells (M.take i)) O2.out rfl (xv := .slice (some ⟨g, 0, none⟩) 0 0) (m := 0) (news := []) SZ.out rfl N3.out N4.out B2.out.size ?_)
      rintro v4 w4 ho4 hg4 - -
      obtain ⟨a4, c4, rfl, -, -, -⟩ := ho4.shape'
      have b4 : Below w1.heap.size w1 w4 := B2.out.grown hg4 B2.out.size (fun k hk => (O2.out.lt k hk).1)
      have ST := Lib.hid (FIN.out _ w4 (by simpa [fcells] using ho4) b4)
      obtain ⟨-, z1, -, -, -, -⟩ := rf_of ((b4.block _ (lt_of_block BLK.out)).trans BLK.out)
      have f4 := frozen_of_row ((b4.block _ (lt_of_block BLK.out)).trans BLK.out) 1
      clear ho4 hg4 b4 FIN SZ y1' f2
      go_wp2
      go_end0
      exact ⟨rfl, ST.out⟩
    · have ec1 : ¬ (c : Int) = (i : Int) + 1 := by omega
      have ec2 : ¬ c = i + 1 := by omega
      have SD := Lib.hid (Src_drop (SO.out.below B2.out) HL.out (show i + 1 ≤ n by omega) (n - (i + 1)) (c - (i + 1)) rfl)
      go_wp2_with (at_builtin; refine wpList_append rfl (.tmp 23) (.tmp 30) 101 101 rfl w1.heap.size 116 (.agg #[.string ⟨#[]⟩, .slice none 0 0]) 2 40 Tryz.underlying101 infoFile rfl (v := v2) (n := i) (xs := fcells (M.take i)) O2.out rfl (xv := .slice (some ⟨g, (i + 1) * 2, none⟩) (n - (i + 1)) (c - (i + 1))) (m := n - (i + 1)) (news := fcells (M.drop (i + 1))) SD.out rfl N3.out N4.out B2.out.size ?_)
      rintro v4 w4 ho4 hg4 - -
      obtain ⟨a4, c4, rfl, -, -, -⟩ := ho4.shape'
      have b4 : Below w1.heap.size w1 w4 := B2.out.grown hg4 B2.out.size (fun k hk => (O2.out.lt k hk).1)
      have ST := Lib.hid (FIN.out _ w4 ho4 b4)
      obtain ⟨-, z1, -, -, -, -⟩ := rf_of ((b4.block _ (lt_of_block BLK.out)).trans BLK.out)
      have f4 := frozen_of_row ((b4.block _ (lt_of_block BLK.out)).trans BLK.out) 1
      clear ho4 hg4 b4 FIN SD y1' f2
      go_wp2
      go_end0
      exact ⟨rfl, ST.out⟩
/-! lay -/
theorem Own.none {w : World} {B n c sz : Nat} {e : TypeId} {xs : List Value} (h : Own w B e sz (.slice none n c) n xs) : n = 0 ∧ c = 0 ∧ xs = [] := by
  obtain ⟨h1, ⟨h2, h3⟩ | ⟨_, _, _, _, h2, _⟩⟩ := h
  · simp only [Value.slice.injEq] at h2
    subst h3
    exact ⟨rfl, h2.2.2, List.eq_nil_of_length_eq_zero (by simpa using h1)⟩
  · cases h2
theorem RfS.more {w : World} {B rb : Nat} {G G2 : Nat → Prop} {s : DS} (h : RfS w B rb G s) (h1 : ∀ i, G i → G2 i) (h2 : ∀ i, G2 i → B ≤ i ∧ i < w.heap.size) : RfS w B rb G2 s := by
  obtain ⟨a, c, M, k1, k2, k3⟩ := h.st
  exact ⟨⟨a, c, M, k1, k2, k3.mono h1⟩, h.ok, h1 _ h.at_, h2, h.bw⟩
theorem RfStep.less {w0 w w' : World} {B rb : Nat} {G G2 : Nat → Prop} {s : DS} (hu : Upd (fun i => i = rb) w0 w) (hb : Below B w0 w) (h : RfStep w w' B rb G2 s) (hg : ∀ i, G2 i → G i ∨ w0.heap.size ≤ i) : RfStep w0 w' B rb G s := by
  obtain ⟨G', k1, k2, k3, k4⟩ := h
  exact ⟨G', k1, hu.same k2, hb.trans k3, fun i hi => (k4 i hi).elim (hg i) (fun h9 => .inr (Nat.le_trans hu.size h9))⟩
set_option maxRecDepth 100000 in
set_option maxHeartbeats 4000000 in
theorem lay9_calls {w : World} {B rb : Nat} {G : Nat → Prop} {s : DS} (h : RfS w B rb G s) (nm t : List UInt8) (fa : Option Addr) (fc : Nat) (hnm : nm.length ≤ 140737488355328) (hfc : t.length ≤ fc) (hfo : Own w 0 5 1 (.slice fa t.length fc) t.length (bys t)) (hfg : ∀ k, (Value.slice fa t.length fc).ownBlock = some k → G k ∧ k ≠ rb) (hok : (s.put nm t).ok) :
    Calls Tryz.prog 47 #[.pointer (some ⟨rb, 0, none⟩), .agg #[.string ⟨nm.toArray⟩, .slice fa t.length fc]] w fun r w' => r = .returned (.tuple #[]) ∧ RfStep w w' B rb G (s.put nm t) := by
  obtain ⟨w0, hw0⟩ : ∃ q, w.alloc (.cells #[.string ⟨nm.toArray⟩, .slice fa t.length fc] 116) = q := ⟨_, rfl⟩
  have b0 : Below w.heap.size w w0 := by rw [← hw0]; exact (Below.refl _ _).alloc (Nat.le_refl _) _
  have blk0 : w0.heap[w.heap.size]? = some (.cells #[.string ⟨nm.toArray⟩, .slice fa t.length fc] 116 (0, 0)) := by rw [← hw0]; exact heap_alloc_new w _
  have DC := Lib.hid (drop9_calls (h.below b0) nm hnm)
  have H := Lib.hid h; have W0 := Lib.hid hw0; have B0 := Lib.hid b0; have K0 := Lib.hid blk0; have FO := Lib.hid hfo; have FGG := Lib.hid hfg; have OKP := Lib.hid hok
  have hrb : rb < w.heap.size := (h.fl _ h.at_).2
  have RB := Lib.hid hrb
  clear h hw0 b0 blk0 hfo hfg hok hrb
  go_enter Tryz.func47, Tryz.ntmps47
  go_wp2_with fail
  rw [W0.out]
  refine DC.out.mono ?_
  rintro r w1 ⟨rfl, st1⟩
  obtain ⟨G1, h1, u1, b1, g1⟩ := st1
  have k1 := (u1.block _ (lt_of_block K0.out) (fun e => by have := RB.out; omega)).trans K0.out
  have x0 : w1.cell? ⟨w.heap.size, 0, none⟩ = some (.string ⟨nm.toArray⟩) := by rw [cell_of_row' k1]; rfl
  have PC := Lib.hid (place_calls h1 nm hnm)
  have H1 := Lib.hid h1; have K1 := Lib.hid k1; have U1 := Lib.hid u1; have GG1 := Lib.hid g1; have BB1 := Lib.hid b1
  clear h1 u1 b1 g1 k1 DC
  go_wp2_with fail
  refine PC.out.mono ?_
  rintro r w2 ⟨rfl, b2⟩
  have h2 : RfS w2 B rb (fun i => G1 i ∨ (Value.slice fa t.length fc).ownBlock = some i) (s.del nm) := by
    have hs2 : w.heap.size ≤ w2.heap.size := Nat.le_trans B0.out.size (Nat.le_trans U1.out.size b2.size)
    exact (H1.out.below b2).more (fun _ h9 => .inl h9) (fun k hk => hk.elim ((H1.out.below b2).fl k) (fun h9 => ⟨(H.out.fl k (FGG.out k h9).1).1, Nat.lt_of_lt_of_le (H.out.fl k (FGG.out k h9).1).2 hs2⟩))
  have UA : Hid (Upd (fun i => i = rb) w w2) := ((Upd.ofBelow B0.out).trans U1.out (fun _ s _ => s.elim) (fun _ s _ => s)).same ((Upd.ofBelow b2).mono (fun _ s _ => s.elim))
  have BA : Hid (Below B w w2) := ((B0.out.mono H.out.bw).trans BB1.out).trans (b2.mono H1.out.bw)
  have H2 := Lib.hid h2
  have k2 := (b2.block _ (lt_of_block K1.out)).trans K1.out
  have B2 := Lib.hid b2
  have hno : hasC (s.del nm).C nm = false := by show hasC (delC s.C nm) nm = false; rw [hasC_delC]; simp
  obtain ⟨i, hi⟩ : ∃ q, plc nm (s.del nm).C = q := ⟨_, rfl⟩
  have PL := plc_le nm (s.del nm).C
  rw [hi] at PL
  have PI := plc_ins (b := t) hno
  rw [hi] at PI
  have hput : (s.put nm t).C = insC (nm, t) (s.del nm).C := rfl
  rw [hi, hno]
  obtain ⟨a, c, M, blk, hM, fg⟩ := h2.st
  have ho := fg.own
  have hl : M.length = (s.del nm).C.length := by rw [← hM]; simp [conF]
  obtain ⟨n, hn⟩ : ∃ q, (s.del nm).C.length = q := ⟨_, rfl⟩
  have n64 : n ≤ 64 := by have := h2.ok.len; omega
  obtain ⟨-, x1, -, -, -, -⟩ := rf_of blk
  have f1 := frozen_of_row blk 1
  have RF2 := Lib.hid blk
  rw [hn] at x1 hl fg PL
  rw [hl] at ho
  rw [hn] at ho
  have z0 : w2.cell? ⟨w.heap.size, 0, none⟩ = some (.string ⟨nm.toArray⟩) := by rw [cell_of_row' k2]; rfl
  have z1 : w2.cell? ⟨w.heap.size, 1, none⟩ = some (.slice fa t.length fc) := by rw [cell_of_row' k2]; rfl
  have K2 := Lib.hid k2; have SO := Lib.hid ho; have HL := Lib.hid hl; have FG := Lib.hid fg; have HNC := Lib.hid hn
  have FIN := Lib.hid (fun (v5 : Value) (w5 : World) (ho5 : Own w5 w2.heap.size 116 2 v5 (i + 1 + (n - i)) (fcells (M.take i) ++ Value.string ⟨nm.toArray⟩ :: Value.slice fa t.length fc :: fcells (M.drop i))) (hb5 : Below w2.heap.size w2 w5) => show RfStep w (w5.setCell ⟨rb, 1, none⟩ v5) B rb G (s.put nm t) from by
    have e2 : ({ s.del nm with C := (s.put nm t).C } : DS) = s.put nm t := rfl
    have hNl : (M.take i ++ ⟨nm, t, fa, fc⟩ :: M.drop i).length = i + 1 + (n - i) := by have := HL.out; simp; omega
    have hst : RfStep w2 (w5.setCell ⟨rb, 1, none⟩ v5) B rb (fun i => G1 i ∨ (Value.slice fa t.length fc).ownBlock = some i) { s.del nm with C := (s.put nm t).C } := by
      refine rf_set (N := M.take i ++ ⟨nm, t, fa, fc⟩ :: M.drop i) H2.out hb5 ?_ (fun f hf => ?_) ?_ OKP.out
      · rw [hNl, fcells_app, fcells_cons]
        exact ho5
      · rcases List.mem_append.1 hf with hf | hf
        · obtain ⟨q1, q2, q3⟩ := FG.out.byt f (List.mem_of_mem_take hf)
          exact ⟨q1, q2.below hb5, fun k hk => .inl (q3 k hk)⟩
        · rcases List.mem_cons.1 hf with rfl | hf
          · exact ⟨hfc, (((FO.out.below B0.out).upd U1.out (fun k hk e => (FGG.out k hk).2 e)).below B2.out).below hb5, fun k hk => .inl ⟨.inr hk, (FGG.out k hk).2⟩⟩
          · obtain ⟨q1, q2, q3⟩ := FG.out.byt f (List.mem_of_mem_drop hf)
            exact ⟨q1, q2.below hb5, fun k hk => .inl (q3 k hk)⟩
      · rw [hput, PI, ← hM]
        simp [conF]
    rw [e2] at hst
    refine RfStep.less UA.out BA.out hst (fun k hk => ?_)
    rcases hk with hk | hk
    · exact (GG1.out k hk).imp_right (Nat.le_trans B0.out.size)
    · exact .inl (FGG.out k hk).1)
  clear h2 k2 b2 hno hi PI hput blk hM fg hl hn PC x0 H1
  cases a with
  | none =>
    obtain ⟨e1, e2, e3⟩ := ho.none
    obtain rfl : i = 0 := by omega
    subst e1 e2
    have eM : M = [] := List.eq_nil_of_length_eq_zero HL.out
    subst eM
    clear ho e3
    have N1 : Hid (0 + 0 ≤ maxLen) := by show _ ≤ _; unfold maxLen; omega
    have N2 : Hid ((0 + 0) * 40 ≤ 140737488355328) := by show _ ≤ _; omega
    have N3 : Hid (0 + 1 ≤ maxLen) := by show _ ≤ _; unfold maxLen; omega
    have N4 : Hid ((0 + 1) * 40 ≤ 140737488355328) := by show _ ≤ _; omega
    have N6 : Hid (0 + 1 + 0 ≤ maxLen) := by show _ ≤ _; unfold maxLen; omega
    have N7 : Hid ((0 + 1 + 0) * 40 ≤ 140737488355328) := by show _ ≤ _; omega
    go_wp2_with (at_builtin; refine wpList_append rfl (.tmp 18) (.tmp 24) 101 101 rfl w2.heap.size 116 (.agg #[.string ⟨#[]⟩, .slice none 0 0]) 2 40 Tryz.underlying101 infoFile rfl (v := .slice none 0 0) (n := 0) (xs := []) (Own.nil _ _ _ _) rfl (xv := .slice none 0 0) (m := 0) (news := []) (Src.ofNil w2 Tryz.underlying101 0) rfl N1.out N2.out (Nat.le_refl _) ?_)
    rintro v3 w3 ho3 hg3 - -
    have b3 : Below w2.heap.size w2 w3 := (Below.refl _ w2).grown hg3 (Nat.le_refl _) (by intro k hk; cases hk)
    have B3 := Lib.hid b3
    have O3 := Lib.hid (show Own w3 w2.heap.size 116 2 v3 0 ([] : List Value) from (by simpa [fcells] using ho3))
    have k3 := (b3.block _ (lt_of_block K2.out)).trans K2.out
    have y0 : w3.cell? ⟨w.heap.size, 0, none⟩ = some (.string ⟨nm.toArray⟩) := by rw [cell_of_row' k3]; rfl
    have y1 : w3.cell? ⟨w.heap.size, 1, none⟩ = some (.slice fa t.length fc) := by rw [cell_of_row' k3]; rfl
    have N5 : Hid (w2.heap.size ≤ (w3.alloc (.cells #[.string ⟨nm.toArray⟩, .slice fa t.length fc] 116)).heap.size) := by
      show _ ≤ _
      rw [World.size_alloc]
      have := B3.out.size; omega
    clear ho3 hg3 b3 k3 x1 f1 z0 z1
    go_wp2_with (at_builtin; refine wpList_append rfl (.tmp 26) (.tmp 28) 101 101 rfl w2.heap.size 116 (.agg #[.string ⟨#[]⟩, .slice none 0 0]) 2 40 Tryz.underlying101 infoFile rfl (v := v3) (n := 0) (xs := ([] : List Value)) (O3.out.alloc _) rfl (xv := .slice (some ⟨w3.heap.size, 0, none⟩) 1 1) (m := 1) (news := [.string ⟨nm.toArray⟩, .slice fa t.length fc]) (Src_new2 Tryz.underlying101 (heap_alloc_new w3 _) rfl rfl) rfl N3.out N4.out N5.out ?_)
    rintro v4 w4 ho4 hg4 - -
    have b4 : Below w2.heap.size w2 w4 := B3.out.trans ((((Upd.refl (fun k => v3.ownBlock = some k) w3).alloc _).grown hg4 (fun k hk _ => hk)).below (fun k hk _ => (O3.out.lt k hk).1) B3.out.size)
    have B4 := Lib.hid b4
    have O4 := Lib.hid (show Own w4 w2.heap.size 116 2 v4 (0 + 1) (([] : List Value) ++ [.string ⟨nm.toArray⟩, .slice fa t.length fc]) from ho4)
    obtain ⟨-, x1, -, -, -, -⟩ := rf_of ((b4.block _ (lt_of_block RF2.out)).trans RF2.out)
    rw [HNC.out] at x1
    have S5 := Lib.hid (Src.ofNil (size := 2) w4 Tryz.underlying101 0)
    clear ho4 hg4 b4 y0 y1
    go_wp2_with (at_builtin; refine wpList_append rfl (.tmp 31) (.tmp 37) 101 101 rfl w2.heap.size 116 (.agg #[.string ⟨#[]⟩, .slice none 0 0]) 2 40 Tryz.underlying101 infoFile rfl (v := v4) (n := 0 + 1) (xs := ([] : List Value) ++ [.string ⟨nm.toArray⟩, .slice fa t.length fc]) O4.out rfl (xv := .slice none 0 0) (m := 0) (news := []) S5.out rfl N6.out N7.out B4.out.size ?_)
    rintro v5 w5 ho5 hg5 - -
    have b5 : Below w2.heap.size w2 w5 := B4.out.grown hg5 B4.out.size (fun k hk => (O4.out.lt k hk).1)
    obtain ⟨a5, c5, rfl, -, -, -⟩ := ho5.shape'
    have ST := Lib.hid (FIN.out _ w5 (by simpa [fcells] using ho5) b5)
    obtain ⟨-, z5, -, -, -, -⟩ := rf_of ((b5.block _ (lt_of_block RF2.out)).trans RF2.out)
    have f5 := frozen_of_row ((b5.block _ (lt_of_block RF2.out)).trans RF2.out) 1
    clear ho5 hg5 b5 FIN S5 x1
    go_wp2
    go_end0
    exact ⟨rfl, ST.out⟩
  | some ad =>
    obtain ⟨_, _, hv, hnc, had, -⟩ := ho.shape'
    simp only [Value.slice.injEq] at hv
    obtain ⟨hv1, -, rfl⟩ := hv
    subst hv1
    have had2 := (had ad rfl).1
    obtain ⟨g, o9, s9⟩ := ad
    simp only [Addr.mk.injEq, true_and] at had2
    obtain ⟨rfl, rfl⟩ := had2
    clear had
    have i2 : (i : Int) ≤ (c : Int) := by omega
    have i3 : (i : Int) ≤ (n : Int) := by omega
    have i4 : (n : Int) ≤ (c : Int) := by omega
    have SR := Lib.hid (Src_take ho HL.out PL c)
    have N1 : Hid (0 + i ≤ maxLen) := by show _ ≤ _; unfold maxLen; omega
    have N2 : Hid ((0 + i) * 40 ≤ 140737488355328) := by show _ ≤ _; omega
    have N3 : Hid (i + 1 ≤ maxLen) := by show _ ≤ _; unfold maxLen; omega
    have N4 : Hid ((i + 1) * 40 ≤ 140737488355328) := by show _ ≤ _; omega
    clear ho
    by_cases ec : c = i
    · have e0 : n - i = 0 := by omega
      have ed : M.drop i = [] := List.drop_eq_nil_iff.2 (by have := HL.out; omega)
      rw [e0, ed] at FIN
      have N6 : Hid (i + 1 + 0 ≤ maxLen) := by show _ ≤ _; unfold maxLen; omega
      have N7 : Hid ((i + 1 + 0) * 40 ≤ 140737488355328) := by show _ ≤ _; omega
      have ec2 := ec.symm
      subst ec2
      clear e0 ed ec
      go_wp2_with (at_builtin; refine wpList_append rfl (.tmp 18) (.tmp 24) 101 101 rfl w2.heap.size 116 (.agg #[.string ⟨#[]⟩, .slice none 0 0]) 2 40 Tryz.underlying101 infoFile rfl (v := .slice none 0 0) (n := 0) (xs := []) (Own.nil _ _ _ _) rfl (xv := .slice (some ⟨g, 0, none⟩) i i) (m := i) (news := fcells (M.take i)) SR.out rfl N1.out N2.out (Nat.le_refl _) ?_)
      rintro v3 w3 ho3 hg3 - -
      have b3 : Below w2.heap.size w2 w3 := (Below.refl _ w2).grown hg3 (Nat.le_refl _) (by intro k hk; cases hk)
      have B3 := Lib.hid b3
      have O3 := Lib.hid (show Own w3 w2.heap.size 116 2 v3 i (fcells (M.take i)) from ho3)
      have k3 := (b3.block _ (lt_of_block K2.out)).trans K2.out
      have y0 : w3.cell? ⟨w.heap.size, 0, none⟩ = some (.string ⟨nm.toArray⟩) := by rw [cell_of_row' k3]; rfl
      have y1 : w3.cell? ⟨w.heap.size, 1, none⟩ = some (.slice fa t.length fc) := by rw [cell_of_row' k3]; rfl
      have N5 : Hid (w2.heap.size ≤ (w3.alloc (.cells #[.string ⟨nm.toArray⟩, .slice fa t.length fc] 116)).heap.size) := by
        show _ ≤ _
        rw [World.size_alloc]
        have := B3.out.size; omega
      clear ho3 hg3 b3 k3 x1 f1 z0 z1
      go_wp2_with (at_builtin; refine wpList_append rfl (.tmp 26) (.tmp 28) 101 101 rfl w2.heap.size 116 (.agg #[.string ⟨#[]⟩, .slice none 0 0]) 2 40 Tryz.underlying101 infoFile rfl (v := v3) (n := i) (xs := fcells (M.take i)) (O3.out.alloc _) rfl (xv := .slice (some ⟨w3.heap.size, 0, none⟩) 1 1) (m := 1) (news := [.string ⟨nm.toArray⟩, .slice fa t.length fc]) (Src_new2 Tryz.underlying101 (heap_alloc_new w3 _) rfl rfl) rfl N3.out N4.out N5.out ?_)
      rintro v4 w4 ho4 hg4 - -
      have b4 : Below w2.heap.size w2 w4 := B3.out.trans ((((Upd.refl (fun k => v3.ownBlock = some k) w3).alloc _).grown hg4 (fun k hk _ => hk)).below (fun k hk _ => (O3.out.lt k hk).1) B3.out.size)
      have B4 := Lib.hid b4
      have O4 := Lib.hid (show Own w4 w2.heap.size 116 2 v4 (i + 1) (fcells (M.take i) ++ [.string ⟨nm.toArray⟩, .slice fa t.length fc]) from ho4)
      obtain ⟨-, x1, -, -, -, -⟩ := rf_of ((b4.block _ (lt_of_block RF2.out)).trans RF2.out)
      rw [HNC.out] at x1
      have S5 := Lib.hid (Src_zero w4 ⟨g, 0, none⟩ 0)
      clear ho4 hg4 b4 y0 y1
      go_wp2_with (at_builtin; refine wpList_append rfl (.tmp 31) (.tmp 37) 101 101 rfl w2.heap.size 116 (.agg #[.string ⟨#[]⟩, .slice none 0 0]) 2 40 Tryz.underlying101 infoFile rfl (v := v4) (n := i + 1) (xs := fcells (M.take i) ++ [.string ⟨nm.toArray⟩, .slice fa t.length fc]) O4.out rfl (xv := .slice (some ⟨g, 0, none⟩) 0 0) (m := 0) (news := []) S5.out rfl N6.out N7.out B4.out.size ?_)
      rintro v5 w5 ho5 hg5 - -
      have b5 : Below w2.heap.size w2 w5 := B4.out.grown hg5 B4.out.size (fun k hk => (O4.out.lt k hk).1)
      obtain ⟨a5, c5, rfl, -, -, -⟩ := ho5.shape'
      have ST := Lib.hid (FIN.out _ w5 (by simpa [fcells] using ho5) b5)
      obtain ⟨-, z5, -, -, -, -⟩ := rf_of ((b5.block _ (lt_of_block RF2.out)).trans RF2.out)
      have f5 := frozen_of_row ((b5.block _ (lt_of_block RF2.out)).trans RF2.out) 1
      clear ho5 hg5 b5 FIN S5 x1
      go_wp2
      go_end0
      exact ⟨rfl, ST.out⟩
    · have ec1 : ¬ (c : Int) = (i : Int) := by omega
      have N6 : Hid (i + 1 + (n - i) ≤ maxLen) := by show _ ≤ _; unfold maxLen; omega
      have N7 : Hid ((i + 1 + (n - i)) * 40 ≤ 140737488355328) := by show _ ≤ _; omega
      go_wp2_with (at_builtin; refine wpList_append rfl (.tmp 18) (.tmp 24) 101 101 rfl w2.heap.size 116 (.agg #[.string ⟨#[]⟩, .slice none 0 0]) 2 40 Tryz.underlying101 infoFile rfl (v := .slice none 0 0) (n := 0) (xs := []) (Own.nil _ _ _ _) rfl (xv := .slice (some ⟨g, 0, none⟩) i c) (m := i) (news := fcells (M.take i)) SR.out rfl N1.out N2.out (Nat.le_refl _) ?_)
      rintro v3 w3 ho3 hg3 - -
      have b3 : Below w2.heap.size w2 w3 := (Below.refl _ w2).grown hg3 (Nat.le_refl _) (by intro k hk; cases hk)
      have B3 := Lib.hid b3
      have O3 := Lib.hid (show Own w3 w2.heap.size 116 2 v3 i (fcells (M.take i)) from ho3)
      have k3 := (b3.block _ (lt_of_block K2.out)).trans K2.out
      have y0 : w3.cell? ⟨w.heap.size, 0, none⟩ = some (.string ⟨nm.toArray⟩) := by rw [cell_of_row' k3]; rfl
      have y1 : w3.cell? ⟨w.heap.size, 1, none⟩ = some (.slice fa t.length fc) := by rw [cell_of_row' k3]; rfl
      have N5 : Hid (w2.heap.size ≤ (w3.alloc (.cells #[.string ⟨nm.toArray⟩, .slice fa t.length fc] 116)).heap.size) := by
        show _ ≤ _
        rw [World.size_alloc]
        have := B3.out.size; omega
      clear ho3 hg3 b3 k3 x1 f1 z0 z1
      go_wp2_with (at_builtin; refine wpList_append rfl (.tmp 26) (.tmp 28) 101 101 rfl w2.heap.size 116 (.agg #[.string ⟨#[]⟩, .slice none 0 0]) 2 40 Tryz.underlying101 infoFile rfl (v := v3) (n := i) (xs := fcells (M.take i)) (O3.out.alloc _) rfl (xv := .slice (some ⟨w3.heap.size, 0, none⟩) 1 1) (m := 1) (news := [.string ⟨nm.toArray⟩, .slice fa t.length fc]) (Src_new2 Tryz.underlying101 (heap_alloc_new w3 _) rfl rfl) rfl N3.out N4.out N5.out ?_)
      rintro v4 w4 ho4 hg4 - -
      have b4 : Below w2.heap.size w2 w4 := B3.out.trans ((((Upd.refl (fun k => v3.ownBlock = some k) w3).alloc _).grown hg4 (fun k hk _ => hk)).below (fun k hk _ => (O3.out.lt k hk).1) B3.out.size)
      have B4 := Lib.hid b4
      have O4 := Lib.hid (show Own w4 w2.heap.size 116 2 v4 (i + 1) (fcells (M.take i) ++ [.string ⟨nm.toArray⟩, .slice fa t.length fc]) from ho4)
      obtain ⟨-, x1, -, -, -, -⟩ := rf_of ((b4.block _ (lt_of_block RF2.out)).trans RF2.out)
      rw [HNC.out] at x1
      have S5 := Lib.hid (Src_drop (SO.out.below B4.out) HL.out PL (n - i) (c - i) rfl)
      clear ho4 hg4 b4 y0 y1
      go_wp2_with (at_builtin; refine wpList_append rfl (.tmp 31) (.tmp 37) 101 101 rfl w2.heap.size 116 (.agg #[.string ⟨#[]⟩, .slice none 0 0]) 2 40 Tryz.underlying101 infoFile rfl (v := v4) (n := i + 1) (xs := fcells (M.take i) ++ [.string ⟨nm.toArray⟩, .slice fa t.length fc]) O4.out rfl (xv := .slice (some ⟨g, i * 2, none⟩) (n - i) (c - i)) (m := n - i) (news := fcells (M.drop i)) S5.out rfl N6.out N7.out B4.out.size ?_)
      rintro v5 w5 ho5 hg5 - -
      have b5 : Below w2.heap.size w2 w5 := B4.out.grown hg5 B4.out.size (fun k hk => (O4.out.lt k hk).1)
      obtain ⟨a5, c5, rfl, -, -, -⟩ := ho5.shape'
      have ST := Lib.hid (FIN.out _ w5 ho5 b5)
      obtain ⟨-, z5, -, -, -, -⟩ := rf_of ((b5.block _ (lt_of_block RF2.out)).trans RF2.out)
      have f5 := frozen_of_row ((b5.block _ (lt_of_block RF2.out)).trans RF2.out) 1
      clear ho5 hg5 b5 FIN S5 x1
      go_wp2
      go_end0
      exact ⟨rfl, ST.out⟩
end Go.Proofs.YtnbpkignkfabkaaGreatDoor
