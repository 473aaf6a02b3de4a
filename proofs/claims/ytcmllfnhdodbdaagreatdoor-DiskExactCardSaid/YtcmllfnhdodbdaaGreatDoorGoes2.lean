/- posternlaw9.goes. -/
import Derived.Test.YtcmllfnhdodbdaaGreatDoorLoadP
import Derived.Test.YtcmllfnhdodbdaaGreatDoorTells
import Derived.Test.YtcmllfnhdodbdaaGreatDoorLoad
import Derived.Laws.Concat
import Derived.BigQuiet
import Derived.Deep.CutBlock
import Derived.Deep.DeepCutAuto
/- Load, in whatever order files come; of a disk's own files. -/
namespace Go.Proofs.YtcmllfnhdodbdaaGreatDoor
set_option linter.unusedVariables false
set_option linter.unusedSimpArgs false
open Go.RowKit
theorem setC_perm {C : Con} {nm b : List UInt8} (h : hasC C nm = false) : (setC C nm b).Perm ((nm, b) :: C) := by
  unfold setC
  rw [delC_no h]
  exact insC_perm _ _
theorem ldC_some (room : Nat) : ∀ (l C : Con), SortedC C → (∀ p ∈ l, nmOk p.1 = true) → (l.map (·.1)).Nodup → (∀ p ∈ l, hasC C p.1 = false) → sumC C + sumC l ≤ room → ∃ C', ldC room l C = some C' ∧ C'.Perm (C ++ l)
  | [], C, _, _, _, _, _ => ⟨C, rfl, by rw [List.append_nil]⟩
  | p :: r, C, hs, hn, hd, hc, hr => by
    have h1 := hc p (by simp)
    have h2 := hn p (by simp)
    have h3 : sumC (p :: r) = p.2.length + sumC r := rfl
    rw [h3] at hr
    have s := sum_set hs p.1 p.2
    rw [bytC_no h1] at s
    simp only [List.length_nil, Nat.add_zero] at s
    rw [List.map_cons, List.nodup_cons] at hd
    obtain ⟨C', e, hp⟩ := ldC_some room r (setC C p.1 p.2) (sorted_setC _ _ hs) (fun q hq => hn q (List.mem_cons_of_mem _ hq)) hd.2 (fun q hq => by
      rw [hasC_setC, hc q (List.mem_cons_of_mem _ hq), Bool.or_false]
      have : q.1 ≠ p.1 := fun e => hd.1 (List.mem_map.2 ⟨q, hq, e⟩)
      simpa using this) (by rw [s]; omega)
    refine ⟨C', ?_, ?_⟩
    · unfold ldC
      rw [if_neg]
      · exact e
      · rintro (h | h | h)
        · rw [h1] at h; cases h
        · rw [h2] at h; cases h
        · omega
    · refine hp.trans ?_
      have h9 := setC_perm (b := p.2) h1
      exact (h9.append_right r).trans (by rw [List.cons_append]; exact List.perm_middle.symm)
theorem ldC_inv (room : Nat) : ∀ (l C C' : Con), ldC room l C = some C' → SortedC C → sumC C ≤ room → (∀ p ∈ l, nmOk p.1 = true) ∧ (l.map (·.1)).Nodup ∧ (∀ p ∈ l, hasC C p.1 = false) ∧ sumC C + sumC l ≤ room
  | [], C, C', _, _, h => ⟨(fun _ h => by cases h), List.nodup_nil, (fun _ h => by cases h), by show sumC C + 0 ≤ room; omega⟩
  | p :: r, C, C', h, hs, hr => by
    unfold ldC at h
    split at h
    · cases h
    · rename_i hn
      have a1 : hasC C p.1 = false := by cases e : hasC C p.1; rfl; exact absurd (.inl e) hn
      have a2 : nmOk p.1 = true := by cases e : nmOk p.1; exact absurd (.inr (.inl e)) hn; rfl
      have a3 : sumC C + p.2.length ≤ room := by by_cases k : room < sumC C + p.2.length; exact absurd (.inr (.inr k)) hn; omega
      have s := sum_set hs p.1 p.2
      rw [bytC_no a1] at s
      simp only [List.length_nil, Nat.add_zero] at s
      obtain ⟨r1, r2, r3, r4⟩ := ldC_inv room r _ _ h (sorted_setC _ _ hs) (by omega)
      refine ⟨?_, ?_, ?_, ?_⟩
      · intro q hq
        rcases List.mem_cons.1 hq with rfl | hq
        · exact a2
        · exact r1 q hq
      · rw [List.map_cons, List.nodup_cons]
        refine ⟨fun hm => ?_, r2⟩
        obtain ⟨q, hq, e⟩ := List.mem_map.1 hm
        have := r3 q hq
        rw [hasC_setC] at this
        have e' : (q.1 == p.1) = true := by simpa using e
        rw [e', Bool.true_or] at this
        cases this
      · intro q hq
        rcases List.mem_cons.1 hq with rfl | hq
        · exact a1
        · have := r3 q hq
          rw [hasC_setC, Bool.or_eq_false_iff] at this
          exact this.2
      · have h3 : sumC (p :: r) = p.2.length + sumC r := rfl
        rw [h3]; omega
theorem ldC_perm (room : Nat) {l m : Con} (h : l.Perm m) : ldC room l [] = ldC room m [] := by
  have main : ∀ {l m : Con}, l.Perm m → ∀ C, ldC room l [] = some C → ldC room m [] = some C := by
    intro l m h C hC
    obtain ⟨r1, r2, r3, r4⟩ := ldC_inv room l [] C hC List.Pairwise.nil (Nat.zero_le _)
    obtain ⟨C2, e2, p2⟩ := ldC_some room m [] List.Pairwise.nil (fun p hp => r1 p (h.mem_iff.2 hp)) ((h.map _).nodup_iff.1 r2) (fun _ _ => rfl) (by rw [← sumC_perm h]; exact r4)
    obtain ⟨C1, e1, p1⟩ := ldC_some room l [] List.Pairwise.nil r1 r2 (fun _ _ => rfl) r4
    rw [hC] at e1
    cases e1
    have s1 := (ldC_ok room l [] C hC List.Pairwise.nil (fun _ h => by cases h) (Nat.zero_le _)).1
    have s2 := (ldC_ok room m [] C2 e2 List.Pairwise.nil (fun _ h => by cases h) (Nat.zero_le _)).1
    rw [e2, SortedC.perm s2 s1 ((p2.trans (by simpa using h.symm)).trans p1.symm)]
  cases e : ldC room l [] with
  | some C => exact (main h C e).symm
  | none =>
    cases e2 : ldC room m [] with
    | none => rfl
    | some C => rw [main h.symm C e2] at e; cases e
theorem loadR_perm (room : Int) {l m : Con} (h : l.Perm m) : loadR room l = loadR room m := by
  unfold loadR
  rw [ldC_perm _ h, h.length_eq]
/-- A disk's own files. -/
theorem loadR_self {s : DS} (h : s.ok) : loadR (s.room : Int) s.C = (0, some { DS.new s.room with C := s.C }) := by
  have h1 := h.r1; have h2 := h.r2; have h3 := h.len
  unfold loadR
  rw [if_neg (by omega), if_neg (by omega), Int.toNat_natCast]
  obtain ⟨C, e, p⟩ := ldC_some s.room s.C [] List.Pairwise.nil h.nm h.so.nodup (fun _ _ => rfl) (by have := h.sum; show 0 + sumC s.C ≤ s.room; omega)
  have s1 := (ldC_ok _ _ _ _ e List.Pairwise.nil (fun _ h => by cases h) (Nat.zero_le _)).1
  rw [e, SortedC.perm s1 h.so (by simpa using p)]
/-- What a Load that is OK has taken. -/
theorem loadR_took {room : Int} {l : Con} {s : DS} {e : Int} (h : loadR room l = (e, some s)) : s.C.Perm l ∧ (l.map (·.1)).Nodup ∧ l.length = s.C.length := by
  obtain ⟨_, _, _, _, _, _, _, hC, _, _⟩ := loadR_ok h
  obtain ⟨r1, r2, r3, r4⟩ := ldC_inv _ _ _ _ hC List.Pairwise.nil (Nat.zero_le _)
  obtain ⟨C1, e1, p1⟩ := ldC_some _ l [] List.Pairwise.nil r1 r2 (fun _ _ => rfl) r4
  rw [hC] at e1
  cases e1
  have p1' : s.C.Perm l := by simpa using p1
  exact ⟨p1', r2, p1'.length_eq.symm⟩
end Go.Proofs.YtcmllfnhdodbdaaGreatDoor
/- posternlaw9: goes, kept. -/
namespace Go.Proofs.YtcmllfnhdodbdaaGreatDoor
set_option linter.unusedVariables false
set_option linter.unusedSimpArgs false
open Go.RowKit Go.Maps
/-- Files in rows that lie from Bd up to Be. -/
def FilZ (w : World) (Bd Be : Nat) (a : Option Addr) (C : Con) : Prop := ∃ M c, Fio w Bd (.slice a C.length c) M ∧ conF M = C ∧ (∀ k, (Value.slice a C.length c).ownBlock = some k → k < Be) ∧ ∀ f ∈ M, ∀ k, f.val.ownBlock = some k → k < Be
section
variable {w w' : World} {Bd Be : Nat} {a : Option Addr} {C : Con}
theorem FilB.z (h : FilB w Bd a C) : FilZ w Bd w.heap.size a C := by
  obtain ⟨M, c, hf, hM⟩ := h
  exact ⟨M, c, hf, hM, fun k hk => (hf.own.lt k hk).2, fun f hm k hk => ((hf.byt f hm).2.lt k hk).2⟩
theorem FilZ.b (h : FilZ w Bd Be a C) : FilB w Bd a C := by
  obtain ⟨M, c, hf, hM, _, _⟩ := h
  exact ⟨M, c, hf, hM⟩
theorem FilZ.upd {S : Nat → Prop} (h : FilZ w Bd Be a C) (hu : Upd S w w') (hs : ∀ k, S k → k < Bd ∨ Be ≤ k) : FilZ w' Bd Be a C := by
  obtain ⟨M, c, hf, hM, h1, h2⟩ := h
  refine ⟨M, c, ⟨hf.own.upd hu (fun k hk s => ?_), fun f hm => ⟨(hf.byt f hm).1, (hf.byt f hm).2.upd hu (fun k hk s => ?_)⟩, hf.sep, hf.pair⟩, hM, h1, h2⟩
  · have := h1 k hk; have := (hf.own.lt k hk).1; rcases hs k s with h | h <;> omega
  · have := h2 f hm k hk; have := ((hf.byt f hm).2.lt k hk).1; rcases hs k s with h | h <;> omega
theorem FilZ.below (h : FilZ w Bd Be a C) (hb : Below w.heap.size w w') : FilZ w' Bd Be a C := h.upd (Upd.ofBelow hb) (fun _ s => s.elim)
end
set_option maxRecDepth 100000 in
set_option maxHeartbeats 4000000 in
theorem kept9_calls (was whole now : Con) (pa pb pc : Option Addr) (ca cb cc : Nat) (d on n kp keep : Int) (nm tn b : List UInt8) (ba fa : Option Addr) (bc fc fn : Nat) (w : World) (hx : Fil w pa was) (hy : Fil w pb whole) (hz : Fil w pc now) (hlx : was.length ≤ 140737488355328) (hly : whole.length ≤ 140737488355328) (hlz : now.length ≤ 140737488355328)
    (hsx : ∀ p ∈ was, p.2.length ≤ 140737488355328) (hsy : ∀ p ∈ whole, p.2.length ≤ 140737488355328) (hb : b.length ≤ 140737488351232) (hbc : b.length ≤ bc) (hyb : Byt w ba b) (hm : KeptP was whole now d nm b keep) :
    Calls Tryz.prog 18 #[.slice pa was.length ca, .slice pb whole.length cb, .slice pc now.length cc, .agg #[.int .i64 d, .int .i64 on, .string ⟨nm.toArray⟩, .string ⟨tn.toArray⟩, .slice ba b.length bc, .int .i64 n, .int .i64 kp, .slice fa fn fc], .int .i64 keep] w fun r w' => r = .returned (.bool true) ∧ Below w.heap.size w w' := by
  obtain ⟨w0, hw0⟩ : ∃ q, w.alloc (.cells #[.int .i64 d, .int .i64 on, .string ⟨nm.toArray⟩, .string ⟨tn.toArray⟩, .slice ba b.length bc, .int .i64 n, .int .i64 kp, .slice fa fn fc] 36) = q := ⟨_, rfl⟩
  have b0 : Below w.heap.size w w0 := by rw [← hw0]; exact (Below.refl _ _).alloc (Nat.le_refl _) _
  have blk : w0.heap[w.heap.size]? = some (.cells #[.int .i64 d, .int .i64 on, .string ⟨nm.toArray⟩, .string ⟨tn.toArray⟩, .slice ba b.length bc, .int .i64 n, .int .i64 kp, .slice fa fn fc] 36 (0, 0)) := by rw [← hw0]; exact heap_alloc_new w _
  obtain ⟨q0, -, q2, -, q4, -, -, -⟩ := q9_of blk
  have X0 := Lib.hid (hx.below b0); have Y0 := Lib.hid (hy.below b0); have Z0 := Lib.hid (hz.below b0); have W0 := Lib.hid hw0; have B0 := Lib.hid b0; have YB := Lib.hid (hyb.below b0)
  have SX := Lib.hid hsx; have SY := Lib.hid hsy
  obtain ⟨k1, k2, k3⟩ := hm
  clear hx hy hz b0 blk hw0 hsx hsy hyb
  by_cases e1 : d = 1
  · subst e1
    obtain ⟨ho, hh, hbt⟩ := k3 rfl
    clear k1 k2 k3
    have F1 := Lib.hid (file9_calls was pa ca nm w0 X0.out hlx)
    have F2 := Lib.hid (file9_calls now pc cc nm w0 Z0.out hlz)
    unfold FileP at F1 F2
    obtain ⟨h1, e1⟩ : ∃ q, hasC was nm = q := ⟨_, rfl⟩
    obtain ⟨L, e2⟩ : ∃ q, bytC was nm = q := ⟨_, rfl⟩
    obtain ⟨h2, e3⟩ : ∃ q, hasC now nm = q := ⟨_, rfl⟩
    rw [e1, e2] at F1
    rw [e1, e3] at hh
    rw [e2] at hbt
    obtain ⟨kk, hkk, hkl⟩ : ∃ kk : Nat, max 0 (min keep (b.length : Int)) = kk ∧ kk ≤ b.length := ⟨(max 0 (min keep (b.length : Int))).toNat, by omega, by omega⟩
    obtain ⟨p, hp⟩ : ∃ p, keptB b keep = p := ⟨_, rfl⟩
    have hp2 : b.take kk = p := by rw [← hp]; unfold keptB; rw [hkk, Int.toNat_natCast]
    obtain rfl : kk = p.length := by rw [← hp2, List.length_take]; omega
    obtain ⟨q, hq⟩ : ∃ q, L ++ p = q := ⟨_, rfl⟩
    rw [hp, hq] at hbt
    rw [hbt, e3] at F2
    have OQ := Lib.hid (fun m : Nat => Calls.quiet_of (n := m) (others9_calls was now pa pc ca cc nm (w0.drewN m) (X0.out.below (bel_drewN (Below.refl _ _) m)) (Z0.out.below (bel_drewN (Below.refl _ _) m)) hlx hlz ho))
    have HH := Lib.hid hh; have HP2 := Lib.hid hp2; have HQ := Lib.hid hq; have HKK := Lib.hid hkk; have E2 := Lib.hid e2; have HBT := Lib.hid hbt
    clear ho hh hbt e1 e2 e3 hp hp2 hq hkk
    go_enter Tryz.func18, Tryz.ntmps18
    go_wp2_with fail
    rw [W0.out]
    refine F1.out.mono ?_
    rintro r w5 ⟨fa1, fc1, rfl, fb1, -, rfl⟩
    go_wp2_with fail
    refine F2.out.mono ?_
    rintro r w6 ⟨fa2, fc2, rfl, fb2, -, rfl⟩
    have FB1 := Lib.hid fb1; have FB2 := Lib.hid fb2
    clear fb1 fb2 F1 F2
    go_upto_if 43 with fail
    go_cut [15] (fun v wx => v = .int .i64 (max 0 keep) ∧ w0 = wx)
    case first =>
      by_cases c : keep < 0
      · have t2 : decide (keep < 0) = true := decide_eq_true c
        go_wp2
        go_meet
        case rel => exact ⟨congrArg (Value.int .i64) (by omega), rfl⟩
      · have t2 : decide (keep < 0) = false := decide_eq_false c
        go_wp2
        go_meet
        case rel => exact ⟨congrArg (Value.int .i64) (by omega), rfl⟩
    case rest =>
      obtain ⟨rfl, rfl⟩ := hcut
      obtain ⟨mk, hmk⟩ : ∃ mk, max 0 keep = mk := ⟨_, rfl⟩
      have MK := Lib.hid hmk
      rw [hmk]
      clear hmk
      go_upto_if 48 with fail
      go_cut [15] (fun v wx => v = .int .i64 (p.length : Nat) ∧ w0 = wx)
      case first =>
        by_cases c : (b.length : Int) < mk
        · have t2 : decide ((b.length : Int) < mk) = true := decide_eq_true c
          go_wp2
          go_meet
          case rel => exact ⟨congrArg (Value.int .i64) (by have h1 := MK.out; have h2 := HKK.out; omega), rfl⟩
        · have t2 : decide ((b.length : Int) < mk) = false := decide_eq_false c
          go_wp2
          go_meet
          case rel => exact ⟨congrArg (Value.int .i64) (by have h1 := MK.out; have h2 := HKK.out; omega), rfl⟩
      case rest =>
        obtain ⟨rfl, rfl⟩ := hcut
        have cv1 : ∀ k, (convert 33 9 (.slice fa2 q.length fc2)).run Tryz.prog (w0.drewN k) = .ok (.string ⟨q.toArray⟩) (w0.drewN k) := fun k => conv_bytes Tryz.underlying33 Tryz.underlying5 Tryz.underlying9 (FB2.out.drewN k)
        have cv2 : ∀ k, (convert 33 9 (.slice fa1 L.length fc1)).run Tryz.prog (w0.drewN k) = .ok (.string ⟨L.toArray⟩) (w0.drewN k) := fun k => conv_bytes Tryz.underlying33 Tryz.underlying5 Tryz.underlying9 (FB1.out.drewN k)
        have YP : Byt w0 ba p := by rw [← HP2.out]; exact YB.out.take _
        have cv3 : ∀ k, (convert 33 9 (.slice ba p.length bc)).run Tryz.prog (w0.drewN k) = .ok (.string ⟨p.toArray⟩) (w0.drewN k) := fun k => conv_bytes Tryz.underlying33 Tryz.underlying5 Tryz.underlying9 (YP.drewN k)
        have LL : L.length ≤ 140737488355328 := by
          rw [← E2.out]
          unfold bytC
          cases e9 : was.find? (fun p => p.1 == nm) with
          | none => exact Nat.zero_le _
          | some u => exact SX.out u (List.mem_of_find?_eq_some e9)
        have xa : ∀ k, (Op.stringOp .add ⟨L.toArray⟩ ⟨p.toArray⟩).run Tryz.prog (w0.drewN k) = .ok (.string ⟨q.toArray⟩) (w0.drewN k) := fun k => by
          rw [run_string_add_sum _ _ _ (by show L.toArray.size + p.toArray.size ≤ _; rw [List.size_toArray, List.size_toArray]; omega), ByteArray.mk_append_mk, HQ.out]
        have t5 : (q == q) = true := beq_self_eq_true q
        have j1 : (p.length : Int) ≤ (bc : Int) := by omega
        clear YP
        cases h1 with
        | true =>
          obtain rfl : h2 = true := HH.out.2 (.inl rfl)
          clear HH
          go_upto_region 12 with fail
          go_quiet ((go_at_call 21; exact OQ.out _))
          clear cv1 cv2 cv3 xa
          go_wp2
          go_ret
          exact ⟨by first | rfl | (simp; done) | (simp; rw [ByteArray.mk_append_mk, HQ.out]; simp), bel_drewN B0.out _⟩
        | false =>
          by_cases c : 0 < keep
          · have t2 : decide (0 < keep) = true := decide_eq_true c
            obtain rfl : h2 = true := HH.out.2 (.inr c)
            clear HH
            go_upto_region 12 with fail
            go_quiet ((go_at_call 21; exact OQ.out _))
            clear cv1 cv2 cv3 xa
            go_wp2
            go_ret
            exact ⟨by first | rfl | (simp; done) | (simp; rw [ByteArray.mk_append_mk, HQ.out]; simp), bel_drewN B0.out _⟩
          · have t2 : decide (0 < keep) = false := decide_eq_false c
            obtain rfl : h2 = false := by
              cases h2 with
              | false => rfl
              | true => rcases HH.out.1 rfl with h | h; cases h; exact absurd h c
            clear HH
            go_upto_region 12 with fail
            go_quiet ((go_at_call 21; exact OQ.out _))
            clear cv1 cv2 cv3 xa
            go_wp2
            go_ret
            exact ⟨by first | rfl | (simp; done) | (simp; rw [ByteArray.mk_append_mk, HQ.out]; simp), bel_drewN B0.out _⟩
  · have t1 : (d != 1) = true := bne_iff_ne.2 e1
    by_cases c : 0 < keep
    · have t2 : decide (0 < keep) = true := decide_eq_true c
      have e := k1 e1 c
      subst e
      have EC := Lib.hid (EqFiles_same now pc pb cc cb w0 Z0.out Y0.out hlz SY.out)
      clear k1 k2 k3
      go_enter Tryz.func18, Tryz.ntmps18
      go_wp2_with fail
      rw [W0.out]
      refine EC.out.mono ?_
      rintro r w5 ⟨rfl, b5⟩
      have B5 := Lib.hid (B0.out.trans (b5.mono B0.out.size))
      clear b5
      go_wp2
      go_ret
      exact ⟨rfl, B5.out⟩
    · have t2 : decide (0 < keep) = false := decide_eq_false c
      have e := k2 e1 c
      subst e
      have EC := Lib.hid (EqFiles_same now pc pa cc ca w0 Z0.out X0.out hlz SX.out)
      clear k1 k2 k3
      go_enter Tryz.func18, Tryz.ntmps18
      go_wp2_with fail
      rw [W0.out]
      refine EC.out.mono ?_
      rintro r w5 ⟨rfl, b5⟩
      have B5 := Lib.hid (B0.out.trans (b5.mono B0.out.size))
      clear b5
      go_wp2
      go_ret
      exact ⟨rfl, B5.out⟩
end Go.Proofs.YtcmllfnhdodbdaaGreatDoor
namespace Go.Proofs.YtcmllfnhdodbdaaGreatDoor
set_option linter.unusedVariables false
set_option linter.unusedSimpArgs false
open Go.RowKit Go.Maps
/-- Two disks beside one another. -/
structure Pair (w : World) (B1 B2 db1 db2 : Nat) (F1 F2 : Nat → Prop) (s1 s2 : DS) : Prop where
  d1 : DkS w B1 db1 F1 s1
  d2 : DkS w B2 db2 F2 s2
  dj : ∀ k, F1 k → ¬ F2 k
section
variable {w w' : World} {B1 B2 db1 db2 : Nat} {F1 F2 : Nat → Prop} {s1 s2 t : DS}
theorem Pair.symm (h : Pair w B1 B2 db1 db2 F1 F2 s1 s2) : Pair w B2 B1 db2 db1 F2 F1 s2 s1 := ⟨h.d2, h.d1, fun k h2 h1 => h.dj k h1 h2⟩
theorem Pair.below (h : Pair w B1 B2 db1 db2 F1 F2 s1 s2) (hb : Below w.heap.size w w') : Pair w' B1 B2 db1 db2 F1 F2 s1 s2 := ⟨h.d1.below hb, h.d2.below hb, h.dj⟩
theorem Pair.step (h : Pair w B1 B2 db1 db2 F1 F2 s1 s2) (hs : DkStep w w' B1 db1 F1 t) : ∃ F', Pair w' B1 B2 db1 db2 F' F2 t s2 ∧ Upd F1 w w' ∧ Below B1 w w' ∧ ∀ k, F' k → F1 k ∨ w.heap.size ≤ k := by
  obtain ⟨F', h1, h2, h3, h4⟩ := hs
  exact ⟨F', ⟨h1, h.d2.upd h2 h.dj, fun k hk hf => (h4 k hk).elim (fun h9 => h.dj k h9 hf) (fun h9 => by have := (h.d2.fl k hf).2; omega)⟩, h2, h3, h4⟩
theorem Pair.read (h : Pair w B1 B2 db1 db2 F1 F2 s1 s2) (hd : DkS w' B1 db1 F1 s1) (hu : Upd (fun i => i = db1) w w') : Pair w' B1 B2 db1 db2 F1 F2 s1 s2 :=
  ⟨hd, h.d2.upd hu (fun k hk hf => h.dj k (by rw [hk]; exact h.d1.dk.at_) hf), h.dj⟩
end
theorem Upd.more {F S : Nat → Prop} {w a b : World} (h : Upd F w a) (k : Upd S a b) (hs : ∀ i, S i → F i ∨ w.heap.size ≤ i) : Upd F w b :=
  h.trans k (fun _ s _ => s) (fun i hi hl => (hs i hi).elim id (fun h9 => absurd h9 (Nat.not_le.2 hl)))
/-- While the power is off. -/
structure GoS (wS : World) (F0 : Nat → Prop) (w0 wr : World) (db Bd Be : Nat) (s : DS) (a : Option Addr) (F : Nat → Prop) : Prop where
  dk : DkS wr w0.heap.size db F s
  fil : FilZ wr Bd Be a s.C
  bel : Below w0.heap.size w0 wr
  ff : ∀ k, F k → k < Bd ∨ Be ≤ k
  be : Be ≤ wr.heap.size
  dbl : db < Bd
  up : Upd F0 wS wr
  f0 : ∀ k, F k → F0 k ∨ wS.heap.size ≤ k
section
variable {wS : World} {F0 : Nat → Prop} {w0 wr w' : World} {db Bd Be : Nat} {s t : DS} {a : Option Addr} {F : Nat → Prop}
theorem GoS.step (h : GoS wS F0 w0 wr db Bd Be s a F) (hs : DkStep wr w' w0.heap.size db F t) (hC : t.C = s.C) : ∃ F', GoS wS F0 w0 w' db Bd Be t a F' := by
  obtain ⟨F', h1, h2, h3, h4⟩ := hs
  exact ⟨F', h1, by rw [hC]; exact h.fil.upd h2 h.ff, h.bel.trans h3, fun k hk => (h4 k hk).elim (h.ff k) (fun h9 => .inr (Nat.le_trans h.be h9)), Nat.le_trans h.be h2.size, h.dbl, h.up.trans h2 (fun _ s _ => s) (fun k hk hl => (h.f0 k hk).elim id (fun h9 => absurd h9 (by omega))), fun k hk => (h4 k hk).elim (h.f0 k) (fun h9 => .inr (Nat.le_trans h.up.size h9))⟩
theorem GoS.read (h : GoS wS F0 w0 wr db Bd Be s a F) (hd : DkS w' w0.heap.size db F s) (hu : Upd (fun i => i = db) wr w') (hb : Below w0.heap.size wr w') : GoS wS F0 w0 w' db Bd Be s a F :=
  ⟨hd, h.fil.upd hu (fun k hk => .inl (by rw [hk]; exact h.dbl)), h.bel.trans hb, h.ff, Nat.le_trans h.be hu.size, h.dbl, h.up.trans hu (fun _ s _ => s) (fun k hk hl => by rw [hk]; exact (h.f0 db h.dk.dk.at_).elim id (fun h9 => by rw [hk] at hl; exact absurd h9 (by omega))), h.f0⟩
theorem GoS.below (h : GoS wS F0 w0 wr db Bd Be s a F) (hb : Below wr.heap.size wr w') : GoS wS F0 w0 w' db Bd Be s a F :=
  ⟨h.dk.below hb, h.fil.below hb, h.bel.trans (hb.mono h.dk.bw), h.ff, Nat.le_trans h.be hb.size, h.dbl, h.up.trans (Upd.ofBelow hb) (fun _ s _ => s) (fun _ s _ => s.elim), h.f0⟩
end
theorem may_off {s : DS} (h : s.off = true) (t : Bool) (Ns : List (List UInt8)) : s.may t Ns = 94 := by unfold DS.may; rw [if_pos h]
theorem doD_none {s : DS} {nm tn b : List UInt8} {d n : Int} (h : ¬ (d = 1 ∨ d = 2 ∨ d = 3 ∨ d = 4)) : doD s d nm tn b n = (0, false, s) := by
  unfold doD
  rw [if_neg (fun e => h (.inl e)), if_neg (fun e => h (.inr (.inl e))), if_neg (fun e => h (.inr (.inr (.inl e)))), if_neg (fun e => h (.inr (.inr (.inr e))))]
/-- On again, beside a disk that was loaded with its files. -/
structure GoT (wS : World) (F0 : Nat → Prop) (w0 wr : World) (db dc B2 : Nat) (i : Nat) (sc sd : DS) (Fd Fc : Nat → Prop) : Prop where
  pr : Pair wr w0.heap.size B2 db dc Fd Fc sd sc
  lk : Like sc sd
  wc : sc.writes ≤ i
  wd : sd.writes ≤ 1000 + i
  bel : Below w0.heap.size w0 wr
  b2 : w0.heap.size ≤ B2
  up : Upd F0 wS wr
  f0 : ∀ k, Fd k → F0 k ∨ wS.heap.size ≤ k
  f1 : ∀ k, Fc k → wS.heap.size ≤ k
theorem doD_wle {s : DS} {nm tn b : List UInt8} {d n : Int} (h : Calm s) : (doD s d nm tn b n).2.2.writes ≤ s.writes + 1 := by
  have := doD_writes (d := d) (nm := nm) (tn := tn) (b := b) (n := n) h
  split at this <;> omega
set_option maxRecDepth 100000 in
set_option maxHeartbeats 8000000 in
theorem goes9_calls (db R : Nat) (F : Nat → Prop) (s : DS) (w0 w : World) (pa : Option Addr) (pk : Nat) (ops : List O9) (h : DkS w w0.heap.size db F s) (ho : s.off = true) (har : s.armed = 0) (hrm : s.room = R) (hwr : s.writes ≤ 1000) (hop : Ops9 w0 pa ops) (hl : ops.length ≤ 140737488355328) (hbel : Below w0.heap.size w0 w) :
    Calls Tryz.prog 19 #[.pointer (some ⟨db, 0, none⟩), .int .i64 (R : Int), .slice pa ops.length pk] w fun r w' => r = .returned (.bool true) ∧ Below w0.heap.size w0 w' ∧ Upd F w w' := by
  have OP := Lib.hid hop; have OFF := Lib.hid ho; have ARM := Lib.hid har; have RM := Lib.hid hrm
  have OK := Lib.hid h.dk.ok
  have CL64 := h.dk.ok.len
  have FC := Lib.hid (Files_s h)
  have H0 := Lib.hid h; have BEL := Lib.hid hbel
  clear hop ho har hrm h hbel
  obtain ⟨C, hC⟩ : ∃ C, s.C = C := ⟨_, rfl⟩
  have CE := Lib.hid hC
  rw [hC] at CL64
  clear hC
  go_enter Tryz.func19, Tryz.ntmps19
  go_wp2_with fail
  refine FC.out.mono ?_
  rintro r w1 ⟨a7, c7, rfl, -, f1, d1, u1', b1⟩
  have G1 := Lib.hid (show GoS w F w0 w1 db w.heap.size w1.heap.size s a7 F from ⟨d1, f1.z, BEL.out.trans b1, fun k hk => .inl (H0.out.fl k hk).2, Nat.le_refl _, H0.out.dk.lt, u1'.mono (fun i hi _ => by rw [hi]; exact H0.out.dk.at_), fun k hk => .inl hk⟩)
  have WW := Lib.hid b1
  have WR := Lib.hid (show Calls Tryz.prog 14 #[.pointer (some ⟨db, 0, none⟩)] w1 fun r w' => r = .returned (.int .i64 ((s.writes : Nat) : Int)) ∧ DkStep w1 w' w0.heap.size db F s from (Writes_dk d1.dk).mono fun _ _ hr => ⟨hr.1, d1.step hr.2⟩)
  obtain ⟨Bd, hBd⟩ : ∃ q, w.heap.size = q := ⟨_, rfl⟩
  obtain ⟨Be, hBe⟩ : ∃ q, w1.heap.size = q := ⟨_, rfl⟩
  rw [hBd, hBe] at G1
  rw [CE.out]
  clear f1 d1 u1' b1 FC hBd hBe
  go_wp2_with fail
  refine WR.out.mono ?_
  rintro r w2 ⟨rfl, st2⟩
  obtain ⟨F2, g2⟩ := G1.out.step st2 rfl
  have G2 := Lib.hid g2
  obtain ⟨W, hW⟩ : ∃ W, s.writes = W := ⟨_, rfl⟩
  have WE := Lib.hid hW
  rw [hW] at hwr ⊢
  clear st2 g2 WR G1 hW
  go_upto_block 0 with fail
  go_cut [] (fun wr => ∃ Fx, GoS w F w0 wr db Bd Be s a7 Fx)
  case first =>
    go_wp2
    go_loopw [9, 10, 11] (fun vi _ _ wr => ∃ (i : Nat) (Fx : Nat → Prop), vi = .int .i64 i ∧ i ≤ ops.length ∧ GoS w F w0 wr db Bd Be s a7 Fx) (fun vi _ _ _ => ops.length - (intOf vi).toNat)
    case atStart => exact ⟨0, F2, rfl, Nat.zero_le _, G2.out⟩
    case round =>
      clear G2
      obtain ⟨i, F3, rfl, hi, hg⟩ := hrel
      have OW := OP.out.below hg.bel
      have GG := Lib.hid hg
      clear hg
      by_cases c1 : i < ops.length
      · have t1 : decide ((i : Int) < (ops.length : Int)) = true := decide_eq_true (by omega)
        have t1' : decide (i < ops.length) = true := decide_eq_true c1
        by_cases c2 : i < 20
        · have t2 : decide ((i : Int) < 20) = true := decide_eq_true (by omega)
          have t2' : decide (i < 20) = true := decide_eq_true c2
          have i2 : (i : Int) < (ops.length : Int) := by omega
          obtain ⟨hat, ab, ao, rfl, h0, h1, h2, h3, h4, h5, h6, h7⟩ := OW i c1
          obtain ⟨o, ho⟩ : ∃ o, ops[i] = o := ⟨_, rfl⟩
          rw [ho] at hat h0 h1 h2 h3 h4 h5 h6 h7
          obtain ⟨d, on, nm, tn, ba, b, bc, n, keep, fa, fl, fc⟩ := o
          dsimp only at h0 h1 h2 h3 h4 h5 h6 h7
          have DC := do9_calls w0.heap.size db F3 s d on n keep nm tn b ba fa bc fc fl.length wr GG.out.dk hat.byt hat.bl hat.nl hat.tl (by have h9 := WE.out; omega)
          clear hat ho OW
          by_cases dd : d = 1 ∨ d = 2 ∨ d = 3 ∨ d = 4
          · rw [doD_dark OFF.out dd] at DC
            have DCH := Lib.hid DC
            clear DC dd
            go_wp2_with fail
            refine DCH.out.mono ?_
            rintro r w4 ⟨rfl, st4⟩
            obtain ⟨F4, g4⟩ := GG.out.step st4 rfl
            have G4 := Lib.hid g4
            clear st4 g4 DCH h0 h1 h2 h3 h4 h5 h6 h7
            go_wp2_with (go_at_call 9; refine (num9_calls _ _).mono ?_; rintro r wx ⟨rfl, rfl⟩)
            go_roundw
            case rel => exact ⟨i + 1, F4, by go_num, by omega, G4.out⟩
            case measure => simp [intOf]; omega
          · rw [doD_none dd] at DC
            have DCH := Lib.hid DC
            clear DC dd
            go_wp2_with fail
            refine DCH.out.mono ?_
            rintro r w4 ⟨rfl, st4⟩
            obtain ⟨F4, g4⟩ := GG.out.step st4 rfl
            have G4 := Lib.hid g4
            clear st4 g4 DCH h0 h1 h2 h3 h4 h5 h6 h7
            go_wp2_with (go_at_call 9; refine (num9_calls _ _).mono ?_; rintro r wx ⟨rfl, rfl⟩)
            go_roundw
            case rel => exact ⟨i + 1, F4, by go_num, by omega, G4.out⟩
            case measure => simp [intOf]; omega
        · have t2 : decide ((i : Int) < 20) = false := decide_eq_false (by omega)
          have t2' : decide (i < 20) = false := decide_eq_false c2
          go_wp2
          go_meet
          case rel => exact ⟨F3, GG.out⟩
      · have t1 : decide ((i : Int) < (ops.length : Int)) = false := decide_eq_false (by omega)
        have t1' : decide (i < ops.length) = false := decide_eq_false c1
        go_wp2
        go_meet
        case rel => exact ⟨F3, GG.out⟩
  case rest =>
    clear G2
    obtain ⟨wA, rfl⟩ : ∃ q, q = wc := ⟨_, rfl⟩
    obtain ⟨F3, hg⟩ := hcut
    have GA := Lib.hid hg
    have R0 := Read_dk [97] hg.dk.dk (by decide)
    rw [may_off OFF.out] at R0
    have RC := Lib.hid R0
    clear hg R0
    go_wp2_with fail
    refine RC.out.mono ?_
    rintro r w3 ⟨v3, rfl, -, d3, u3'⟩
    obtain ⟨d3', -, b3⟩ := GA.out.dk.read d3 u3'
    have G3 := Lib.hid (GA.out.read d3' u3' b3)
    have S0 := Size_dk [33] d3'.dk (by decide)
    rw [may_off OFF.out] at S0
    have SC := Lib.hid S0
    clear d3 d3' u3' b3 S0 RC GA
    go_wp2_with fail
    refine SC.out.mono ?_
    rintro r w4 ⟨rfl, d4, u4'⟩
    obtain ⟨d4', -, b4⟩ := G3.out.dk.read d4 u4'
    have G4 := Lib.hid (G3.out.read d4' u4' b4)
    have N0 := Names_s d4'
    rw [OFF.out] at N0
    have NC := Lib.hid N0
    clear d4 d4' u4' b4 N0 SC G3
    go_wp2_with fail
    refine NC.out.mono ?_
    rintro r w5 ⟨v5, l5, rfl, -, -, d5, u5', b5⟩
    have G5 := Lib.hid (G4.out.read d5 u5' b5)
    have WR := Lib.hid (show Calls Tryz.prog 14 #[.pointer (some ⟨db, 0, none⟩)] w5 fun r w' => r = .returned (.int .i64 ((W : Nat) : Int)) ∧ DkStep w5 w' w0.heap.size db F3 s from (Writes_dk d5.dk).mono fun _ _ hr => ⟨by rw [← WE.out]; exact hr.1, d5.step hr.2⟩)
    have tw : ((W : Int) != (W : Int)) = false := by simp
    clear d5 u5' b5 NC G4
    go_wp2_with (go_at_call 9; refine (num9_calls _ _).mono ?_; rintro r wx ⟨rfl, rfl⟩)
    refine WR.out.mono ?_
    rintro r w6 ⟨rfl, st6⟩
    obtain ⟨F6, g6⟩ := G5.out.step st6 rfl
    have G6 := Lib.hid g6
    have FX := Lib.hid (Files_s g6.dk)
    clear st6 g6 WR G5
    go_wp2_with fail
    refine FX.out.mono ?_
    rintro r w7 ⟨a8, c8, rfl, -, f8, d8, u8', b8⟩
    have G7 := Lib.hid (G6.out.read d8 u8' b8)
    have BY : Hid (∀ p ∈ C, p.1.length ≤ 140737488351232 ∧ p.2.length ≤ 140737488355328) := fun p hp => by
      have h1 := OK.out.nm p (by rw [CE.out]; exact hp)
      have h2 := OK.out.byt p.1
      rw [bytC_mem OK.out.so (by rw [CE.out]; exact hp)] at h2
      unfold nmOk at h1
      simp only [Bool.and_eq_true, decide_eq_true_eq] at h1
      exact ⟨by omega, by omega⟩
    have fz := G7.out.fil.b.fil
    rw [CE.out] at f8 fz
    have EC := Lib.hid (EqFiles_same C a8 a7 c8 c7 w7 f8.fil fz (by omega) (fun p hp => (BY.out p hp).2))
    rw [CE.out]
    clear f8 d8 u8' b8 fz FX G6 tw
    go_wp2_with fail
    refine EC.out.mono ?_
    rintro r w8 ⟨rfl, b8⟩
    have G8 := Lib.hid (G7.out.below b8)
    have ON := Lib.hid (G8.out.dk.on)
    clear b8 EC G7
    go_wp2_with fail
    refine ON.out.mono ?_
    rintro r w9 ⟨rfl, st9⟩
    obtain ⟨F9, g9⟩ := G8.out.step st9 rfl
    have G9 := Lib.hid g9
    have fz := g9.fil.b.fil
    rw [show s.on.C = C from CE.out] at fz
    have LC := Lib.hid (Load_calls (R : Int) C a7 c7 w9 fz (fun p hp => ⟨(BY.out p hp).1, (BY.out p hp).2⟩) (by omega))
    clear st9 g9 fz ON G8
    go_wp2_with fail
    refine LC.out.mono ?_
    rintro r wL hr
    have eR : (R : Int) = (s.room : Int) := by rw [RM.out]
    unfold LoadP at hr
    have LS := loadR_self OK.out
    rw [CE.out] at LS
    rw [eR, LS] at hr
    obtain ⟨dc, rfl, g2, g3⟩ := hr
    obtain ⟨sc, hsc⟩ : ∃ q : DS, { DS.new s.room with C := C } = q := ⟨_, rfl⟩
    obtain ⟨sd, hsd⟩ : ∃ q : DS, s.on = q := ⟨_, rfl⟩
    have LK : Like sc sd := by
      rw [← hsc, ← hsd]
      exact ⟨⟨rfl, rfl⟩, ⟨rfl, ARM.out⟩, rfl, CE.out.symm⟩
    have wsc : sc.writes ≤ 0 := by rw [← hsc]; exact Nat.le_refl _
    have wsd : sd.writes ≤ 1000 := by rw [← hsd]; show s.writes ≤ 1000; rw [WE.out]; exact hwr
    have eCd : sd.C = C := by rw [← hsd]; exact CE.out
    have DC : DkS wL w9.heap.size dc (fun i => w9.heap.size ≤ i ∧ w9.heap.size ≤ i ∧ i < wL.heap.size) sc := by
      rw [← hsc]
      exact ⟨g2.cut, fun i hi => hi.2, g3.size⟩
    have DD := G9.out.dk.below g3
    rw [hsd] at DD
    have PR : Pair wL w0.heap.size w9.heap.size db dc F9 (fun i => w9.heap.size ≤ i ∧ w9.heap.size ≤ i ∧ i < wL.heap.size) sd sc := ⟨DD, DC, fun k hk h9 => by have := (G9.out.dk.fl k hk).2; omega⟩
    have PH := Lib.hid PR
    have BL := Lib.hid (G9.out.bel.trans (g3.mono G9.out.dk.bw))
    have UL := Lib.hid (G9.out.up.more (Upd.ofBelow g3) (fun _ s => s.elim))
    have FZ9 := Lib.hid G9.out.f0
    have WS9 := Lib.hid (show w.heap.size ≤ w9.heap.size from G9.out.up.size)
    have B9 := Lib.hid (show w0.heap.size ≤ w9.heap.size from G9.out.dk.bw)
    have LKH := Lib.hid LK
    have OF0 := PR.d1.offq
    rw [LK.r.off] at OF0
    have OFC := Lib.hid OF0
    have WSC := Lib.hid wsc; have WSD := Lib.hid wsd; have ECD := Lib.hid eCd
    clear g2 g3 hsc hsd LK wsc wsd eCd DC DD PR LS eR OF0 LC G9
    go_wp2_with (go_at_call 9; refine (num9_calls _ _).mono ?_; rintro r wx ⟨rfl, rfl⟩)
    refine OFC.out.mono ?_
    rintro r wM ⟨rfl, stM⟩
    obtain ⟨FM, pM, uM', bM, fM⟩ := PH.out.step stM
    have UM := Lib.hid (UL.out.more uM' FZ9.out)
    have FMZ := Lib.hid (show ∀ k, FM k → F k ∨ w.heap.size ≤ k from fun k hk => (fM k hk).elim (FZ9.out k) (fun h9 => .inr (Nat.le_trans UL.out.size h9)))
    have PM := Lib.hid pM; have BM := Lib.hid (BL.out.trans bM)
    have FX := Lib.hid (Files_s pM.d2)
    clear stM pM uM' bM fM OFC PH
    have eCc : sc.C = C := LKH.out.C.trans ECD.out
    have ECC := Lib.hid eCc
    clear eCc
    go_wp2_with fail
    refine FX.out.mono ?_
    rintro r wN ⟨a9, c9, rfl, -, f9, d9, u9', b9⟩
    have PN := Lib.hid (PM.out.symm.read d9 u9').symm
    have BN := Lib.hid (BM.out.trans (b9.mono B9.out))
    have UN := Lib.hid (UM.out.more u9' (fun k hk => .inr (by rw [hk]; exact Nat.le_trans WS9.out (PM.out.d2.dk.at_).1)))
    have FY := Lib.hid (Files_s PN.out.d1)
    have dbM := PM.out.d1.dk.lt
    rw [ECC.out] at f9 ⊢
    have F9H := Lib.hid f9
    clear f9 d9 u9' b9 FX
    go_wp2_with fail
    refine FY.out.mono ?_
    rintro r wO ⟨a10, c10, rfl, -, f10, d10, u10', b10⟩
    have PO := Lib.hid (PN.out.read d10 u10')
    have BO := Lib.hid (BN.out.trans b10)
    have UO := Lib.hid (UN.out.more u10' (fun k hk => .inl (by rw [hk]; exact H0.out.dk.at_)))
    have f9' := F9H.out.upd u10' (fun k hk => by rw [hk]; exact dbM)
    rw [ECD.out] at f10 ⊢
    have EQ := Lib.hid (EqFiles_same C a9 a10 c9 c10 wO f9'.fil f10.fil (by omega) (fun p hp => (BY.out p hp).2))
    clear f9' f10 d10 u10' b10 FY PN dbM
    go_wp2_with fail
    refine EQ.out.mono ?_
    rintro r wP ⟨rfl, bP⟩
    have GT : Hid (GoT w F w0 wP db dc w9.heap.size 0 sc sd FM (fun i => w9.heap.size ≤ i ∧ w9.heap.size ≤ i ∧ i < wL.heap.size)) :=
      ⟨PO.out.below bP, LKH.out, WSC.out, WSD.out, BO.out.trans (bP.mono (PO.out.d1.bw)), B9.out, UO.out.more (Upd.ofBelow bP) (fun _ s => s.elim), FMZ.out, fun k hk => Nat.le_trans WS9.out hk.1⟩
    obtain ⟨FcS, hFc⟩ : ∃ q : Nat → Prop, (fun i => w9.heap.size ≤ i ∧ w9.heap.size ≤ i ∧ i < wL.heap.size) = q := ⟨_, rfl⟩
    rw [hFc] at GT
    obtain ⟨B2, hB2⟩ : ∃ q, w9.heap.size = q := ⟨_, rfl⟩
    rw [hB2] at GT
    clear bP EQ hFc hB2 PO BO BN BM PM
    go_wp2
    go_loopw [21, 22, 23, 24, 25, 26] (fun vs vi _ _ _ _ wr => ∃ (i sp : Nat) (sc sd : DS) (Fd Fc : Nat → Prop), vs = .int .i64 sp ∧ vi = .int .i64 i ∧ i ≤ ops.length ∧ i ≤ 60 ∧ sp ≤ 262144 ∧ GoT w F w0 wr db dc B2 i sc sd Fd Fc) (fun _ vi _ _ _ _ _ => ops.length - (intOf vi).toNat)
    case atStart => exact ⟨0, 0, sc, sd, FM, FcS, rfl, rfl, Nat.zero_le _, Nat.zero_le _, by omega, GT.out⟩
    case round =>
      clear GT LKH WSC WSD ECD ECC
      obtain ⟨i, sp, sc, sd, Fd, Fc, rfl, rfl, hi, hi6, hsp, hg⟩ := hrel
      have HG := Lib.hid hg
      have OW := OP.out.below hg.bel
      clear hg
      by_cases c1 : i < ops.length
      · have t1 : decide ((i : Int) < (ops.length : Int)) = true := decide_eq_true (by omega)
        have t1' : decide (i < ops.length) = true := decide_eq_true c1
        by_cases c2 : i < 60
        · have t2 : decide ((i : Int) < 60) = true := decide_eq_true (by omega)
          have t2' : decide (i < 60) = true := decide_eq_true c2
          have i2 : (i : Int) < (ops.length : Int) := by omega
          have hat := (OP.out i c1).1
          obtain ⟨-, ab, ao, rfl, h0, h1, h2, h3, h4, h5, h6, h7⟩ := OW i c1
          obtain ⟨o, ho⟩ : ∃ o, ops[i] = o := ⟨_, rfl⟩
          rw [ho] at hat h0 h1 h2 h3 h4 h5 h6 h7
          obtain ⟨d, on, nm, tn, ba, b, bc, n, keep, fa, fl, fc⟩ := o
          dsimp only at h0 h1 h2 h3 h4 h5 h6 h7
          have HO := Lib.hid ho
          have AT := Lib.hid hat
          have SZ := Lib.hid (size9_calls d on n keep nm tn b ba fa bc fc fl wr (AT.out.fil.below HG.out.bel) AT.out.bl AT.out.ll AT.out.fs)
          clear hat ho OW
          go_wp2_with fail
          refine SZ.out.mono ?_
          rintro r w5 ⟨m, rfl, hm1, hm2, b5⟩
          have P5 := Lib.hid (HG.out.pr.below b5)
          have U5 := Lib.hid (HG.out.up.more (Upd.ofBelow b5) (fun _ s => s.elim))
          have B5 := Lib.hid (HG.out.bel.trans (b5.mono HG.out.pr.d1.bw))
          clear b5 SZ h0 h1 h2 h3 h4 h5 h6 h7
          by_cases c3 : 262144 < sp + m
          · have t3 : decide ((262144 : Int) < (sp : Int) + (m : Int)) = true := decide_eq_true (by omega)
            have t3' : decide (262144 < sp + m) = true := decide_eq_true c3
            go_wp2
            go_ret
            exact ⟨rfl, B5.out, U5.out⟩
          · have t3 : decide ((262144 : Int) < (sp : Int) + (m : Int)) = false := decide_eq_false (by omega)
            have t3' : decide (262144 < sp + m) = false := decide_eq_false c3
            obtain ⟨le, lk⟩ := HG.out.lk.doD (d := d) (nm := nm) (tn := tn) (b := b) (n := n)
            have wcl := doD_wle (d := d) (nm := nm) (tn := tn) (b := b) (n := n) HG.out.lk.l
            have wdl := doD_wle (d := d) (nm := nm) (tn := tn) (b := b) (n := n) HG.out.lk.r
            have D1 := do9_calls B2 dc Fc sc d on n keep nm tn b ba fa bc fc fl.length w5 P5.out.d2 (AT.out.byt.below B5.out) AT.out.bl AT.out.nl AT.out.tl (by have := HG.out.wc; omega)
            obtain ⟨e, he⟩ : ∃ e, (doD sc d nm tn b n).1 = e := ⟨_, rfl⟩
            obtain ⟨is1, hi1⟩ : ∃ e, (doD sc d nm tn b n).2.1 = e := ⟨_, rfl⟩
            obtain ⟨sc2, hc2⟩ : ∃ e, (doD sc d nm tn b n).2.2 = e := ⟨_, rfl⟩
            obtain ⟨is2, hi2'⟩ : ∃ e, (doD sd d nm tn b n).2.1 = e := ⟨_, rfl⟩
            obtain ⟨sd2, hd2⟩ : ∃ e, (doD sd d nm tn b n).2.2 = e := ⟨_, rfl⟩
            have K2 := Lib.hid (show (doD sd d nm tn b n).1 = e ∧ (doD sd d nm tn b n).2.1 = is2 ∧ (doD sd d nm tn b n).2.2 = sd2 from ⟨by rw [← le]; exact he, hi2', hd2⟩)
            unfold DoP9 at D1
            rw [he, hi1, hc2] at D1
            rw [hc2, hd2] at lk
            rw [hc2] at wcl
            rw [hd2] at wdl
            have D1H := Lib.hid D1
            have LKN := Lib.hid lk
            have WCN : sc2.writes ≤ i + 1 := by have := HG.out.wc; omega
            have WDN : sd2.writes ≤ 1000 + (i + 1) := by have := HG.out.wd; omega
            have OK2 := Lib.hid (show sc2.ok from by rw [← hc2]; exact doD_ok P5.out.d2.dk.ok)
            obtain ⟨-, _, _, e9, h0, h1, h2, h3, h4, h5, h6, h7⟩ := (OP.out.below B5.out) i c1
            cases e9
            rw [HO.out] at h0 h1 h2 h3 h4 h5 h6 h7
            dsimp only at h0 h1 h2 h3 h4 h5 h6 h7
            clear he hi1 hc2 hi2' hd2 le lk wcl wdl D1
            go_wp2_with fail
            refine D1H.out.mono ?_
            rintro r w6 ⟨rfl, st6⟩
            obtain ⟨Fc2, p6, u6', b6, f6⟩ := P5.out.symm.step st6
            have U6 := Lib.hid (U5.out.more u6' (fun k hk => .inr (HG.out.f1 k hk)))
            have FC2 := Lib.hid (show ∀ k, Fc2 k → w.heap.size ≤ k from fun k hk => (f6 k hk).elim (HG.out.f1 k) (fun h9 => Nat.le_trans U5.out.size h9))
            clear u6' f6
            have P6 := Lib.hid p6.symm
            have B6 := Lib.hid (B5.out.trans (b6.mono HG.out.b2))
            have D2 := do9_calls w0.heap.size db Fd sd d on n keep nm tn b ba fa bc fc fl.length w6 p6.d2 (AT.out.byt.below B6.out) AT.out.bl AT.out.nl AT.out.tl (by have := HG.out.wd; omega)
            unfold DoP9 at D2
            rw [K2.out.1, K2.out.2.1, K2.out.2.2] at D2
            have D2H := Lib.hid D2
            clear h0 h1 h2 h3 h4 h5 h6 h7 st6 p6 b6 D2 D1H
            obtain ⟨-, _, _, e9, h0, h1, h2, h3, h4, h5, h6, h7⟩ := (OP.out.below B6.out) i c1
            cases e9
            rw [HO.out] at h0 h1 h2 h3 h4 h5 h6 h7
            dsimp only at h0 h1 h2 h3 h4 h5 h6 h7
            go_wp2_with fail
            refine D2H.out.mono ?_
            rintro r w7 ⟨rfl, st7⟩
            obtain ⟨Fd2, p7, u7', b7, f7⟩ := P6.out.step st7
            have U7 := Lib.hid (U6.out.more u7' HG.out.f0)
            have FD2 := Lib.hid (show ∀ k, Fd2 k → F k ∨ w.heap.size ≤ k from fun k hk => (f7 k hk).elim (HG.out.f0 k) (fun h9 => .inr (Nat.le_trans U6.out.size h9)))
            clear u7' f7
            have P7 := Lib.hid p7
            have B7 := Lib.hid (B6.out.trans b7)
            have FX := Lib.hid (Files_s p7.d2)
            have te : (e != e) = false := by simp
            clear h0 h1 h2 h3 h4 h5 h6 h7 st7 p7 b7 D2H P5 P6
            obtain ⟨C2, hC2⟩ : ∃ q, sc2.C = q := ⟨_, rfl⟩
            have E1 := Lib.hid hC2
            have E2 := Lib.hid (show sd2.C = C2 from LKN.out.C.symm.trans hC2)
            have CL2 : C2.length ≤ 64 := by rw [← hC2]; exact OK2.out.len
            clear hC2
            go_wp2_with fail
            refine FX.out.mono ?_
            rintro r w8 ⟨a9, c9, rfl, -, f9, d9, u9', b9⟩
            have P8 := Lib.hid (P7.out.symm.read d9 u9').symm
            have B8 := Lib.hid (B7.out.trans (b9.mono HG.out.b2))
            have U8 := Lib.hid (U7.out.more u9' (fun k hk => .inr (by rw [hk]; exact HG.out.f1 dc HG.out.pr.d2.dk.at_)))
            have FY := Lib.hid (Files_s P8.out.d1)
            have dbM := P7.out.d1.dk.lt
            rw [E1.out] at f9 ⊢
            have F9H := Lib.hid f9
            clear f9 d9 u9' b9 FX
            go_wp2_with fail
            refine FY.out.mono ?_
            rintro r wO ⟨a10, c10, rfl, -, f10, d10, u10', b10⟩
            have PO := Lib.hid (P8.out.read d10 u10')
            have BO := Lib.hid (B8.out.trans b10)
            have UO := Lib.hid (U8.out.more u10' (fun k hk => by rw [hk]; exact HG.out.f0 db HG.out.pr.d1.dk.at_))
            have f9' := F9H.out.upd u10' (fun k hk => by rw [hk]; exact dbM)
            rw [E2.out] at f10 ⊢
            have EQ := Lib.hid (EqFiles_same C2 a9 a10 c9 c10 wO f9'.fil f10.fil (by omega) (fun p hp => by
              have h2 := OK2.out.byt p.1
              rw [bytC_mem OK2.out.so (by rw [E1.out]; exact hp)] at h2
              omega))
            clear f9' f10 d10 u10' b10 FY dbM
            go_wp2_with fail
            refine EQ.out.mono ?_
            rintro r wQ ⟨rfl, bQ⟩
            have GN : Hid (GoT w F w0 wQ db dc B2 (i + 1) sc2 sd2 Fd2 Fc2) := ⟨PO.out.below bQ, LKN.out, WCN, WDN, BO.out.trans (bQ.mono PO.out.d1.bw), HG.out.b2, UO.out.more (Upd.ofBelow bQ) (fun _ s => s.elim), FD2.out, FC2.out⟩
            clear bQ EQ te
            go_wp2
            go_roundw
            case rel => exact ⟨i + 1, sp + m, sc2, sd2, Fd2, Fc2, by go_num, by go_num, by omega, by omega, by omega, GN.out⟩
            case measure => simp [intOf]; omega
        · have t2 : decide ((i : Int) < 60) = false := decide_eq_false (by omega)
          have t2' : decide (i < 60) = false := decide_eq_false c2
          go_wp2
          go_ret
          exact ⟨rfl, HG.out.bel, HG.out.up⟩
      · have t1 : decide ((i : Int) < (ops.length : Int)) = false := decide_eq_false (by omega)
        have t1' : decide (i < ops.length) = false := decide_eq_false c1
        go_wp2
        go_ret
        exact ⟨rfl, HG.out.bel, HG.out.up⟩
end Go.Proofs.YtcmllfnhdodbdaaGreatDoor
