/- RecordWrites's walk. -/
import Derived.Test.YtjiciklnhcmfaaaGreatDoorTwo
namespace Go.Proofs.YtjiciklnhcmfaaaGreatDoor
set_option linter.unusedVariables false
set_option linter.unusedSimpArgs false
open Go.RowKit
theorem opv_lit (o : OpD) (d0 d1 d2 d3 d4 d5 d6 d7 d8 d9 d10 d11 d12 d13 d14 d15 : UInt8) (hd : o.d = [d0, d1, d2, d3, d4, d5, d6, d7, d8, d9, d10, d11, d12, d13, d14, d15]) : opv o = #[.int .i64 o.doo, .int .i64 o.on, .int .u64 o.n, .int .i64 o.wd, .int .i64 o.i, .bool o.fl, .slice o.ba o.b.length o.bc, .int .u8 (d0.toNat : Int), .int .u8 (d1.toNat : Int), .int .u8 (d2.toNat : Int), .int .u8 (d3.toNat : Int), .int .u8 (d4.toNat : Int), .int .u8 (d5.toNat : Int), .int .u8 (d6.toNat : Int), .int .u8 (d7.toNat : Int), .int .u8 (d8.toNat : Int), .int .u8 (d9.toNat : Int), .int .u8 (d10.toNat : Int), .int .u8 (d11.toNat : Int), .int .u8 (d12.toNat : Int), .int .u8 (d13.toNat : Int), .int .u8 (d14.toNat : Int), .int .u8 (d15.toNat : Int)] := by
  unfold opv idv
  rw [hd]
  rfl
theorem list16w {α : Type} : ∀ {l : List α}, l.length = 16 → ∃ d0 d1 d2 d3 d4 d5 d6 d7 d8 d9 d10 d11 d12 d13 d14 d15, l = [d0, d1, d2, d3, d4, d5, d6, d7, d8, d9, d10, d11, d12, d13, d14, d15]
  | [d0, d1, d2, d3, d4, d5, d6, d7, d8, d9, d10, d11, d12, d13, d14, d15], _ => ⟨d0, d1, d2, d3, d4, d5, d6, d7, d8, d9, d10, d11, d12, d13, d14, d15, rfl⟩
/-- Where the writers stand, and how long their rows may be. -/
def StX (w0 wr : World) (B al i : Nat) : Prop := ∃ (l0 : List UInt8) (e0 : Int) (v0 u0 : Value) (l1 : List UInt8) (e1 : Int) (v1 u1 : Value), S2 wr B B (B + 1) (B + 1 + 1 + 1) (B + 1 + 1) 5 0 2 l0 e0 v0 u0 l1 e1 v1 u1 ∧ l0.length ≤ al + 16 * i ∧ l1.length ≤ al + 16 * i ∧ Upd (fun k => B ≤ k) w0 wr
theorem StX.weak {w0 wr : World} {B al i al' i' : Nat} (h : StX w0 wr B al i) (ha : al ≤ al') (hi : i ≤ i') : StX w0 wr B al' i' := by
  obtain ⟨l0, e0, v0, u0, l1, e1, v1, u1, h1, h2, h3, h4⟩ := h
  exact ⟨l0, e0, v0, u0, l1, e1, v1, u1, h1, by omega, by omega, h4⟩
theorem StX.below {w0 wr w2 : World} {B al i : Nat} (h : StX w0 wr B al i) (hb : Below wr.heap.size wr w2) : StX w0 w2 B al i := by
  obtain ⟨l0, e0, v0, u0, l1, e1, v1, u1, h1, h2, h3, h4⟩ := h
  exact ⟨l0, e0, v0, u0, l1, e1, v1, u1, h1.below hb, h2, h3, h4.same ((Upd.ofBelow hb).mono (fun _ s _ => s.elim))⟩
def arr0 : Array Value := #[.slice none 0 0, .int .i64 0, .slice none 0 0, .int .i64 0]
theorem wri_arr {w : World} {g B : Nat} {t : TypeId} (h : w.heap[g]? = some (.cells arr0 t (0, 0))) (po : Nat) (hp : po = 0 ∨ po = 2) : Wri w g po B [] 0 (.slice none 0 0) := by
  have e : ∀ j, w.cell? ⟨g, j, none⟩ = arr0[j]? := fun j => cell_of_row' h
  rcases hp with rfl | rfl
  · exact ⟨by rw [e]; rfl, by rw [e]; rfl, frozen_of_row h _, frozen_of_row h _, Own.nil _ _ _ _, (fun h => by cases h)⟩
  · exact ⟨by rw [e]; rfl, by rw [e]; rfl, frozen_of_row h _, frozen_of_row h _, Own.nil _ _ _ _, (fun h => by cases h)⟩
theorem writes_start (w w0 : World) (t1 t2 : TypeId) (hw0 : ((((w.alloc (.cells arr0 t1)).alloc (.cells arr0 t2)).alloc (.cells zBook 58)).alloc (.cells #[.slice none 0 0, .slice none 0 0] 61)) = w0) :
    StX w0 w0 w.heap.size 0 0 ∧ Below w.heap.size w w0 := by
  have b0 : Below w.heap.size w w0 := by rw [← hw0]; exact ((((Below.refl _ w).alloc (Nat.le_refl _) _).alloc (by simp) _).alloc (by simp; omega) _).alloc (by simp; omega) _
  have s0 : w0.heap.size = w.heap.size + 1 + 1 + 1 + 1 := by rw [← hw0, World.size_alloc, World.size_alloc, World.size_alloc, World.size_alloc]
  have e3 : w0.heap[w.heap.size + 1 + 1 + 1]? = some (.cells #[.slice none 0 0, .slice none 0 0] 61 (0, 0)) := by
    rw [← hw0]
    have h := heap_alloc_new (((w.alloc (.cells arr0 t1)).alloc (.cells arr0 t2)).alloc (.cells zBook 58)) (.cells #[.slice none 0 0, .slice none 0 0] 61)
    rw [World.size_alloc, World.size_alloc, World.size_alloc] at h
    exact h
  have e2 : w0.heap[w.heap.size + 1 + 1]? = some (.cells zBook 58 (0, 0)) := by
    rw [← hw0, Below.heap_alloc _ _ _ (by rw [World.size_alloc, World.size_alloc, World.size_alloc]; omega)]
    have h := heap_alloc_new ((w.alloc (.cells arr0 t1)).alloc (.cells arr0 t2)) (.cells zBook 58)
    rw [World.size_alloc, World.size_alloc] at h
    exact h
  have e1 : w0.heap[w.heap.size + 1]? = some (.cells arr0 t2 (0, 0)) := by
    rw [← hw0, Below.heap_alloc _ _ _ (by rw [World.size_alloc, World.size_alloc, World.size_alloc]; omega), Below.heap_alloc _ _ _ (by rw [World.size_alloc, World.size_alloc]; omega)]
    have h := heap_alloc_new (w.alloc (.cells arr0 t1)) (.cells arr0 t2)
    rw [World.size_alloc] at h
    exact h
  have e0 : w0.heap[w.heap.size]? = some (.cells arr0 t1 (0, 0)) := by
    rw [← hw0, Below.heap_alloc _ _ _ (by rw [World.size_alloc, World.size_alloc, World.size_alloc]; omega), Below.heap_alloc _ _ _ (by rw [World.size_alloc, World.size_alloc]; omega), Below.heap_alloc _ _ _ (by rw [World.size_alloc]; omega)]
    exact heap_alloc_new _ _
  have tw : ∀ po, po = 0 ∨ po = 2 → Tw w0 w.heap.size po (w.heap.size + 1) po w.heap.size [] 0 (.slice none 0 0) (.slice none 0 0) := fun po hp =>
    ⟨wri_arr e0 po hp, wri_arr e1 po hp, (fun h => by cases h), (fun h => by cases h), by omega, (fun _ h => by cases h), Nat.le_refl _, by omega⟩
  refine ⟨⟨[], 0, .slice none 0 0, .slice none 0 0, [], 0, .slice none 0 0, .slice none 0 0, ⟨tw 0 (.inl rfl), tw 2 (.inr rfl), (fun k s => by rcases s with s | s <;> cases s), ?_⟩, Nat.zero_le _, Nat.zero_le _, Upd.refl _ _⟩, b0⟩
  refine (Late_new (fun k hk => ?_) e3 e2 (by omega) (by omega) (by omega)).mono (Nat.zero_le _)
  rcases hk with hk | hk | hk | hk | hk | hk
  · omega
  · omega
  all_goals cases hk
/-- The op's own block stands behind a call on both writers. -/
theorem op_stays {w w2 w3 : World} {B wb rb tb bb n po pq : Nat} {l : List UInt8} {e : Int} {v u : Value} {l' : List UInt8} {e' : Int} {v' u' v2 u2 : Value} {P j : Nat} {x : Value} (h : S2 w B wb rb tb bb n po pq l e v u l' e' v' u') (hP : w.heap.size ≤ P) (hc : w2.cell? ⟨P, j, none⟩ = some x) (k : TUpd w2 w3 wb po rb po v u v2 u2) : w3.cell? ⟨P, j, none⟩ = some x :=
  (k.upd.cell (p := ⟨P, j, none⟩) (World.block_lt_of_cell? _ _ hc) (fun s => by
    have h1 := h.x.a.lt
    have h2 := h.x.b.lt
    rcases s with s | s | s | s
    · have s' : P = wb := s; omega
    · have s' : P = rb := s; omega
    · have := (h.x.a.own.lt _ s).2; simp at this; omega
    · have := (h.x.b.own.lt _ s).2; simp at this; omega)).trans hc
theorem bel_drew0 (w : World) : Below w.heap.size w w.drew := ⟨rfl, rfl, rfl, Nat.le_refl _, fun _ _ => rfl⟩
theorem Upd.of_free {B : Nat} {Pr : Nat → Prop} {w w' : World} (h : Upd (Free B Pr) w w') : Upd (fun k => B ≤ k) w w' := h.mono (fun _ s _ => s.1)
set_option maxRecDepth 100000 in
set_option maxHeartbeats 16000000 in
theorem RecordWrites_calls (w : World) (a : Option Addr) (cap : Nat) (L : List OpD) (h : RdO w a L) (hn : L.length ≤ 140737488351232) (ht : Tab w) (hg : 0 < w.heap.size) :
    Calls Tryz.prog 3 #[.slice a L.length cap] w fun r w' => r = .returned (.bool true) ∧ Below w.heap.size w w' := by
  have H := Lib.hid h; have HT := Lib.hid ht; have HG := Lib.hid hg
  clear h ht hg
  obtain ⟨w0, hw0⟩ : ∃ q, ((((w.alloc (.cells arr0 27)).alloc (.cells arr0 30)).alloc (.cells zBook 58)).alloc (.cells #[.slice none 0 0, .slice none 0 0] 61)) = q := ⟨_, rfl⟩
  have ST := writes_start w w0 _ _ hw0
  have S0 := Lib.hid ST.1
  have B0 := Lib.hid ST.2
  clear ST
  have W0 : Hid (((((w.alloc (.cells #[.slice none 0 0, .int .i64 0, .slice none 0 0, .int .i64 0] 27)).alloc (.cells #[.slice none 0 0, .int .i64 0, .slice none 0 0, .int .i64 0] 30)).alloc (.cells zBook 58)).alloc (.cells #[.slice none 0 0, .slice none 0 0] 61)) = w0) := hw0
  clear hw0
  obtain ⟨B, hB⟩ : ∃ q, w.heap.size = q := ⟨_, rfl⟩
  go_enter Tryz.func3, Tryz.ntmps3
  go_upto_block 0 with (first | (with_reducible refine wpList_build (o := ⟨some 11, _, _, _, _, _⟩) rfl 58 rfl zBook zBook_built ?_) | (with_reducible refine wpList_box (o := ⟨some 12, _, _, _, _, _⟩) rfl 58 (.tmp 11) rfl zBook rfl ?_))
  rw [W0.out]
  rw [hB] at S0
  have HB := Lib.hid hB
  clear W0 hB
  go_cut [7] (fun va wr => StX w0 wr B 4194304 300)
  case first =>
    go_wp2
    go_loopw [7, 8] (fun va vi wr => ∃ (i al : Nat), va = .int .i64 al ∧ vi = .int .i64 i ∧ i ≤ L.length ∧ i ≤ 300 ∧ al ≤ 4194304 ∧ StX w0 wr B al i) (fun _ vi _ => L.length - (intOf vi).toNat)
    case atStart => exact ⟨0, 0, rfl, rfl, Nat.zero_le _, Nat.zero_le _, Nat.zero_le _, S0.out⟩
    case round =>
      obtain ⟨i, al, rfl, rfl, hi, hi3, hal, hst⟩ := hrel
      have ST := Lib.hid (hst.weak hal hi3)
      have SX := Lib.hid hst; clear hst
      by_cases c1 : i < L.length
      · have t1 : decide ((i : Int) < (L.length : Int)) = true := decide_eq_true (by omega)
        have t1' : decide (i < L.length) = true := decide_eq_true c1
        by_cases c3 : i < 300
        · have t3 : decide ((i : Int) < 300) = true := decide_eq_true (by omega)
          have t3' : decide (i < 300) = true := decide_eq_true c3
          obtain ⟨o, ho⟩ : ∃ o, L[i]? = some o := ⟨_, List.getElem?_eq_getElem c1⟩
          have hmem := List.mem_of_getElem? ho
          obtain ⟨b, off, rfl, hrg⟩ := H.out.rng i o ho
          have hok := H.out.ok o hmem
          have hby := H.out.byt o hmem
          have hcl : 0 < (opv o).toList.length := by rw [Array.length_toList, opv_len hok.dn]; decide
          have hbl : b < w.heap.size := rangeAt_lt hrg hcl
          obtain ⟨l0, e0, v0, u0, l1, e1, v1, u1, hs2, hl0, hl1, hup⟩ := SX.out
          have UR := Lib.hid hup
          have BW : Hid (Below w.heap.size w wr) := B0.out.trans (hup.below (fun k s _ => by rw [HB.out]; exact s) B0.out.size)
          have RW : Hid (wr.rangeAt b (off + i * 23) (opv o).toList) := fun j x hj => (BW.out.cell (p := ⟨b, off + i * 23 + j, none⟩) hbl).trans (hrg j x hj)
          have S2R := Lib.hid hs2
          have hbn := hok.bn
          have OK := Lib.hid hok; have HBY := Lib.hid (hby.below BW.out)
          have HYB : Hid (o.b ≠ [] → ∀ k, o.ba.map (·.block) = some k → k < B) := fun hx k hk => by
            obtain ⟨ad, ha, rfl⟩ := Option.map_eq_some_iff.1 hk
            have h := hby
            rw [ha] at h
            have := h.lt hx
            have := HB.out
            omega
          have SWB : Hid (B ≤ wr.heap.size) := by show _ ≤ _; rw [← HB.out]; exact BW.out.size
          clear ho hmem hrg hok hby hcl hs2 hup SX
          have SZ1 : Hid ((Tryz.prog.info? 66).map (·.size) = some (opv o).size) := by show _ = _; rw [opv_len OK.out.dn]; exact opSize
          have SZ2 : Hid ((#[.int .i64 0, .int .i64 0, .int .u64 0, .int .i64 0, .int .i64 0, .bool false, .slice none 0 0, .int .u8 0, .int .u8 0, .int .u8 0, .int .u8 0, .int .u8 0, .int .u8 0, .int .u8 0, .int .u8 0, .int .u8 0, .int .u8 0, .int .u8 0, .int .u8 0, .int .u8 0, .int .u8 0, .int .u8 0, .int .u8 0] : Array Value).size = (opv o).size) := by show _ = _; rw [opv_len OK.out.dn]; rfl
          have HA := Lib.hid (heap_alloc_new wr (.cells (#[.int .i64 0, .int .i64 0, .int .u64 0, .int .i64 0, .int .i64 0, .bool false, .slice none 0 0, .int .u8 0, .int .u8 0, .int .u8 0, .int .u8 0, .int .u8 0, .int .u8 0, .int .u8 0, .int .u8 0, .int .u8 0, .int .u8 0, .int .u8 0, .int .u8 0, .int .u8 0, .int .u8 0, .int .u8 0, .int .u8 0] : Array Value) 66))
          obtain ⟨hd, HD⟩ : ∃ hd : o.d.length = 16, True := ⟨OK.out.dn, trivial⟩
          obtain ⟨d0, d1, d2, d3, d4, d5, d6, d7, d8, d9, d10, d11, d12, d13, d14, d15, hdd⟩ := list16w hd
          have LT := Lib.hid (opv_lit o d0 d1 d2 d3 d4 d5 d6 d7 d8 d9 d10 d11 d12 d13 d14 d15 hdd)
          clear hd HD hdd
          have ZF := Lib.hid (fun (w2 : World) (hk2 : w2.heap[wr.heap.size]? = some (.cells (opv o) 66 (0, 0))) (j : Nat) (x : Value) (hx : (#[.int .i64 o.doo, .int .i64 o.on, .int .u64 o.n, .int .i64 o.wd, .int .i64 o.i, .bool o.fl, .slice o.ba o.b.length o.bc, .int .u8 (d0.toNat : Int), .int .u8 (d1.toNat : Int), .int .u8 (d2.toNat : Int), .int .u8 (d3.toNat : Int), .int .u8 (d4.toNat : Int), .int .u8 (d5.toNat : Int), .int .u8 (d6.toNat : Int), .int .u8 (d7.toNat : Int), .int .u8 (d8.toNat : Int), .int .u8 (d9.toNat : Int), .int .u8 (d10.toNat : Int), .int .u8 (d11.toNat : Int), .int .u8 (d12.toNat : Int), .int .u8 (d13.toNat : Int), .int .u8 (d14.toNat : Int), .int .u8 (d15.toNat : Int)] : Array Value)[j]? = some x) => show w2.cell? ⟨wr.heap.size, j, none⟩ = some x from by rw [cell_of_row' hk2, LT.out]; exact hx)
          by_cases c2 : 4194304 < al + o.b.length
          · have t2 : decide ((4194304 : Int) < (al : Int) + (o.b.length : Int)) = true := decide_eq_true (by omega)
            have t2' : decide (4194304 < al + o.b.length) = true := decide_eq_true c2
            have hand := and_one o.on
            generalize o.on % 2 = kk at hand
            go_wp2_with (first | (with_reducible refine wpList_load_arr (op := ⟨some 28, _, _, _, _, _⟩) rfl 66 (.tmp 27) rfl b (off + i * 23) rfl (opv o) _ RW.out Tryz.underlying66 rfl SZ1.out ?_) | (with_reducible refine wpList_store_arr (op := ⟨none, .store 66 (.tmp 9) (.tmp 28), _, _, _, _⟩) rfl 66 (.tmp 9) (.tmp 28) rfl wr.heap.size (opv o) (#[.int .i64 0, .int .i64 0, .int .u64 0, .int .i64 0, .int .i64 0, .bool false, .slice none 0 0, .int .u8 0, .int .u8 0, .int .u8 0, .int .u8 0, .int .u8 0, .int .u8 0, .int .u8 0, .int .u8 0, .int .u8 0, .int .u8 0, .int .u8 0, .int .u8 0, .int .u8 0, .int .u8 0, .int .u8 0, .int .u8 0] : Array Value) 66 rfl rfl HA.out SZ2.out SZ1.out (opv_one o) ?_; intro w2 hk2 hu2; have z1 := ZF.out w2 hk2 1 _ rfl; have z6 := ZF.out w2 hk2 6 _ rfl))
            go_meet
            case rel => exact ST.out.below ((((Upd.refl (fun k => k = wr.heap.size) wr).alloc _).same hu2).below (fun k s _ => Nat.le_of_eq s.symm) (Nat.le_refl _))
          · have t2 : decide ((4194304 : Int) < (al : Int) + (o.b.length : Int)) = false := decide_eq_false (by omega)
            have t2' : decide (4194304 < al + o.b.length) = false := decide_eq_false c2
            have hol : o.b.length ≤ 4194304 := by omega
            have hand0 : o.on % 2 = 0 ∨ o.on % 2 = 1 := by omega
            rcases hand0 with hk | hk
            · have hand : bits BinOp.and IntKind.i64 o.on 1 = 0 := by rw [and_one, hk]
              clear hk
              go_wp2_with (first | (with_reducible refine wpList_load_arr (op := ⟨some 28, _, _, _, _, _⟩) rfl 66 (.tmp 27) rfl b (off + i * 23) rfl (opv o) _ RW.out Tryz.underlying66 rfl SZ1.out ?_) | (with_reducible refine wpList_store_arr (op := ⟨none, .store 66 (.tmp 9) (.tmp 28), _, _, _, _⟩) rfl 66 (.tmp 9) (.tmp 28) rfl wr.heap.size (opv o) (#[.int .i64 0, .int .i64 0, .int .u64 0, .int .i64 0, .int .i64 0, .bool false, .slice none 0 0, .int .u8 0, .int .u8 0, .int .u8 0, .int .u8 0, .int .u8 0, .int .u8 0, .int .u8 0, .int .u8 0, .int .u8 0, .int .u8 0, .int .u8 0, .int .u8 0, .int .u8 0, .int .u8 0, .int .u8 0, .int .u8 0] : Array Value) 66 rfl rfl HA.out SZ2.out SZ1.out (opv_one o) ?_; intro w2 hk2 hu2; have z1 := ZF.out w2 hk2 1 _ rfl; have z6 := ZF.out w2 hk2 6 _ rfl))
              have bel2 : Below wr.heap.size wr w2 := (((Upd.refl (fun k => k = wr.heap.size) wr).alloc _).same hu2).below (fun k s _ => Nat.le_of_eq s.symm) (Nat.le_refl _)
              have BLD : Hid (Below wr.heap.size wr w2.drew) := ⟨bel2.os, bel2.tape, bel2.output, bel2.size, bel2.block⟩
              have Y0 := Lib.hid (ZF.out w2 hk2 0 _ rfl)
              have RQ := Lib.hid (show w2.drew.rangeAt wr.heap.size 0 (opv o).toList from range_block hk2)
              have SD := Lib.hid ((S2R.out).below BLD.out)
              have UD := Lib.hid (UR.out.same (Upd.mono (Upd.ofBelow BLD.out) (fun _ s _ => s.elim)))
              clear bel2 hk2 hu2 z1 z6 t1 t1' t2 t2' t3 t3' hand
              have QL := lOp_len l0 e0 (o := o) OK.out.dn
              have LC := lay_calls B 0 (B + 1) 0 B o w2.drew v0 u0 l0 e0 SD.out.x (by omega) OK.out (by omega) (HBY.out.below BLD.out) HYB.out
              obtain ⟨q, hq⟩ : ∃ q, lOp l0 e0 o = q := ⟨_, rfl⟩
              rw [hq] at LC QL
              clear hq
              obtain ⟨q1, q2⟩ := q
              replace QL : q1.length ≤ l0.length + o.b.length + 16 := QL
              have LCH := Lib.hid LC; clear LC
              have KP := Lib.hid (fun (w3 : World) (v2 u2 : Value) (k : TUpd w2.drew w3 B 0 (B + 1) 0 v0 u0 v2 u2) => op_stays (S2R.out) (Nat.le_refl _) (show w2.drew.cell? ⟨wr.heap.size, 0, none⟩ = some (.int .i64 o.doo) from Y0.out) k)
              have DC := Lib.hid (fun (w3 : World) (v2 u2 : Value) (S : S2 w3 B B (B + 1) (B + 1 + 1 + 1) (B + 1 + 1) 5 0 2 q1 q2 v2 u2 l1 e1 v1 u1) => done_calls w3 B (P4 B (B + 1) v2 u2 v1 u1) (B + 1 + 1 + 1) (B + 1 + 1) 5 S.lb (by decide) B 0 (B + 1) 0 q1 q2 v2 u2 S.x.a S.x.b (by omega))
              have EC := Lib.hid (fun (w3 : World) (v2 u2 : Value) (S : S2 w3 B B (B + 1) (B + 1 + 1 + 1) (B + 1 + 1) 7 0 2 q1 q2 v2 u2 l1 e1 v1 u1) => Settle_calls w3 B (P4 B (B + 1) v2 u2 v1 u1) (B + 1 + 1 + 1) (B + 1 + 1) 7 6 S.lb (by decide) (by decide))
              have FIN := Lib.hid (fun (w3 : World) (v2 u2 : Value) (S : S2 w3 B B (B + 1) (B + 1 + 1 + 1) (B + 1 + 1) 5 0 2 q1 q2 v2 u2 l1 e1 v1 u1) (U : Upd (fun k => B ≤ k) w0 w3) => show StX w0 w3 B (al + o.b.length) (i + 1) from ⟨_, _, _, _, _, _, _, _, S, by omega, by omega, U⟩)
              by_cases c7 : o.doo = 7
              · have t7 : (o.doo == 7) = true := beq_iff_eq.2 c7
                clear c7
                refine wp_region_any (by kernel_rfl) ?_
                try (change wpAny _ _ _ _ _ _ _ (World.drew _))
                refine wpAny_taken (a' := ?aa0_1) (i := 0) (oi := ⟨some 39, _, _, _, _, _⟩) (v := ?vv0_1) rfl (by kernel_rfl) (by kernel_rfl) (by kernel_rfl) (fun _ _ _ h => h) (Or.inl ⟨by rfl, ?hy0_1⟩) ?ha0_1 ?rs0_1
                case hy0_1 => first | (intro w; go_simp; done) | (intro w; go_simp; with_reducible rfl)
                case ha0_1 => go_simp; with_reducible rfl
                refine wpAny_taken (a' := ?aa1_1) (i := 1) (oi := ⟨some 40, _, _, _, _, _⟩) (v := ?vv1_1) rfl (by kernel_rfl) (by kernel_rfl) (by kernel_rfl) (fun _ _ _ h => h) (Or.inl ⟨by rfl, ?hy1_1⟩) ?ha1_1 ?rs1_1
                case hy1_1 => first | (intro w; go_simp; done) | (intro w; go_simp; with_reducible rfl)
                case ha1_1 => go_simp; with_reducible rfl
                refine wpAny_taken (a' := ?aa2_1) (i := 2) (oi := ⟨some 41, _, _, _, _, _⟩) (v := ?vv2_1) rfl (by kernel_rfl) (by kernel_rfl) (by kernel_rfl) (fun _ _ _ h => h) (Or.inl ⟨by rfl, ?hy2_1⟩) ?ha2_1 ?rs2_1
                case hy2_1 => first | (intro w; go_simp; done) | (intro w; go_simp; with_reducible rfl)
                case ha2_1 => go_simp; with_reducible rfl
                refine wpAny_taken (a' := ?aa3_1) (i := 3) (oi := ⟨some 42, _, _, _, _, _⟩) (v := ?vv3_1) rfl (by kernel_rfl) (by kernel_rfl) (by kernel_rfl) (fun _ _ _ h => h) (Or.inl ⟨by rfl, ?hy3_1⟩) ?ha3_1 ?rs3_1
                case hy3_1 => first | (intro w; go_simp; done) | (intro w; go_simp; with_reducible rfl)
                case ha3_1 => go_simp; with_reducible rfl
                refine wpAny_ready (rs := [4]) (by kernel_rfl) (by simp) ?_
                refine AllReady.cons (o := ⟨some 43, _, _, _, _, _⟩) rfl (fun K hK => ?_) AllReady.nil
                refine step_load_arr rfl 66 (.tmp 9) rfl wr.heap.size 0 rfl (opv o) _ RQ.out Tryz.underlying66 rfl SZ1.out ?_
                try go_simp
                refine hK _ _ ?_
                clear hK K
                refine wpAny_ready (rs := [5]) (by kernel_rfl) (by simp) ?_
                refine AllReady.cons (o := ⟨some 44, _, _, _, _, _⟩) rfl (fun K hK => ?_) AllReady.nil
                refine step_call3 rfl (f := 4) (v := .pointer (some ⟨B, 0, none⟩)) (u := .pointer (some ⟨B + 1, 0, none⟩)) (t := .agg (opv o)) rfl rfl rfl rfl (Tryz.call4 _) LCH.out ?_; rintro e3 w3 ⟨rfl, v2, u2, ht3, hu3⟩; refine ⟨_, rfl, ?_⟩; have S3 := Lib.hid (SD.out.lay ht3 hu3 (by decide)); have U3 := Lib.hid (UD.out.same (TUpd.from SD.out.x hu3)); have x0 := KP.out w3 v2 u2 hu3; clear ht3 hu3
                try go_simp
                refine hK _ _ ?_
                clear hK K
                refine wpAny_taken (a' := ?aa6_1) (i := 6) (oi := ⟨some 45, _, _, _, _, _⟩) (v := ?vv6_1) rfl (by kernel_rfl) (by kernel_rfl) (by kernel_rfl) (fun _ _ _ h => h) (Or.inl ⟨by rfl, ?hy6_1⟩) ?ha6_1 ?rs6_1
                case hy6_1 => first | (intro w; go_simp; done) | (intro w; go_simp; with_reducible rfl)
                case ha6_1 => go_simp; with_reducible rfl
                refine wpAny_taken (a' := ?aa7_1) (i := 7) (oi := ⟨some 46, _, _, _, _, _⟩) (v := ?vv7_1) rfl (by kernel_rfl) (by kernel_rfl) (by kernel_rfl) (fun _ _ _ h => h) (Or.inl ⟨by rfl, ?hy7_1⟩) ?ha7_1 ?rs7_1
                case hy7_1 => first | (intro w; go_simp; done) | (intro w; go_simp; with_reducible rfl)
                case ha7_1 => go_simp; with_reducible rfl
                refine wpAny_taken (a' := ?aa8_1) (i := 8) (oi := ⟨some 47, _, _, _, _, _⟩) (v := ?vv8_1) rfl (by kernel_rfl) (by kernel_rfl) (by kernel_rfl) (fun _ _ _ h => h) (Or.inl ⟨by rfl, ?hy8_1⟩) ?ha8_1 ?rs8_1
                case hy8_1 => first | (intro w; go_simp; done) | (intro w; go_simp; with_reducible rfl)
                case ha8_1 => go_simp; with_reducible rfl
                refine wpAny_ready (rs := [9]) (by kernel_rfl) (by simp) ?_
                refine AllReady.cons (o := ⟨some 48, _, _, _, _, _⟩) rfl (fun K hK => ?_) AllReady.nil
                go_simp
                refine hK _ _ ?_
                clear hK K
                refine wpAny_taken (a' := ?aa10_1) (i := 10) (oi := ⟨some 49, _, _, _, _, _⟩) (v := ?vv10_1) rfl (by kernel_rfl) (by kernel_rfl) (by kernel_rfl) (fun _ _ _ h => h) (Or.inl ⟨by rfl, ?hy10_1⟩) ?ha10_1 ?rs10_1
                case hy10_1 => first | (intro w; go_simp; done) | (intro w; go_simp; with_reducible rfl)
                case ha10_1 => go_simp; with_reducible rfl
                refine wpAny_taken (a' := ?aa11_1) (i := 11) (oi := ⟨some 50, _, _, _, _, _⟩) (v := ?vv11_1) rfl (by kernel_rfl) (by kernel_rfl) (by kernel_rfl) (fun _ _ _ h => h) (Or.inl ⟨by rfl, ?hy11_1⟩) ?ha11_1 ?rs11_1
                case hy11_1 => first | (intro w; go_simp; done) | (intro w; go_simp; with_reducible rfl)
                case ha11_1 => go_simp; with_reducible rfl
                refine wpAny_taken (a' := ?aa12_1) (i := 12) (oi := ⟨some 51, _, _, _, _, _⟩) (v := ?vv12_1) rfl (by kernel_rfl) (by kernel_rfl) (by kernel_rfl) (fun _ _ _ h => h) (Or.inl ⟨by rfl, ?hy12_1⟩) ?ha12_1 ?rs12_1
                case hy12_1 => first | (intro w; go_simp; done) | (intro w; go_simp; with_reducible rfl)
                case ha12_1 => go_simp; with_reducible rfl
                refine wpAny_taken (a' := ?aa13_1) (i := 13) (oi := ⟨some 52, _, _, _, _, _⟩) (v := ?vv13_1) rfl (by kernel_rfl) (by kernel_rfl) (by kernel_rfl) (fun _ _ _ h => h) (Or.inl ⟨by rfl, ?hy13_1⟩) ?ha13_1 ?rs13_1
                case hy13_1 => first | (intro w; go_simp; done) | (intro w; go_simp; with_reducible rfl)
                case ha13_1 => go_simp; with_reducible rfl
                refine wpAny_taken (a' := ?aa14_1) (i := 14) (oi := ⟨some 53, _, _, _, _, _⟩) (v := ?vv14_1) rfl (by kernel_rfl) (by kernel_rfl) (by kernel_rfl) (fun _ _ _ h => h) (Or.inl ⟨by rfl, ?hy14_1⟩) ?ha14_1 ?rs14_1
                case hy14_1 => first | (intro w; go_simp; done) | (intro w; go_simp; with_reducible rfl)
                case ha14_1 => go_simp; with_reducible rfl
                refine wpAny_taken (a' := ?aa15_1) (i := 15) (oi := ⟨some 54, _, _, _, _, _⟩) (v := ?vv15_1) rfl (by kernel_rfl) (by kernel_rfl) (by kernel_rfl) (fun _ _ _ h => h) (Or.inl ⟨by rfl, ?hy15_1⟩) ?ha15_1 ?rs15_1
                case hy15_1 => first | (intro w; go_simp; done) | (intro w; go_simp; with_reducible rfl)
                case ha15_1 => go_simp; with_reducible rfl
                refine wpAny_taken (a' := ?aa16_1) (i := 16) (oi := ⟨some 55, _, _, _, _, _⟩) (v := ?vv16_1) rfl (by kernel_rfl) (by kernel_rfl) (by kernel_rfl) (fun _ _ _ h => h) (Or.inl ⟨by rfl, ?hy16_1⟩) ?ha16_1 ?rs16_1
                case hy16_1 => first | (intro w; go_simp; done) | (intro w; go_simp; with_reducible rfl)
                case ha16_1 => go_simp; with_reducible rfl
                refine wpAny_ready (rs := [17]) (by kernel_rfl) (by simp) ?_
                refine AllReady.cons (o := ⟨some 56, _, _, _, _, _⟩) rfl (fun K hK => ?_) AllReady.nil
                refine stepg_call3 rfl (f := 5) (v := .pointer (some ⟨B, 0, none⟩)) (u := .pointer (some ⟨B + 1, 0, none⟩)) (t := .pointer (some ⟨B + 1 + 1 + 1, 0, none⟩)) rfl rfl rfl rfl (Tryz.call5 _) (DC.out w3 v2 u2 S3.out) ?_; rintro e4 w4 ⟨rfl, hl4, hu4⟩; refine ⟨_, rfl, ?_⟩; have S4 := Lib.hid (S3.out.free hl4 hu4); have U4 := Lib.hid (U3.out.same hu4.of_free); clear hl4 hu4
                try go_simp
                refine hK _ _ ?_
                clear hK K
                refine wpAny_taken (a' := ?aa18_1) (i := 18) (oi := ⟨some 57, _, _, _, _, _⟩) (v := ?vv18_1) rfl (by kernel_rfl) (by kernel_rfl) (by kernel_rfl) (fun _ _ _ h => h) (Or.inl ⟨by rfl, ?hy18_1⟩) ?ha18_1 ?rs18_1
                case hy18_1 => first | (intro w; go_simp; done) | (intro w; go_simp; with_reducible rfl)
                case ha18_1 => go_simp; with_reducible rfl
                refine wpAny_taken (a' := ?aa19_1) (i := 19) (oi := ⟨some 58, _, _, _, _, _⟩) (v := ?vv19_1) rfl (by kernel_rfl) (by kernel_rfl) (by kernel_rfl) (fun _ _ _ h => h) (Or.inl ⟨by rfl, ?hy19_1⟩) ?ha19_1 ?rs19_1
                case hy19_1 => first | (intro w; go_simp; done) | (intro w; go_simp; with_reducible rfl)
                case ha19_1 => go_simp; with_reducible rfl
                refine wpAny_taken (a' := ?aa20_1) (i := 20) (oi := ⟨some 59, _, _, _, _, _⟩) (v := ?vv20_1) rfl (by kernel_rfl) (by kernel_rfl) (by kernel_rfl) (fun _ _ _ h => h) (Or.inl ⟨by rfl, ?hy20_1⟩) ?ha20_1 ?rs20_1
                case hy20_1 => first | (intro w; go_simp; done) | (intro w; go_simp; with_reducible rfl)
                case ha20_1 => go_simp; with_reducible rfl
                refine wpAny_taken (a' := ?aa21_1) (i := 21) (oi := ⟨some 60, _, _, _, _, _⟩) (v := ?vv21_1) rfl (by kernel_rfl) (by kernel_rfl) (by kernel_rfl) (fun _ _ _ h => h) (Or.inl ⟨by rfl, ?hy21_1⟩) ?ha21_1 ?rs21_1
                case hy21_1 => first | (intro w; go_simp; done) | (intro w; go_simp; with_reducible rfl)
                case ha21_1 => go_simp; with_reducible rfl
                refine wpAny_taken (a' := ?aa22_1) (i := 22) (oi := ⟨some 61, _, _, _, _, _⟩) (v := ?vv22_1) rfl (by kernel_rfl) (by kernel_rfl) (by kernel_rfl) (fun _ _ _ h => h) (Or.inl ⟨by rfl, ?hy22_1⟩) ?ha22_1 ?rs22_1
                case hy22_1 => first | (intro w; go_simp; done) | (intro w; go_simp; with_reducible rfl)
                case ha22_1 => go_simp; with_reducible rfl
                refine wpAny_taken (a' := ?aa23_1) (i := 23) (oi := ⟨some 62, _, _, _, _, _⟩) (v := ?vv23_1) rfl (by kernel_rfl) (by kernel_rfl) (by kernel_rfl) (fun _ _ _ h => h) (Or.inl ⟨by rfl, ?hy23_1⟩) ?ha23_1 ?rs23_1
                case hy23_1 => first | (intro w; go_simp; done) | (intro w; go_simp; with_reducible rfl)
                case ha23_1 => go_simp; with_reducible rfl
                refine wpAny_ready (rs := [24]) (by kernel_rfl) (by simp) ?_
                refine AllReady.cons (o := ⟨some 63, _, _, _, _, _⟩) rfl (fun K hK => ?_) AllReady.nil
                refine stepg_call3 rfl (f := 6) (v := .pointer (some ⟨B + 1 + 1 + 1, 0, none⟩)) (u := .pointer (some ⟨B + 1 + 1, 0, none⟩)) (t := .int .i64 6) rfl rfl rfl rfl (Tryz.call6 _) (EC.out w4 v2 u2 S4.out) ?_; rintro e5 w5 ⟨rfl, hl5, hu5⟩; refine ⟨_, rfl, ?_⟩; have S5 := Lib.hid (S4.out.free hl5 hu5); have U5 := Lib.hid (U4.out.same hu5.of_free); clear hl5 hu5
                try go_simp
                refine hK _ _ ?_
                clear hK K
                refine wpAny_taken (a' := ?aa25_1) (i := 25) (oi := ⟨some 64, _, _, _, _, _⟩) (v := ?vv25_1) rfl (by kernel_rfl) (by kernel_rfl) (by kernel_rfl) (fun _ _ _ h => h) (Or.inl ⟨by rfl, ?hy25_1⟩) ?ha25_1 ?rs25_1
                case hy25_1 => first | (intro w; go_simp; done) | (intro w; go_simp; with_reducible rfl)
                case ha25_1 => go_simp; with_reducible rfl
                refine wpAny_taken (a' := ?aa26_1) (i := 26) (oi := ⟨some 65, _, _, _, _, _⟩) (v := ?vv26_1) rfl (by kernel_rfl) (by kernel_rfl) (by kernel_rfl) (fun _ _ _ h => h) (Or.inl ⟨by rfl, ?hy26_1⟩) ?ha26_1 ?rs26_1
                case hy26_1 => first | (intro w; go_simp; done) | (intro w; go_simp; with_reducible rfl)
                case ha26_1 => go_simp; with_reducible rfl
                refine wpAny_done (by kernel_rfl) ?_ _
                go_wp2
                go_roundw
                case rel => exact ⟨i + 1, al + o.b.length, by go_num, by go_num, by omega, by omega, by omega, FIN.out w5 v2 u2 S5.out U5.out⟩
                case measure => simp [intOf]; omega
              · have t7 : (o.doo == 7) = false := beq_eq_false_iff_ne.2 c7
                clear c7
                refine wp_region_any (by kernel_rfl) ?_
                try (change wpAny _ _ _ _ _ _ _ (World.drew _))
                refine wpAny_taken (a' := ?aa0_2) (i := 0) (oi := ⟨some 39, _, _, _, _, _⟩) (v := ?vv0_2) rfl (by kernel_rfl) (by kernel_rfl) (by kernel_rfl) (fun _ _ _ h => h) (Or.inl ⟨by rfl, ?hy0_2⟩) ?ha0_2 ?rs0_2
                case hy0_2 => first | (intro w; go_simp; done) | (intro w; go_simp; with_reducible rfl)
                case ha0_2 => go_simp; with_reducible rfl
                refine wpAny_taken (a' := ?aa1_2) (i := 1) (oi := ⟨some 40, _, _, _, _, _⟩) (v := ?vv1_2) rfl (by kernel_rfl) (by kernel_rfl) (by kernel_rfl) (fun _ _ _ h => h) (Or.inl ⟨by rfl, ?hy1_2⟩) ?ha1_2 ?rs1_2
                case hy1_2 => first | (intro w; go_simp; done) | (intro w; go_simp; with_reducible rfl)
                case ha1_2 => go_simp; with_reducible rfl
                refine wpAny_taken (a' := ?aa2_2) (i := 2) (oi := ⟨some 41, _, _, _, _, _⟩) (v := ?vv2_2) rfl (by kernel_rfl) (by kernel_rfl) (by kernel_rfl) (fun _ _ _ h => h) (Or.inl ⟨by rfl, ?hy2_2⟩) ?ha2_2 ?rs2_2
                case hy2_2 => first | (intro w; go_simp; done) | (intro w; go_simp; with_reducible rfl)
                case ha2_2 => go_simp; with_reducible rfl
                refine wpAny_taken (a' := ?aa3_2) (i := 3) (oi := ⟨some 42, _, _, _, _, _⟩) (v := ?vv3_2) rfl (by kernel_rfl) (by kernel_rfl) (by kernel_rfl) (fun _ _ _ h => h) (Or.inl ⟨by rfl, ?hy3_2⟩) ?ha3_2 ?rs3_2
                case hy3_2 => first | (intro w; go_simp; done) | (intro w; go_simp; with_reducible rfl)
                case ha3_2 => go_simp; with_reducible rfl
                refine wpAny_ready (rs := [4]) (by kernel_rfl) (by simp) ?_
                refine AllReady.cons (o := ⟨some 43, _, _, _, _, _⟩) rfl (fun K hK => ?_) AllReady.nil
                refine step_load_arr rfl 66 (.tmp 9) rfl wr.heap.size 0 rfl (opv o) _ RQ.out Tryz.underlying66 rfl SZ1.out ?_
                try go_simp
                refine hK _ _ ?_
                clear hK K
                refine wpAny_ready (rs := [5]) (by kernel_rfl) (by simp) ?_
                refine AllReady.cons (o := ⟨some 44, _, _, _, _, _⟩) rfl (fun K hK => ?_) AllReady.nil
                refine step_call3 rfl (f := 4) (v := .pointer (some ⟨B, 0, none⟩)) (u := .pointer (some ⟨B + 1, 0, none⟩)) (t := .agg (opv o)) rfl rfl rfl rfl (Tryz.call4 _) LCH.out ?_; rintro e3 w3 ⟨rfl, v2, u2, ht3, hu3⟩; refine ⟨_, rfl, ?_⟩; have S3 := Lib.hid (SD.out.lay ht3 hu3 (by decide)); have U3 := Lib.hid (UD.out.same (TUpd.from SD.out.x hu3)); have x0 := KP.out w3 v2 u2 hu3; clear ht3 hu3
                try go_simp
                refine hK _ _ ?_
                clear hK K
                refine wpAny_taken (a' := ?aa6_2) (i := 6) (oi := ⟨some 45, _, _, _, _, _⟩) (v := ?vv6_2) rfl (by kernel_rfl) (by kernel_rfl) (by kernel_rfl) (fun _ _ _ h => h) (Or.inl ⟨by rfl, ?hy6_2⟩) ?ha6_2 ?rs6_2
                case hy6_2 => first | (intro w; go_simp; done) | (intro w; go_simp; with_reducible rfl)
                case ha6_2 => go_simp; with_reducible rfl
                refine wpAny_taken (a' := ?aa7_2) (i := 7) (oi := ⟨some 46, _, _, _, _, _⟩) (v := ?vv7_2) rfl (by kernel_rfl) (by kernel_rfl) (by kernel_rfl) (fun _ _ _ h => h) (Or.inl ⟨by rfl, ?hy7_2⟩) ?ha7_2 ?rs7_2
                case hy7_2 => first | (intro w; go_simp; done) | (intro w; go_simp; with_reducible rfl)
                case ha7_2 => go_simp; with_reducible rfl
                refine wpAny_taken (a' := ?aa8_2) (i := 8) (oi := ⟨some 47, _, _, _, _, _⟩) (v := ?vv8_2) rfl (by kernel_rfl) (by kernel_rfl) (by kernel_rfl) (fun _ _ _ h => h) (Or.inl ⟨by rfl, ?hy8_2⟩) ?ha8_2 ?rs8_2
                case hy8_2 => first | (intro w; go_simp; done) | (intro w; go_simp; with_reducible rfl)
                case ha8_2 => go_simp; with_reducible rfl
                refine wpAny_ready (rs := [9]) (by kernel_rfl) (by simp) ?_
                refine AllReady.cons (o := ⟨some 48, _, _, _, _, _⟩) rfl (fun K hK => ?_) AllReady.nil
                go_simp
                refine hK _ _ ?_
                clear hK K
                refine wpAny_taken (a' := ?aa10_2) (i := 10) (oi := ⟨some 49, _, _, _, _, _⟩) (v := ?vv10_2) rfl (by kernel_rfl) (by kernel_rfl) (by kernel_rfl) (fun _ _ _ h => h) (Or.inl ⟨by rfl, ?hy10_2⟩) ?ha10_2 ?rs10_2
                case hy10_2 => first | (intro w; go_simp; done) | (intro w; go_simp; with_reducible rfl)
                case ha10_2 => go_simp; with_reducible rfl
                refine wpAny_taken (a' := ?aa11_2) (i := 11) (oi := ⟨some 50, _, _, _, _, _⟩) (v := ?vv11_2) rfl (by kernel_rfl) (by kernel_rfl) (by kernel_rfl) (fun _ _ _ h => h) (Or.inl ⟨by rfl, ?hy11_2⟩) ?ha11_2 ?rs11_2
                case hy11_2 => first | (intro w; go_simp; done) | (intro w; go_simp; with_reducible rfl)
                case ha11_2 => go_simp; with_reducible rfl
                refine wpAny_taken (a' := ?aa12_2) (i := 12) (oi := ⟨some 51, _, _, _, _, _⟩) (v := undef) rfl (by kernel_rfl) (by kernel_rfl) (by kernel_rfl) (fun _ _ _ h => h) (Or.inr ⟨by rfl, rfl⟩) ?ha12_2 ?rs12_2
                case ha12_2 => go_simp; with_reducible rfl
                refine wpAny_taken (a' := ?aa13_2) (i := 13) (oi := ⟨some 52, _, _, _, _, _⟩) (v := undef) rfl (by kernel_rfl) (by kernel_rfl) (by kernel_rfl) (fun _ _ _ h => h) (Or.inr ⟨by rfl, rfl⟩) ?ha13_2 ?rs13_2
                case ha13_2 => go_simp; with_reducible rfl
                refine wpAny_taken (a' := ?aa14_2) (i := 14) (oi := ⟨some 53, _, _, _, _, _⟩) (v := undef) rfl (by kernel_rfl) (by kernel_rfl) (by kernel_rfl) (fun _ _ _ h => h) (Or.inr ⟨by rfl, rfl⟩) ?ha14_2 ?rs14_2
                case ha14_2 => go_simp; with_reducible rfl
                refine wpAny_taken (a' := ?aa15_2) (i := 15) (oi := ⟨some 54, _, _, _, _, _⟩) (v := undef) rfl (by kernel_rfl) (by kernel_rfl) (by kernel_rfl) (fun _ _ _ h => h) (Or.inr ⟨by rfl, rfl⟩) ?ha15_2 ?rs15_2
                case ha15_2 => go_simp; with_reducible rfl
                refine wpAny_taken (a' := ?aa16_2) (i := 16) (oi := ⟨some 55, _, _, _, _, _⟩) (v := undef) rfl (by kernel_rfl) (by kernel_rfl) (by kernel_rfl) (fun _ _ _ h => h) (Or.inr ⟨by rfl, rfl⟩) ?ha16_2 ?rs16_2
                case ha16_2 => go_simp; with_reducible rfl
                refine wpAny_ready (rs := [17]) (by kernel_rfl) (by simp) ?_
                refine AllReady.cons (o := ⟨some 56, _, _, _, _, _⟩) rfl (fun K hK => ?_) AllReady.nil
                go_simp
                refine hK _ _ ?_
                clear hK K
                refine wpAny_taken (a' := ?aa18_2) (i := 18) (oi := ⟨some 57, _, _, _, _, _⟩) (v := undef) rfl (by kernel_rfl) (by kernel_rfl) (by kernel_rfl) (fun _ _ _ h => h) (Or.inr ⟨by rfl, rfl⟩) ?ha18_2 ?rs18_2
                case ha18_2 => go_simp; with_reducible rfl
                refine wpAny_taken (a' := ?aa19_2) (i := 19) (oi := ⟨some 58, _, _, _, _, _⟩) (v := ?vv19_2) rfl (by kernel_rfl) (by kernel_rfl) (by kernel_rfl) (fun _ _ _ h => h) (Or.inl ⟨by rfl, ?hy19_2⟩) ?ha19_2 ?rs19_2
                case hy19_2 => first | (intro w; go_simp; done) | (intro w; go_simp; with_reducible rfl)
                case ha19_2 => go_simp; with_reducible rfl
                refine wpAny_taken (a' := ?aa20_2) (i := 20) (oi := ⟨some 59, _, _, _, _, _⟩) (v := ?vv20_2) rfl (by kernel_rfl) (by kernel_rfl) (by kernel_rfl) (fun _ _ _ h => h) (Or.inl ⟨by rfl, ?hy20_2⟩) ?ha20_2 ?rs20_2
                case hy20_2 => first | (intro w; go_simp; done) | (intro w; go_simp; with_reducible rfl)
                case ha20_2 => go_simp; with_reducible rfl
                refine wpAny_taken (a' := ?aa21_2) (i := 21) (oi := ⟨some 60, _, _, _, _, _⟩) (v := ?vv21_2) rfl (by kernel_rfl) (by kernel_rfl) (by kernel_rfl) (fun _ _ _ h => h) (Or.inl ⟨by rfl, ?hy21_2⟩) ?ha21_2 ?rs21_2
                case hy21_2 => first | (intro w; go_simp; done) | (intro w; go_simp; with_reducible rfl)
                case ha21_2 => go_simp; with_reducible rfl
                refine wpAny_taken (a' := ?aa22_2) (i := 22) (oi := ⟨some 61, _, _, _, _, _⟩) (v := ?vv22_2) rfl (by kernel_rfl) (by kernel_rfl) (by kernel_rfl) (fun _ _ _ h => h) (Or.inl ⟨by rfl, ?hy22_2⟩) ?ha22_2 ?rs22_2
                case hy22_2 => first | (intro w; go_simp; done) | (intro w; go_simp; with_reducible rfl)
                case ha22_2 => go_simp; with_reducible rfl
                refine wpAny_taken (a' := ?aa23_2) (i := 23) (oi := ⟨some 62, _, _, _, _, _⟩) (v := ?vv23_2) rfl (by kernel_rfl) (by kernel_rfl) (by kernel_rfl) (fun _ _ _ h => h) (Or.inl ⟨by rfl, ?hy23_2⟩) ?ha23_2 ?rs23_2
                case hy23_2 => first | (intro w; go_simp; done) | (intro w; go_simp; with_reducible rfl)
                case ha23_2 => go_simp; with_reducible rfl
                refine wpAny_ready (rs := [24]) (by kernel_rfl) (by simp) ?_
                refine AllReady.cons (o := ⟨some 63, _, _, _, _, _⟩) rfl (fun K hK => ?_) AllReady.nil
                refine stepg_call3 rfl (f := 6) (v := .pointer (some ⟨B + 1 + 1 + 1, 0, none⟩)) (u := .pointer (some ⟨B + 1 + 1, 0, none⟩)) (t := .int .i64 6) rfl rfl rfl rfl (Tryz.call6 _) (EC.out w3 v2 u2 (S3.out.mono (by decide))) ?_; rintro e5 w5 ⟨rfl, hl5, hu5⟩; refine ⟨_, rfl, ?_⟩; have S5 := Lib.hid (S3.out.free hl5 hu5); have U5 := Lib.hid (U3.out.same hu5.of_free); clear hl5 hu5
                try go_simp
                refine hK _ _ ?_
                clear hK K
                refine wpAny_taken (a' := ?aa25_2) (i := 25) (oi := ⟨some 64, _, _, _, _, _⟩) (v := ?vv25_2) rfl (by kernel_rfl) (by kernel_rfl) (by kernel_rfl) (fun _ _ _ h => h) (Or.inl ⟨by rfl, ?hy25_2⟩) ?ha25_2 ?rs25_2
                case hy25_2 => first | (intro w; go_simp; done) | (intro w; go_simp; with_reducible rfl)
                case ha25_2 => go_simp; with_reducible rfl
                refine wpAny_taken (a' := ?aa26_2) (i := 26) (oi := ⟨some 65, _, _, _, _, _⟩) (v := ?vv26_2) rfl (by kernel_rfl) (by kernel_rfl) (by kernel_rfl) (fun _ _ _ h => h) (Or.inl ⟨by rfl, ?hy26_2⟩) ?ha26_2 ?rs26_2
                case hy26_2 => first | (intro w; go_simp; done) | (intro w; go_simp; with_reducible rfl)
                case ha26_2 => go_simp; with_reducible rfl
                refine wpAny_done (by kernel_rfl) ?_ _
                go_wp2
                go_roundw
                case rel => exact ⟨i + 1, al + o.b.length, by go_num, by go_num, by omega, by omega, by omega, FIN.out w5 v2 u2 S5.out U5.out⟩
                case measure => simp [intOf]; omega
            · have hand : bits BinOp.and IntKind.i64 o.on 1 = 1 := by rw [and_one, hk]
              clear hk
              go_wp2_with (first | (with_reducible refine wpList_load_arr (op := ⟨some 28, _, _, _, _, _⟩) rfl 66 (.tmp 27) rfl b (off + i * 23) rfl (opv o) _ RW.out Tryz.underlying66 rfl SZ1.out ?_) | (with_reducible refine wpList_store_arr (op := ⟨none, .store 66 (.tmp 9) (.tmp 28), _, _, _, _⟩) rfl 66 (.tmp 9) (.tmp 28) rfl wr.heap.size (opv o) (#[.int .i64 0, .int .i64 0, .int .u64 0, .int .i64 0, .int .i64 0, .bool false, .slice none 0 0, .int .u8 0, .int .u8 0, .int .u8 0, .int .u8 0, .int .u8 0, .int .u8 0, .int .u8 0, .int .u8 0, .int .u8 0, .int .u8 0, .int .u8 0, .int .u8 0, .int .u8 0, .int .u8 0, .int .u8 0, .int .u8 0] : Array Value) 66 rfl rfl HA.out SZ2.out SZ1.out (opv_one o) ?_; intro w2 hk2 hu2; have z1 := ZF.out w2 hk2 1 _ rfl; have z6 := ZF.out w2 hk2 6 _ rfl))
              have bel2 : Below wr.heap.size wr w2 := (((Upd.refl (fun k => k = wr.heap.size) wr).alloc _).same hu2).below (fun k s _ => Nat.le_of_eq s.symm) (Nat.le_refl _)
              have BLD : Hid (Below wr.heap.size wr w2.drew) := ⟨bel2.os, bel2.tape, bel2.output, bel2.size, bel2.block⟩
              have Y0 := Lib.hid (ZF.out w2 hk2 0 _ rfl)
              have RQ := Lib.hid (show w2.drew.rangeAt wr.heap.size 0 (opv o).toList from range_block hk2)
              have SD := Lib.hid ((S2R.out.swap).below BLD.out)
              have UD := Lib.hid (UR.out.same (Upd.mono (Upd.ofBelow BLD.out) (fun _ s _ => s.elim)))
              clear bel2 hk2 hu2 z1 z6 t1 t1' t2 t2' t3 t3' hand
              have QL := lOp_len l1 e1 (o := o) OK.out.dn
              have LC := lay_calls B 2 (B + 1) 2 B o w2.drew v1 u1 l1 e1 SD.out.x (by omega) OK.out (by omega) (HBY.out.below BLD.out) HYB.out
              obtain ⟨q, hq⟩ : ∃ q, lOp l1 e1 o = q := ⟨_, rfl⟩
              rw [hq] at LC QL
              clear hq
              obtain ⟨q1, q2⟩ := q
              replace QL : q1.length ≤ l1.length + o.b.length + 16 := QL
              have LCH := Lib.hid LC; clear LC
              have KP := Lib.hid (fun (w3 : World) (v2 u2 : Value) (k : TUpd w2.drew w3 B 2 (B + 1) 2 v1 u1 v2 u2) => op_stays (S2R.out.swap) (Nat.le_refl _) (show w2.drew.cell? ⟨wr.heap.size, 0, none⟩ = some (.int .i64 o.doo) from Y0.out) k)
              have DC := Lib.hid (fun (w3 : World) (v2 u2 : Value) (S : S2 w3 B B (B + 1) (B + 1 + 1 + 1) (B + 1 + 1) 5 2 0 q1 q2 v2 u2 l0 e0 v0 u0) => done_calls w3 B (P4 B (B + 1) v2 u2 v0 u0) (B + 1 + 1 + 1) (B + 1 + 1) 5 S.lb (by decide) B 2 (B + 1) 2 q1 q2 v2 u2 S.x.a S.x.b (by omega))
              have EC := Lib.hid (fun (w3 : World) (v2 u2 : Value) (S : S2 w3 B B (B + 1) (B + 1 + 1 + 1) (B + 1 + 1) 7 2 0 q1 q2 v2 u2 l0 e0 v0 u0) => Settle_calls w3 B (P4 B (B + 1) v2 u2 v0 u0) (B + 1 + 1 + 1) (B + 1 + 1) 7 6 S.lb (by decide) (by decide))
              have FIN := Lib.hid (fun (w3 : World) (v2 u2 : Value) (S : S2 w3 B B (B + 1) (B + 1 + 1 + 1) (B + 1 + 1) 5 2 0 q1 q2 v2 u2 l0 e0 v0 u0) (U : Upd (fun k => B ≤ k) w0 w3) => show StX w0 w3 B (al + o.b.length) (i + 1) from ⟨_, _, _, _, _, _, _, _, S.swap, by omega, by omega, U⟩)
              by_cases c7 : o.doo = 7
              · have t7 : (o.doo == 7) = true := beq_iff_eq.2 c7
                clear c7
                refine wp_region_any (by kernel_rfl) ?_
                try (change wpAny _ _ _ _ _ _ _ (World.drew _))
                refine wpAny_taken (a' := ?aa0_3) (i := 0) (oi := ⟨some 39, _, _, _, _, _⟩) (v := ?vv0_3) rfl (by kernel_rfl) (by kernel_rfl) (by kernel_rfl) (fun _ _ _ h => h) (Or.inl ⟨by rfl, ?hy0_3⟩) ?ha0_3 ?rs0_3
                case hy0_3 => first | (intro w; go_simp; done) | (intro w; go_simp; with_reducible rfl)
                case ha0_3 => go_simp; with_reducible rfl
                refine wpAny_taken (a' := ?aa1_3) (i := 1) (oi := ⟨some 40, _, _, _, _, _⟩) (v := ?vv1_3) rfl (by kernel_rfl) (by kernel_rfl) (by kernel_rfl) (fun _ _ _ h => h) (Or.inl ⟨by rfl, ?hy1_3⟩) ?ha1_3 ?rs1_3
                case hy1_3 => first | (intro w; go_simp; done) | (intro w; go_simp; with_reducible rfl)
                case ha1_3 => go_simp; with_reducible rfl
                refine wpAny_taken (a' := ?aa2_3) (i := 2) (oi := ⟨some 41, _, _, _, _, _⟩) (v := ?vv2_3) rfl (by kernel_rfl) (by kernel_rfl) (by kernel_rfl) (fun _ _ _ h => h) (Or.inl ⟨by rfl, ?hy2_3⟩) ?ha2_3 ?rs2_3
                case hy2_3 => first | (intro w; go_simp; done) | (intro w; go_simp; with_reducible rfl)
                case ha2_3 => go_simp; with_reducible rfl
                refine wpAny_taken (a' := ?aa3_3) (i := 3) (oi := ⟨some 42, _, _, _, _, _⟩) (v := ?vv3_3) rfl (by kernel_rfl) (by kernel_rfl) (by kernel_rfl) (fun _ _ _ h => h) (Or.inl ⟨by rfl, ?hy3_3⟩) ?ha3_3 ?rs3_3
                case hy3_3 => first | (intro w; go_simp; done) | (intro w; go_simp; with_reducible rfl)
                case ha3_3 => go_simp; with_reducible rfl
                refine wpAny_ready (rs := [4]) (by kernel_rfl) (by simp) ?_
                refine AllReady.cons (o := ⟨some 43, _, _, _, _, _⟩) rfl (fun K hK => ?_) AllReady.nil
                refine step_load_arr rfl 66 (.tmp 9) rfl wr.heap.size 0 rfl (opv o) _ RQ.out Tryz.underlying66 rfl SZ1.out ?_
                try go_simp
                refine hK _ _ ?_
                clear hK K
                refine wpAny_ready (rs := [5]) (by kernel_rfl) (by simp) ?_
                refine AllReady.cons (o := ⟨some 44, _, _, _, _, _⟩) rfl (fun K hK => ?_) AllReady.nil
                refine step_call3 rfl (f := 4) (v := .pointer (some ⟨B, 2, none⟩)) (u := .pointer (some ⟨B + 1, 2, none⟩)) (t := .agg (opv o)) rfl rfl rfl rfl (Tryz.call4 _) LCH.out ?_; rintro e3 w3 ⟨rfl, v2, u2, ht3, hu3⟩; refine ⟨_, rfl, ?_⟩; have S3 := Lib.hid (SD.out.lay ht3 hu3 (by decide)); have U3 := Lib.hid (UD.out.same (TUpd.from SD.out.x hu3)); have x0 := KP.out w3 v2 u2 hu3; clear ht3 hu3
                try go_simp
                refine hK _ _ ?_
                clear hK K
                refine wpAny_taken (a' := ?aa6_3) (i := 6) (oi := ⟨some 45, _, _, _, _, _⟩) (v := ?vv6_3) rfl (by kernel_rfl) (by kernel_rfl) (by kernel_rfl) (fun _ _ _ h => h) (Or.inl ⟨by rfl, ?hy6_3⟩) ?ha6_3 ?rs6_3
                case hy6_3 => first | (intro w; go_simp; done) | (intro w; go_simp; with_reducible rfl)
                case ha6_3 => go_simp; with_reducible rfl
                refine wpAny_taken (a' := ?aa7_3) (i := 7) (oi := ⟨some 46, _, _, _, _, _⟩) (v := ?vv7_3) rfl (by kernel_rfl) (by kernel_rfl) (by kernel_rfl) (fun _ _ _ h => h) (Or.inl ⟨by rfl, ?hy7_3⟩) ?ha7_3 ?rs7_3
                case hy7_3 => first | (intro w; go_simp; done) | (intro w; go_simp; with_reducible rfl)
                case ha7_3 => go_simp; with_reducible rfl
                refine wpAny_taken (a' := ?aa8_3) (i := 8) (oi := ⟨some 47, _, _, _, _, _⟩) (v := ?vv8_3) rfl (by kernel_rfl) (by kernel_rfl) (by kernel_rfl) (fun _ _ _ h => h) (Or.inl ⟨by rfl, ?hy8_3⟩) ?ha8_3 ?rs8_3
                case hy8_3 => first | (intro w; go_simp; done) | (intro w; go_simp; with_reducible rfl)
                case ha8_3 => go_simp; with_reducible rfl
                refine wpAny_ready (rs := [9]) (by kernel_rfl) (by simp) ?_
                refine AllReady.cons (o := ⟨some 48, _, _, _, _, _⟩) rfl (fun K hK => ?_) AllReady.nil
                go_simp
                refine hK _ _ ?_
                clear hK K
                refine wpAny_taken (a' := ?aa10_3) (i := 10) (oi := ⟨some 49, _, _, _, _, _⟩) (v := ?vv10_3) rfl (by kernel_rfl) (by kernel_rfl) (by kernel_rfl) (fun _ _ _ h => h) (Or.inl ⟨by rfl, ?hy10_3⟩) ?ha10_3 ?rs10_3
                case hy10_3 => first | (intro w; go_simp; done) | (intro w; go_simp; with_reducible rfl)
                case ha10_3 => go_simp; with_reducible rfl
                refine wpAny_taken (a' := ?aa11_3) (i := 11) (oi := ⟨some 50, _, _, _, _, _⟩) (v := ?vv11_3) rfl (by kernel_rfl) (by kernel_rfl) (by kernel_rfl) (fun _ _ _ h => h) (Or.inl ⟨by rfl, ?hy11_3⟩) ?ha11_3 ?rs11_3
                case hy11_3 => first | (intro w; go_simp; done) | (intro w; go_simp; with_reducible rfl)
                case ha11_3 => go_simp; with_reducible rfl
                refine wpAny_taken (a' := ?aa12_3) (i := 12) (oi := ⟨some 51, _, _, _, _, _⟩) (v := ?vv12_3) rfl (by kernel_rfl) (by kernel_rfl) (by kernel_rfl) (fun _ _ _ h => h) (Or.inl ⟨by rfl, ?hy12_3⟩) ?ha12_3 ?rs12_3
                case hy12_3 => first | (intro w; go_simp; done) | (intro w; go_simp; with_reducible rfl)
                case ha12_3 => go_simp; with_reducible rfl
                refine wpAny_taken (a' := ?aa13_3) (i := 13) (oi := ⟨some 52, _, _, _, _, _⟩) (v := ?vv13_3) rfl (by kernel_rfl) (by kernel_rfl) (by kernel_rfl) (fun _ _ _ h => h) (Or.inl ⟨by rfl, ?hy13_3⟩) ?ha13_3 ?rs13_3
                case hy13_3 => first | (intro w; go_simp; done) | (intro w; go_simp; with_reducible rfl)
                case ha13_3 => go_simp; with_reducible rfl
                refine wpAny_taken (a' := ?aa14_3) (i := 14) (oi := ⟨some 53, _, _, _, _, _⟩) (v := ?vv14_3) rfl (by kernel_rfl) (by kernel_rfl) (by kernel_rfl) (fun _ _ _ h => h) (Or.inl ⟨by rfl, ?hy14_3⟩) ?ha14_3 ?rs14_3
                case hy14_3 => first | (intro w; go_simp; done) | (intro w; go_simp; with_reducible rfl)
                case ha14_3 => go_simp; with_reducible rfl
                refine wpAny_taken (a' := ?aa15_3) (i := 15) (oi := ⟨some 54, _, _, _, _, _⟩) (v := ?vv15_3) rfl (by kernel_rfl) (by kernel_rfl) (by kernel_rfl) (fun _ _ _ h => h) (Or.inl ⟨by rfl, ?hy15_3⟩) ?ha15_3 ?rs15_3
                case hy15_3 => first | (intro w; go_simp; done) | (intro w; go_simp; with_reducible rfl)
                case ha15_3 => go_simp; with_reducible rfl
                refine wpAny_taken (a' := ?aa16_3) (i := 16) (oi := ⟨some 55, _, _, _, _, _⟩) (v := ?vv16_3) rfl (by kernel_rfl) (by kernel_rfl) (by kernel_rfl) (fun _ _ _ h => h) (Or.inl ⟨by rfl, ?hy16_3⟩) ?ha16_3 ?rs16_3
                case hy16_3 => first | (intro w; go_simp; done) | (intro w; go_simp; with_reducible rfl)
                case ha16_3 => go_simp; with_reducible rfl
                refine wpAny_ready (rs := [17]) (by kernel_rfl) (by simp) ?_
                refine AllReady.cons (o := ⟨some 56, _, _, _, _, _⟩) rfl (fun K hK => ?_) AllReady.nil
                refine stepg_call3 rfl (f := 5) (v := .pointer (some ⟨B, 2, none⟩)) (u := .pointer (some ⟨B + 1, 2, none⟩)) (t := .pointer (some ⟨B + 1 + 1 + 1, 0, none⟩)) rfl rfl rfl rfl (Tryz.call5 _) (DC.out w3 v2 u2 S3.out) ?_; rintro e4 w4 ⟨rfl, hl4, hu4⟩; refine ⟨_, rfl, ?_⟩; have S4 := Lib.hid (S3.out.free hl4 hu4); have U4 := Lib.hid (U3.out.same hu4.of_free); clear hl4 hu4
                try go_simp
                refine hK _ _ ?_
                clear hK K
                refine wpAny_taken (a' := ?aa18_3) (i := 18) (oi := ⟨some 57, _, _, _, _, _⟩) (v := ?vv18_3) rfl (by kernel_rfl) (by kernel_rfl) (by kernel_rfl) (fun _ _ _ h => h) (Or.inl ⟨by rfl, ?hy18_3⟩) ?ha18_3 ?rs18_3
                case hy18_3 => first | (intro w; go_simp; done) | (intro w; go_simp; with_reducible rfl)
                case ha18_3 => go_simp; with_reducible rfl
                refine wpAny_taken (a' := ?aa19_3) (i := 19) (oi := ⟨some 58, _, _, _, _, _⟩) (v := ?vv19_3) rfl (by kernel_rfl) (by kernel_rfl) (by kernel_rfl) (fun _ _ _ h => h) (Or.inl ⟨by rfl, ?hy19_3⟩) ?ha19_3 ?rs19_3
                case hy19_3 => first | (intro w; go_simp; done) | (intro w; go_simp; with_reducible rfl)
                case ha19_3 => go_simp; with_reducible rfl
                refine wpAny_taken (a' := ?aa20_3) (i := 20) (oi := ⟨some 59, _, _, _, _, _⟩) (v := ?vv20_3) rfl (by kernel_rfl) (by kernel_rfl) (by kernel_rfl) (fun _ _ _ h => h) (Or.inl ⟨by rfl, ?hy20_3⟩) ?ha20_3 ?rs20_3
                case hy20_3 => first | (intro w; go_simp; done) | (intro w; go_simp; with_reducible rfl)
                case ha20_3 => go_simp; with_reducible rfl
                refine wpAny_taken (a' := ?aa21_3) (i := 21) (oi := ⟨some 60, _, _, _, _, _⟩) (v := ?vv21_3) rfl (by kernel_rfl) (by kernel_rfl) (by kernel_rfl) (fun _ _ _ h => h) (Or.inl ⟨by rfl, ?hy21_3⟩) ?ha21_3 ?rs21_3
                case hy21_3 => first | (intro w; go_simp; done) | (intro w; go_simp; with_reducible rfl)
                case ha21_3 => go_simp; with_reducible rfl
                refine wpAny_taken (a' := ?aa22_3) (i := 22) (oi := ⟨some 61, _, _, _, _, _⟩) (v := ?vv22_3) rfl (by kernel_rfl) (by kernel_rfl) (by kernel_rfl) (fun _ _ _ h => h) (Or.inl ⟨by rfl, ?hy22_3⟩) ?ha22_3 ?rs22_3
                case hy22_3 => first | (intro w; go_simp; done) | (intro w; go_simp; with_reducible rfl)
                case ha22_3 => go_simp; with_reducible rfl
                refine wpAny_taken (a' := ?aa23_3) (i := 23) (oi := ⟨some 62, _, _, _, _, _⟩) (v := ?vv23_3) rfl (by kernel_rfl) (by kernel_rfl) (by kernel_rfl) (fun _ _ _ h => h) (Or.inl ⟨by rfl, ?hy23_3⟩) ?ha23_3 ?rs23_3
                case hy23_3 => first | (intro w; go_simp; done) | (intro w; go_simp; with_reducible rfl)
                case ha23_3 => go_simp; with_reducible rfl
                refine wpAny_ready (rs := [24]) (by kernel_rfl) (by simp) ?_
                refine AllReady.cons (o := ⟨some 63, _, _, _, _, _⟩) rfl (fun K hK => ?_) AllReady.nil
                refine stepg_call3 rfl (f := 6) (v := .pointer (some ⟨B + 1 + 1 + 1, 0, none⟩)) (u := .pointer (some ⟨B + 1 + 1, 0, none⟩)) (t := .int .i64 6) rfl rfl rfl rfl (Tryz.call6 _) (EC.out w4 v2 u2 S4.out) ?_; rintro e5 w5 ⟨rfl, hl5, hu5⟩; refine ⟨_, rfl, ?_⟩; have S5 := Lib.hid (S4.out.free hl5 hu5); have U5 := Lib.hid (U4.out.same hu5.of_free); clear hl5 hu5
                try go_simp
                refine hK _ _ ?_
                clear hK K
                refine wpAny_taken (a' := ?aa25_3) (i := 25) (oi := ⟨some 64, _, _, _, _, _⟩) (v := ?vv25_3) rfl (by kernel_rfl) (by kernel_rfl) (by kernel_rfl) (fun _ _ _ h => h) (Or.inl ⟨by rfl, ?hy25_3⟩) ?ha25_3 ?rs25_3
                case hy25_3 => first | (intro w; go_simp; done) | (intro w; go_simp; with_reducible rfl)
                case ha25_3 => go_simp; with_reducible rfl
                refine wpAny_taken (a' := ?aa26_3) (i := 26) (oi := ⟨some 65, _, _, _, _, _⟩) (v := ?vv26_3) rfl (by kernel_rfl) (by kernel_rfl) (by kernel_rfl) (fun _ _ _ h => h) (Or.inl ⟨by rfl, ?hy26_3⟩) ?ha26_3 ?rs26_3
                case hy26_3 => first | (intro w; go_simp; done) | (intro w; go_simp; with_reducible rfl)
                case ha26_3 => go_simp; with_reducible rfl
                refine wpAny_done (by kernel_rfl) ?_ _
                go_wp2
                go_roundw
                case rel => exact ⟨i + 1, al + o.b.length, by go_num, by go_num, by omega, by omega, by omega, FIN.out w5 v2 u2 S5.out U5.out⟩
                case measure => simp [intOf]; omega
              · have t7 : (o.doo == 7) = false := beq_eq_false_iff_ne.2 c7
                clear c7
                refine wp_region_any (by kernel_rfl) ?_
                try (change wpAny _ _ _ _ _ _ _ (World.drew _))
                refine wpAny_taken (a' := ?aa0_4) (i := 0) (oi := ⟨some 39, _, _, _, _, _⟩) (v := ?vv0_4) rfl (by kernel_rfl) (by kernel_rfl) (by kernel_rfl) (fun _ _ _ h => h) (Or.inl ⟨by rfl, ?hy0_4⟩) ?ha0_4 ?rs0_4
                case hy0_4 => first | (intro w; go_simp; done) | (intro w; go_simp; with_reducible rfl)
                case ha0_4 => go_simp; with_reducible rfl
                refine wpAny_taken (a' := ?aa1_4) (i := 1) (oi := ⟨some 40, _, _, _, _, _⟩) (v := ?vv1_4) rfl (by kernel_rfl) (by kernel_rfl) (by kernel_rfl) (fun _ _ _ h => h) (Or.inl ⟨by rfl, ?hy1_4⟩) ?ha1_4 ?rs1_4
                case hy1_4 => first | (intro w; go_simp; done) | (intro w; go_simp; with_reducible rfl)
                case ha1_4 => go_simp; with_reducible rfl
                refine wpAny_taken (a' := ?aa2_4) (i := 2) (oi := ⟨some 41, _, _, _, _, _⟩) (v := ?vv2_4) rfl (by kernel_rfl) (by kernel_rfl) (by kernel_rfl) (fun _ _ _ h => h) (Or.inl ⟨by rfl, ?hy2_4⟩) ?ha2_4 ?rs2_4
                case hy2_4 => first | (intro w; go_simp; done) | (intro w; go_simp; with_reducible rfl)
                case ha2_4 => go_simp; with_reducible rfl
                refine wpAny_taken (a' := ?aa3_4) (i := 3) (oi := ⟨some 42, _, _, _, _, _⟩) (v := ?vv3_4) rfl (by kernel_rfl) (by kernel_rfl) (by kernel_rfl) (fun _ _ _ h => h) (Or.inl ⟨by rfl, ?hy3_4⟩) ?ha3_4 ?rs3_4
                case hy3_4 => first | (intro w; go_simp; done) | (intro w; go_simp; with_reducible rfl)
                case ha3_4 => go_simp; with_reducible rfl
                refine wpAny_ready (rs := [4]) (by kernel_rfl) (by simp) ?_
                refine AllReady.cons (o := ⟨some 43, _, _, _, _, _⟩) rfl (fun K hK => ?_) AllReady.nil
                refine step_load_arr rfl 66 (.tmp 9) rfl wr.heap.size 0 rfl (opv o) _ RQ.out Tryz.underlying66 rfl SZ1.out ?_
                try go_simp
                refine hK _ _ ?_
                clear hK K
                refine wpAny_ready (rs := [5]) (by kernel_rfl) (by simp) ?_
                refine AllReady.cons (o := ⟨some 44, _, _, _, _, _⟩) rfl (fun K hK => ?_) AllReady.nil
                refine step_call3 rfl (f := 4) (v := .pointer (some ⟨B, 2, none⟩)) (u := .pointer (some ⟨B + 1, 2, none⟩)) (t := .agg (opv o)) rfl rfl rfl rfl (Tryz.call4 _) LCH.out ?_; rintro e3 w3 ⟨rfl, v2, u2, ht3, hu3⟩; refine ⟨_, rfl, ?_⟩; have S3 := Lib.hid (SD.out.lay ht3 hu3 (by decide)); have U3 := Lib.hid (UD.out.same (TUpd.from SD.out.x hu3)); have x0 := KP.out w3 v2 u2 hu3; clear ht3 hu3
                try go_simp
                refine hK _ _ ?_
                clear hK K
                refine wpAny_taken (a' := ?aa6_4) (i := 6) (oi := ⟨some 45, _, _, _, _, _⟩) (v := ?vv6_4) rfl (by kernel_rfl) (by kernel_rfl) (by kernel_rfl) (fun _ _ _ h => h) (Or.inl ⟨by rfl, ?hy6_4⟩) ?ha6_4 ?rs6_4
                case hy6_4 => first | (intro w; go_simp; done) | (intro w; go_simp; with_reducible rfl)
                case ha6_4 => go_simp; with_reducible rfl
                refine wpAny_taken (a' := ?aa7_4) (i := 7) (oi := ⟨some 46, _, _, _, _, _⟩) (v := ?vv7_4) rfl (by kernel_rfl) (by kernel_rfl) (by kernel_rfl) (fun _ _ _ h => h) (Or.inl ⟨by rfl, ?hy7_4⟩) ?ha7_4 ?rs7_4
                case hy7_4 => first | (intro w; go_simp; done) | (intro w; go_simp; with_reducible rfl)
                case ha7_4 => go_simp; with_reducible rfl
                refine wpAny_taken (a' := ?aa8_4) (i := 8) (oi := ⟨some 47, _, _, _, _, _⟩) (v := ?vv8_4) rfl (by kernel_rfl) (by kernel_rfl) (by kernel_rfl) (fun _ _ _ h => h) (Or.inl ⟨by rfl, ?hy8_4⟩) ?ha8_4 ?rs8_4
                case hy8_4 => first | (intro w; go_simp; done) | (intro w; go_simp; with_reducible rfl)
                case ha8_4 => go_simp; with_reducible rfl
                refine wpAny_ready (rs := [9]) (by kernel_rfl) (by simp) ?_
                refine AllReady.cons (o := ⟨some 48, _, _, _, _, _⟩) rfl (fun K hK => ?_) AllReady.nil
                go_simp
                refine hK _ _ ?_
                clear hK K
                refine wpAny_taken (a' := ?aa10_4) (i := 10) (oi := ⟨some 49, _, _, _, _, _⟩) (v := ?vv10_4) rfl (by kernel_rfl) (by kernel_rfl) (by kernel_rfl) (fun _ _ _ h => h) (Or.inl ⟨by rfl, ?hy10_4⟩) ?ha10_4 ?rs10_4
                case hy10_4 => first | (intro w; go_simp; done) | (intro w; go_simp; with_reducible rfl)
                case ha10_4 => go_simp; with_reducible rfl
                refine wpAny_taken (a' := ?aa11_4) (i := 11) (oi := ⟨some 50, _, _, _, _, _⟩) (v := ?vv11_4) rfl (by kernel_rfl) (by kernel_rfl) (by kernel_rfl) (fun _ _ _ h => h) (Or.inl ⟨by rfl, ?hy11_4⟩) ?ha11_4 ?rs11_4
                case hy11_4 => first | (intro w; go_simp; done) | (intro w; go_simp; with_reducible rfl)
                case ha11_4 => go_simp; with_reducible rfl
                refine wpAny_taken (a' := ?aa12_4) (i := 12) (oi := ⟨some 51, _, _, _, _, _⟩) (v := undef) rfl (by kernel_rfl) (by kernel_rfl) (by kernel_rfl) (fun _ _ _ h => h) (Or.inr ⟨by rfl, rfl⟩) ?ha12_4 ?rs12_4
                case ha12_4 => go_simp; with_reducible rfl
                refine wpAny_taken (a' := ?aa13_4) (i := 13) (oi := ⟨some 52, _, _, _, _, _⟩) (v := undef) rfl (by kernel_rfl) (by kernel_rfl) (by kernel_rfl) (fun _ _ _ h => h) (Or.inr ⟨by rfl, rfl⟩) ?ha13_4 ?rs13_4
                case ha13_4 => go_simp; with_reducible rfl
                refine wpAny_taken (a' := ?aa14_4) (i := 14) (oi := ⟨some 53, _, _, _, _, _⟩) (v := undef) rfl (by kernel_rfl) (by kernel_rfl) (by kernel_rfl) (fun _ _ _ h => h) (Or.inr ⟨by rfl, rfl⟩) ?ha14_4 ?rs14_4
                case ha14_4 => go_simp; with_reducible rfl
                refine wpAny_taken (a' := ?aa15_4) (i := 15) (oi := ⟨some 54, _, _, _, _, _⟩) (v := undef) rfl (by kernel_rfl) (by kernel_rfl) (by kernel_rfl) (fun _ _ _ h => h) (Or.inr ⟨by rfl, rfl⟩) ?ha15_4 ?rs15_4
                case ha15_4 => go_simp; with_reducible rfl
                refine wpAny_taken (a' := ?aa16_4) (i := 16) (oi := ⟨some 55, _, _, _, _, _⟩) (v := undef) rfl (by kernel_rfl) (by kernel_rfl) (by kernel_rfl) (fun _ _ _ h => h) (Or.inr ⟨by rfl, rfl⟩) ?ha16_4 ?rs16_4
                case ha16_4 => go_simp; with_reducible rfl
                refine wpAny_ready (rs := [17]) (by kernel_rfl) (by simp) ?_
                refine AllReady.cons (o := ⟨some 56, _, _, _, _, _⟩) rfl (fun K hK => ?_) AllReady.nil
                go_simp
                refine hK _ _ ?_
                clear hK K
                refine wpAny_taken (a' := ?aa18_4) (i := 18) (oi := ⟨some 57, _, _, _, _, _⟩) (v := undef) rfl (by kernel_rfl) (by kernel_rfl) (by kernel_rfl) (fun _ _ _ h => h) (Or.inr ⟨by rfl, rfl⟩) ?ha18_4 ?rs18_4
                case ha18_4 => go_simp; with_reducible rfl
                refine wpAny_taken (a' := ?aa19_4) (i := 19) (oi := ⟨some 58, _, _, _, _, _⟩) (v := ?vv19_4) rfl (by kernel_rfl) (by kernel_rfl) (by kernel_rfl) (fun _ _ _ h => h) (Or.inl ⟨by rfl, ?hy19_4⟩) ?ha19_4 ?rs19_4
                case hy19_4 => first | (intro w; go_simp; done) | (intro w; go_simp; with_reducible rfl)
                case ha19_4 => go_simp; with_reducible rfl
                refine wpAny_taken (a' := ?aa20_4) (i := 20) (oi := ⟨some 59, _, _, _, _, _⟩) (v := ?vv20_4) rfl (by kernel_rfl) (by kernel_rfl) (by kernel_rfl) (fun _ _ _ h => h) (Or.inl ⟨by rfl, ?hy20_4⟩) ?ha20_4 ?rs20_4
                case hy20_4 => first | (intro w; go_simp; done) | (intro w; go_simp; with_reducible rfl)
                case ha20_4 => go_simp; with_reducible rfl
                refine wpAny_taken (a' := ?aa21_4) (i := 21) (oi := ⟨some 60, _, _, _, _, _⟩) (v := ?vv21_4) rfl (by kernel_rfl) (by kernel_rfl) (by kernel_rfl) (fun _ _ _ h => h) (Or.inl ⟨by rfl, ?hy21_4⟩) ?ha21_4 ?rs21_4
                case hy21_4 => first | (intro w; go_simp; done) | (intro w; go_simp; with_reducible rfl)
                case ha21_4 => go_simp; with_reducible rfl
                refine wpAny_taken (a' := ?aa22_4) (i := 22) (oi := ⟨some 61, _, _, _, _, _⟩) (v := ?vv22_4) rfl (by kernel_rfl) (by kernel_rfl) (by kernel_rfl) (fun _ _ _ h => h) (Or.inl ⟨by rfl, ?hy22_4⟩) ?ha22_4 ?rs22_4
                case hy22_4 => first | (intro w; go_simp; done) | (intro w; go_simp; with_reducible rfl)
                case ha22_4 => go_simp; with_reducible rfl
                refine wpAny_taken (a' := ?aa23_4) (i := 23) (oi := ⟨some 62, _, _, _, _, _⟩) (v := ?vv23_4) rfl (by kernel_rfl) (by kernel_rfl) (by kernel_rfl) (fun _ _ _ h => h) (Or.inl ⟨by rfl, ?hy23_4⟩) ?ha23_4 ?rs23_4
                case hy23_4 => first | (intro w; go_simp; done) | (intro w; go_simp; with_reducible rfl)
                case ha23_4 => go_simp; with_reducible rfl
                refine wpAny_ready (rs := [24]) (by kernel_rfl) (by simp) ?_
                refine AllReady.cons (o := ⟨some 63, _, _, _, _, _⟩) rfl (fun K hK => ?_) AllReady.nil
                refine stepg_call3 rfl (f := 6) (v := .pointer (some ⟨B + 1 + 1 + 1, 0, none⟩)) (u := .pointer (some ⟨B + 1 + 1, 0, none⟩)) (t := .int .i64 6) rfl rfl rfl rfl (Tryz.call6 _) (EC.out w3 v2 u2 (S3.out.mono (by decide))) ?_; rintro e5 w5 ⟨rfl, hl5, hu5⟩; refine ⟨_, rfl, ?_⟩; have S5 := Lib.hid (S3.out.free hl5 hu5); have U5 := Lib.hid (U3.out.same hu5.of_free); clear hl5 hu5
                try go_simp
                refine hK _ _ ?_
                clear hK K
                refine wpAny_taken (a' := ?aa25_4) (i := 25) (oi := ⟨some 64, _, _, _, _, _⟩) (v := ?vv25_4) rfl (by kernel_rfl) (by kernel_rfl) (by kernel_rfl) (fun _ _ _ h => h) (Or.inl ⟨by rfl, ?hy25_4⟩) ?ha25_4 ?rs25_4
                case hy25_4 => first | (intro w; go_simp; done) | (intro w; go_simp; with_reducible rfl)
                case ha25_4 => go_simp; with_reducible rfl
                refine wpAny_taken (a' := ?aa26_4) (i := 26) (oi := ⟨some 65, _, _, _, _, _⟩) (v := ?vv26_4) rfl (by kernel_rfl) (by kernel_rfl) (by kernel_rfl) (fun _ _ _ h => h) (Or.inl ⟨by rfl, ?hy26_4⟩) ?ha26_4 ?rs26_4
                case hy26_4 => first | (intro w; go_simp; done) | (intro w; go_simp; with_reducible rfl)
                case ha26_4 => go_simp; with_reducible rfl
                refine wpAny_done (by kernel_rfl) ?_ _
                go_wp2
                go_roundw
                case rel => exact ⟨i + 1, al + o.b.length, by go_num, by go_num, by omega, by omega, by omega, FIN.out w5 v2 u2 S5.out U5.out⟩
                case measure => simp [intOf]; omega
        · have t3 : decide ((i : Int) < 300) = false := decide_eq_false (by omega)
          have t3' : decide (i < 300) = false := decide_eq_false c3
          go_wp2
          go_meet
          case rel => exact ST.out
      · have t1 : decide ((i : Int) < (L.length : Int)) = false := decide_eq_false (by omega)
        have t1' : decide (i < L.length) = false := decide_eq_false c1
        go_wp2
        go_meet
        case rel => exact ST.out
  case rest =>
    obtain ⟨wA, rfl⟩ : ∃ q, q = wc := ⟨_, rfl⟩
    obtain ⟨l0, e0, v0, u0, l1, e1, v1, u1, hs2, hl0, hl1, hup⟩ := hcut
    have SA := Lib.hid hs2; have UA := Lib.hid hup
    clear hs2 hup
    go_wp2_with fail
    refine (done_calls wA B (P4 B (B + 1) v0 u0 v1 u1) (B + 1 + 1 + 1) (B + 1 + 1) 5 SA.out.lb (by decide) B 0 (B + 1) 0 l0 e0 v0 u0 SA.out.x.a SA.out.x.b (by omega)).mono ?_
    rintro r wB ⟨rfl, hlb, hub⟩
    have SB := Lib.hid (SA.out.free hlb hub)
    have UB := Lib.hid (UA.out.same hub.of_free)
    clear hlb hub
    go_wp2_with fail
    refine (done_calls wB B (P4 B (B + 1) v0 u0 v1 u1) (B + 1 + 1 + 1) (B + 1 + 1) 7 SB.out.lb (by decide) B 2 (B + 1) 2 l1 e1 v1 u1 SB.out.y.a SB.out.y.b (by omega)).mono ?_
    rintro r wC ⟨rfl, hlb, hub⟩
    have SC := Lib.hid (SB.out.free hlb hub)
    have UC := Lib.hid (UB.out.same hub.of_free)
    clear hlb hub
    go_wp2_with fail
    refine (Settle_calls wC B (P4 B (B + 1) v0 u0 v1 u1) (B + 1 + 1 + 1) (B + 1 + 1) 9 0 SC.out.lb (by decide) (by decide)).mono ?_
    rintro r wD ⟨rfl, hlb, hub⟩
    have LD := Lib.hid hlb
    have UD := Lib.hid (UC.out.same hub.of_free)
    clear hlb hub
    go_wp2_with fail
    refine (Look_LB wD B (P4 B (B + 1) v0 u0 v1 u1) (B + 1 + 1 + 1) (B + 1 + 1) 0 LD.out).mono ?_
    rintro r wE ⟨rfl, hlb, hub⟩
    have BE : Hid (Below w.heap.size w wE) := B0.out.trans ((UD.out.same hub.of_free).below (fun k s _ => by rw [HB.out]; exact s) B0.out.size)
    clear hlb hub
    go_wp2_with fail
    refine (works_calls wE (HT.out.below BE.out) (Nat.lt_of_lt_of_le HG.out BE.out.size)).mono ?_
    rintro r wF ⟨rfl, hbf⟩
    have BF := Lib.hid (BE.out.trans (hbf.mono BE.out.size))
    clear hbf
    go_wp2
    go_ret
    exact ⟨rfl, BF.out⟩
end Go.Proofs.YtjiciklnhcmfaaaGreatDoor
