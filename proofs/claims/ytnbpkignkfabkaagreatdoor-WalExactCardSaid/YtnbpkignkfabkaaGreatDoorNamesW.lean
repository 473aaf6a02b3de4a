/- disk.names. -/
import Derived.Test.YtnbpkignkfabkaaGreatDoorProg
import Derived.WalkKit
import Derived.Ground.NamesProg
import Derived.Shelf.Sort.Plain
import Derived.Shelf.Slices.In.SortNone
import Derived.Test.YtnbpkignkfabkaaGreatDoorRep
import Derived.Maps.RangeWalk
import Derived.Sort.MapsRangeIn
import Derived.OwnWalk
/- The shelf's contracts at this program: which numbers its functions and types bear (printed by the kit's lay-plain, turned into a template by detpl.py). -/
namespace Go.Proofs.YtnbpkignkfabkaaGreatDoor
set_option linter.unusedVariables false
set_option linter.unusedSimpArgs false
open Go.Shelf Go.Lib Go.Sort
def lays190_ren : Go.Shelf.Ren := ⟨fun | 190 => 125 | 125 => 169 | 258 => 168 | 128 => 190 | 129 => 191 | 302 => 181 | 303 => 182 | 304 => 183 | 305 => 184 | 306 => 185 | 307 => 186 | 308 => 187 | 309 => 188 | 310 => 189 | 333 => 195 | 329 => 196 | 330 => 197 | 334 => 198 | 335 => 199 | 336 => 200 | 344 => 205 | n => n, fun | 31 => 143 | 9 => 9 | 3 => 3 | 46 => 222 | 0 => 0 | 51 => 108 | 53 => 150 | 4 => 4 | 183 => 279 | 182 => 278 | 131 => 119 | 5 => 5 | 218 => 288 | 222 => 292 | 228 => 301 | 229 => 302 | n => n, fun | n => n⟩
theorem lays190 : Go.Proofs.Lays.n190 Tryz.prog lays190_ren := {
  mixed := by kernel_rfl
  f125 := Tryz.func169.trans (congrArg some (by kernel_rfl))
  f128 := Tryz.func190.trans (congrArg some (by kernel_rfl))
  f129 := Tryz.func191.trans (congrArg some (by kernel_rfl))
  f190 := Tryz.func125.trans (congrArg some (by kernel_rfl))
  f258 := Tryz.func168.trans (congrArg some (by kernel_rfl))
  f302 := Tryz.func181.trans (congrArg some (by kernel_rfl))
  f303 := Tryz.func182.trans (congrArg some (by kernel_rfl))
  f304 := Tryz.func183.trans (congrArg some (by kernel_rfl))
  f305 := Tryz.func184.trans (congrArg some (by kernel_rfl))
  f306 := Tryz.func185.trans (congrArg some (by kernel_rfl))
  f307 := Tryz.func186.trans (congrArg some (by kernel_rfl))
  f308 := Tryz.func187.trans (congrArg some (by kernel_rfl))
  f309 := Tryz.func188.trans (congrArg some (by kernel_rfl))
  f310 := Tryz.func189.trans (congrArg some (by kernel_rfl))
  f329 := Tryz.func196.trans (congrArg some (by kernel_rfl))
  f330 := Tryz.func197.trans (congrArg some (by kernel_rfl))
  f333 := Tryz.func195.trans (congrArg some (by kernel_rfl))
  f334 := Tryz.func198.trans (congrArg some (by kernel_rfl))
  f335 := Tryz.func199.trans (congrArg some (by kernel_rfl))
  f336 := Tryz.func200.trans (congrArg some (by kernel_rfl))
  f344 := Tryz.func205.trans (congrArg some (by kernel_rfl))
  t0 := Tryz.underlying0
  a0 := Tryz.isAgg0
  z0 := Tryz.sizeOf0
  v0 := Tryz.zeroValue0
  t3 := Tryz.underlying3
  a3 := Tryz.isAgg3
  z3 := Tryz.sizeOf3
  v3 := Tryz.zeroValue3
  t4 := Tryz.underlying4
  a4 := Tryz.isAgg4
  z4 := Tryz.sizeOf4
  v4 := Tryz.zeroValue4
  t5 := Tryz.underlying5
  a5 := Tryz.isAgg5
  z5 := Tryz.sizeOf5
  v5 := Tryz.zeroValue5
  t9 := Tryz.underlying9
  a9 := Tryz.isAgg9
  z9 := Tryz.sizeOf9
  v9 := Tryz.zeroValue9
  t31 := Tryz.underlying143
  a31 := Tryz.isAgg143
  z31 := Tryz.sizeOf143
  v31 := Tryz.zeroValue143
  t46 := Tryz.underlying222
  a46 := Tryz.isAgg222
  z46 := Tryz.sizeOf222
  v46 := Tryz.zeroValue222
  t51 := Tryz.underlying108
  a51 := Tryz.isAgg108
  z51 := Tryz.sizeOf108
  v51 := Tryz.zeroValue108
  t53 := Tryz.underlying150
  a53 := Tryz.isAgg150
  z53 := Tryz.sizeOf150
  v53 := Tryz.zeroValue150
  t131 := Tryz.underlying119
  a131 := Tryz.isAgg119
  z131 := Tryz.sizeOf119
  v131 := Tryz.zeroValue119
  t182 := Tryz.underlying278
  a182 := Tryz.isAgg278
  z182 := Tryz.sizeOf278
  v182 := Tryz.zeroValue278
  t183 := Tryz.underlying279
  a183 := Tryz.isAgg279
  z183 := Tryz.sizeOf279
  v183 := Tryz.zeroValue279
  t218 := Tryz.underlying288
  a218 := Tryz.isAgg288
  z218 := Tryz.sizeOf288
  v218 := Tryz.zeroValue288
  t222 := Tryz.underlying292
  a222 := Tryz.isAgg292
  z222 := Tryz.sizeOf292
  v222 := Tryz.zeroValue292
  t228 := Tryz.underlying301
  a228 := Tryz.isAgg301
  z228 := Tryz.sizeOf301
  v228 := Tryz.zeroValue301
  t229 := Tryz.underlying302
  a229 := Tryz.isAgg302
  z229 := Tryz.sizeOf302
  v229 := Tryz.zeroValue302 }
/-- slices.Sort of strings. -/
theorem Sort_some (blk off cap : Nat) (ss : List (List UInt8)) (w : World) (hH : Holds encStr w blk off ss.toArray) (hblk : blk < w.heap.size) (hsz : ss.length < 4611686018427387904) :
    Calls Tryz.prog 125 #[.slice (some ⟨blk, off, none⟩) ss.length cap] w fun e w' => e = .returned (.tuple #[]) ∧ ∃ n os, w' = grow (putRow encStr (Sort.ahead w n) blk off (ss.mergeSort fun x y => decide (x ≤ y)).toArray) os :=
  Any.slices_Sort_string lays190 blk off cap ss w hH hblk hsz
theorem Sort_none (p : Option Addr) (cap : Nat) (w : World) : Calls Tryz.prog 125 #[.slice p 0 cap] w fun e w' => e = .returned (.tuple #[]) ∧ w' = w :=
  Any.slices_Sort_string_none lays190 p cap w
end Go.Proofs.YtnbpkignkfabkaaGreatDoor
/- disk.names: the files' names in order. -/
namespace Go.Proofs.YtnbpkignkfabkaaGreatDoor
set_option linter.unusedVariables false
set_option linter.unusedSimpArgs false
open Go.RowKit Go.Maps
def strs (l : List (List UInt8)) : List Value := l.map fun s => Value.string ⟨s.toArray⟩
theorem strs_length (l : List (List UInt8)) : (strs l).length = l.length := by simp [strs]
theorem strs_get {l : List (List UInt8)} {i : Nat} (h : i < l.length) : (strs l)[i]? = some (.string ⟨l[i].toArray⟩) := by simp [strs, h]
theorem strs_snoc (l : List (List UInt8)) (x : List UInt8) : strs l ++ [.string ⟨x.toArray⟩] = strs (l ++ [x]) := by simp [strs]
theorem infoStr : (Tryz.prog.info? 9).map (fun i => (i.zero, i.size, i.bytes)) = some (some (.string ⟨#[]⟩), 1, 16) := by kernel_rfl
theorem key_inv {v : Value} {kl : Lit} (h : keyOf Tryz.prog 9 v = some kl) : ∃ x : List UInt8, v = .string ⟨x.toArray⟩ := by
  obtain ⟨s, rfl⟩ := Maps.keyOf_string_inv Tryz.underlying9 h
  exact ⟨s.data.toList, by congr⟩
theorem key_inv2 {x : List UInt8} {kl : Lit} (h : keyOf Tryz.prog 9 (.string ⟨x.toArray⟩) = some kl) : kl = key x := by
  simp [keyOf, mapKey, Tryz.underlying9] at h
  exact h.2.symm
theorem same_key (a b : List UInt8) : (key a).sameKey (key b) = (a == b) := rfl
theorem perm_nodup {α : Type} [DecidableEq α] : ∀ {l l' : List α}, l.Nodup → l'.Nodup → (∀ x, x ∈ l ↔ x ∈ l') → l.Perm l'
  | [], l', _, _, h => by
    cases l' with
    | nil => exact List.Perm.refl _
    | cons y l' => exact absurd ((h y).2 (by simp)) (by simp)
  | x :: l, l', h1, h2, h => by
    rw [List.nodup_cons] at h1
    have hx : x ∈ l' := (h x).1 (by simp)
    have p := List.perm_cons_erase hx
    refine List.Perm.trans (List.Perm.cons x (perm_nodup h1.2 (h2.sublist List.erase_sublist) ?_)) p.symm
    intro y
    rw [h2.mem_erase_iff]
    constructor
    · intro hy
      exact ⟨fun e => h1.1 (by rw [← e]; exact hy), (h y).1 (List.mem_cons_of_mem _ hy)⟩
    · rintro ⟨hne, hy⟩
      rcases List.mem_cons.1 ((h y).2 hy) with e | e
      · exact absurd e hne
      · exact e
/-- The names in order. -/
def nmsC (C : Con) : List (List UInt8) := C.map (·.1)
theorem sorted_names {C : Con} (h : SortedC C) {l : List (List UInt8)} (hp : l.Perm (nmsC C)) : l.mergeSort (fun x y => decide (x ≤ y)) = nmsC C := by
  have hp2 : (l.mergeSort (fun x y => decide (x ≤ y))).Perm (nmsC C) := (List.mergeSort_perm l _).trans hp
  have hs : (l.mergeSort (fun x y => decide (x ≤ y))).Pairwise (fun x y => decide (x ≤ y) = true) := List.pairwise_mergeSort (fun a b c h1 h2 => by
    rw [decide_eq_true_iff] at h1 h2 ⊢; exact List.le_trans h1 h2) (fun a b => by
    rw [Bool.or_eq_true, decide_eq_true_iff, decide_eq_true_iff]; exact List.le_total a b) l
  have hs2 : (nmsC C).Pairwise (fun x y => decide (x ≤ y) = true) := by
    unfold nmsC
    rw [List.pairwise_map]
    refine List.Pairwise.imp ?_ h
    intro a b hab
    rw [decide_eq_true_iff]
    exact List.le_of_lt hab
  exact hp2.eq_of_pairwise (fun a b _ _ h1 h2 => List.le_antisymm (of_decide_eq_true h1) (of_decide_eq_true h2)) hs hs2
open Go.Sort in
/-- A row of strings behind a sort. -/
theorem own_sorted {w : World} {base g n cap k : Nat} {l l' : List (List UInt8)} {os : Array Obj} (h : Own w base 9 1 (.slice (some ⟨g, 0, none⟩) n cap) n (strs l)) (hl : l'.length = n) :
    Own (grow (putRow encStr (Sort.ahead w k) g 0 l'.toArray) os) base 9 1 (.slice (some ⟨g, 0, none⟩) n cap) n (strs l') ∧ Upd (fun i => i = g) w (grow (putRow encStr (Sort.ahead w k) g 0 l'.toArray) os) := by
  rcases h.2 with ⟨hv, _⟩ | ⟨g', cap', cur, fr, hv, hb, hg, hf, hnc, hcm, hcs, ht⟩
  · cases hv
  · cases hv
    have hlt := lt_of_block hg
    have hh : (grow (putRow encStr (Sort.ahead w k) g 0 l'.toArray) os).heap = w.heap.modify g (onCells (putCells encStr 0 l'.toArray)) ++ os := rfl
    have hget : ∀ i, i < w.heap.size → (grow (putRow encStr (Sort.ahead w k) g 0 l'.toArray) os).heap[i]? = (w.heap.modify g (onCells (putCells encStr 0 l'.toArray)))[i]? := by
      intro i hi
      rw [hh, Array.getElem?_append_left (by simpa using hi)]
    have hsame : ∀ i, i < w.heap.size → i ≠ g → (grow (putRow encStr (Sort.ahead w k) g 0 l'.toArray) os).heap[i]? = w.heap[i]? := by
      intro i hi hne
      rw [hget i hi, Array.getElem?_modify, if_neg (fun e => hne e.symm)]
    have hblk : (grow (putRow encStr (Sort.ahead w k) g 0 l'.toArray) os).heap[g]? = some (.cells (putCells encStr 0 l'.toArray cur) 9 fr) := by
      rw [hget g hlt, Array.getElem?_modify, if_pos rfl, hg]
      rfl
    have hps : (putCells encStr 0 l'.toArray cur).size = cur.size := by simp [putCells]
    refine ⟨⟨by rw [strs_length, hl, Nat.mul_one], .inr ⟨g, cap, _, fr, rfl, hb, hblk, by rw [hps]; exact hf, hnc, hcm, by rw [hps]; exact hcs, ?_⟩⟩, ⟨rfl, rfl, rfl, ?_, fun i hi hne => hsame i hi hne⟩⟩
    · apply List.ext_getElem?
      intro i
      rw [List.getElem?_take]
      by_cases hi : i < n * 1
      · rw [if_pos hi]
        have hil : i < l'.length := by omega
        have hic : i < cur.size := by rw [hcs]; omega
        rw [strs_get hil, Array.getElem?_toList]
        unfold putCells
        rw [Array.getElem?_mapIdx, Array.getElem?_eq_getElem hic, Option.map_some, if_pos ⟨Nat.zero_le _, by rw [List.size_toArray]; omega⟩]
        rw [Nat.sub_zero, getElem!_pos _ i (by rw [List.size_toArray]; exact hil)]
        rfl
      · rw [if_neg hi]
        rw [List.getElem?_eq_none]
        rw [strs_length]; omega
    · rw [hh]; simp
end Go.Proofs.YtnbpkignkfabkaaGreatDoor
namespace Go.Proofs.YtnbpkignkfabkaaGreatDoor
set_option linter.unusedVariables false
set_option linter.unusedSimpArgs false
open Go.RowKit Go.Maps
/-- The names that have come so far. -/
structure NmS (wr : World) (base r mb : Nat) (L : List Fl) (D : DataW Value) (v : Value) (done : List (List UInt8)) (left : Lit → Bool) (cnt : Nat) : Prop where
  row : Own wr base 9 1 v done.length (strs done)
  rg : wr.ranges Tryz.prog 9 RV mb r L.length D left cnt
  nd : done.Nodup
  mem : ∀ nm, nm ∈ done ↔ hasF L nm = true ∧ left (key nm) = false
  sub : ∀ nm, left (key nm) = true → hasF L nm = true
  ne : v.ownBlock ≠ some r ∧ v.ownBlock ≠ some mb
set_option maxRecDepth 100000 in
set_option maxHeartbeats 4000000 in
theorem names_calls (base db mb : Nat) (m : Int) (k : DkV) (L : List Fl) (D : DataW Value) (C : Con) (w : World) (h : Dsk w base db mb m k L D) (hr : Rep L C) (hL : C.length ≤ 64) :
    Calls Tryz.prog 65 #[.pointer (some ⟨db, 0, none⟩)] w fun r w' => ∃ v, r = .returned v ∧ Own w' w.heap.size 9 1 v (nmsC C).length (strs (nmsC C)) ∧ Below w.heap.size w w' := by
  obtain ⟨i, hi, hz, hsz, hby⟩ := info_parts infoStr
  have hlen : L.length ≤ 64 := by rw [hr.len]; exact hL
  have x4 : w.cell? ⟨db, 4, none⟩ = some (.map (some mb)) := h.cell 4
  have ln := fun ty => h.fls.len ty
  obtain ⟨nL, hnL⟩ : ∃ n, L.length = n := ⟨_, rfl⟩
  rw [hnL] at ln
  have M0 : Hid (i.bytes * nL ≤ 281474976710656) := by show _ ≤ _; rw [hby]; omega
  have M1 : Hid (nL ≤ maxLen) := by show _ ≤ _; unfold maxLen; omega
  have HI := Lib.hid hi; have HZ := Lib.hid hz; have HS := Lib.hid hsz; have RP := Lib.hid hr; have HN := Lib.hid hnL; have HL := Lib.hid hlen
  have H := Lib.hid h
  clear hi hz hsz hby h hr hL hnL hlen
  go_enter Tryz.func65, Tryz.ntmps65
  go_wp2_with (at_make; refine wpList_make_own w rfl (.const (.int .i64 0)) (.tmp 9) 143 rfl w.heap.size 9 i (.string ⟨#[]⟩) 1 Tryz.underlying143 HI.out HZ.out HS.out .i64 .i64 (nL : Int) nL rfl rfl rfl M0.out M1.out (Nat.le_refl _) ?_)
  intro w1 ho hg
  have B1 := Lib.hid ((Below.refl w.heap.size w).grown hg (Nat.le_refl _) (fun k hk => by cases hk))
  have O1 := Lib.hid (Own.ofRow ho); clear ho hg
  have H1 := Lib.hid (H.out.below B1.out)
  have y4 : w1.cell? ⟨db, 4, none⟩ = some (.map (some mb)) := H1.out.cell 4
  clear x4 ln
  go_wp2_with (at_range; refine wpList_range_own _ rfl _ 105 rfl 9 74 strKeyed Tryz.underlying105 RV mb L.length D rfl H1.out.fls.map ?_; intro w2 hrg2 hg2 hs2)
  obtain ⟨r, hr⟩ : ∃ r, w1.heap.size = r := ⟨_, rfl⟩
  have B2 := Lib.hid (B1.out.trans ((Below.refl w1.heap.size w1).grown hg2 (Nat.le_refl _) (fun k hk => by cases hk) |>.mono B1.out.size))
  have O2 := Lib.hid (O1.out.upd (Upd.mono (S' := fun _ => False) ⟨hg2.os, hg2.tape, hg2.output, hg2.size, fun k hk _ => hg2.block k hk (by simp)⟩ (fun _ s _ => s)) (fun _ _ s => s))
  have RGE : Hid (w.heap.size ≤ r) := by show _ ≤ _; rw [← hr]; exact B1.out.size
  have NE0 : Hid ((Value.slice (some ⟨w.heap.size, 0, none⟩) 0 nL).ownBlock ≠ some r ∧ (Value.slice (some ⟨w.heap.size, 0, none⟩) 0 nL).ownBlock ≠ some mb) := by
    have h1 := (O1.out.lt w.heap.size rfl).2
    refine ⟨fun e => ?_, fun e => ?_⟩
    · have e' : w.heap.size = r := by simpa [Value.ownBlock] using e
      omega
    · have e' : w.heap.size = mb := by simpa [Value.ownBlock] using e
      have h2 := H.out.fls.lt mb (.inl rfl)
      omega
  have HAS := Lib.hid H1.out.fls.has
  rw [hr] at hrg2
  have RG2 := Lib.hid hrg2
  rw [hr]
  clear hrg2 hg2 hs2 hr
  go_frame
  go_loopw [3] (fun v wr => ∃ (done : List (List UInt8)) (left : Lit → Bool) (cnt : Nat), NmS wr w.heap.size r mb L D v done left cnt ∧ Below w.heap.size w wr) (fun _ wr => wr.rangeLeft mb r)
  case atStart =>
    refine ⟨[], _, _, ⟨O2.out, RG2.out, List.nodup_nil, ?_, ?_, NE0.out⟩, B2.out⟩
    · intro nm
      rw [HAS.out]
      simp
    · intro nm hn
      rw [← HAS.out]; exact hn
  case round =>
    obtain ⟨done, left, cnt, ⟨ho, hrg, hnd, hmem, hsub, hne⟩, hb⟩ := hrel
    have OW := Lib.hid ho; have BW := Lib.hid hb; have RG := Lib.hid hrg; have ND := Lib.hid hnd; have MEM := Lib.hid hmem; have SUB := Lib.hid hsub; have NE := Lib.hid hne
    clear ho hb hrg hnd hmem hsub hne
    go_wp2_with (at_next; refine wpList_next_ranges _ rfl _ rfl 9 strKeyed RV (fun x : List UInt8 => .string ⟨x.toArray⟩) (fun x : Value => x) (fun key kl hk => key_inv hk) (fun v y _ => ⟨v, rfl⟩) mb r L.length D _ _ rfl RG.out ?_ ?_)
    · intro hc0 hl0
      have PERM : done.Perm (nmsC C) := perm_nodup ND.out RP.out.so.nodup (fun nm => by
        rw [MEM.out]
        constructor
        · rintro ⟨h1, _⟩
          rw [RP.out.has] at h1
          obtain ⟨p, hp, rfl⟩ := hasC_iff.1 h1
          exact List.mem_map.2 ⟨p, hp, rfl⟩
        · intro h1
          obtain ⟨p, hp, rfl⟩ := List.mem_map.1 h1
          exact ⟨by rw [RP.out.has]; exact hasC_iff.2 ⟨p, hp, rfl⟩, hl0 _⟩)
      have SRT := Lib.hid (sorted_names RP.out.so PERM)
      have LEN := Lib.hid PERM.length_eq
      clear hc0 hl0 PERM
      cases hd : done with
      | nil =>
        subst hd
        obtain ⟨a, cap, rfl, -, -, -⟩ := OW.out.shape'
        have e0 : nmsC C = [] := by have h9 := LEN.out; exact List.eq_nil_of_length_eq_zero (by rw [← h9]; rfl)
        have FIN := Lib.hid (show Own wr w.heap.size 9 1 (.slice a 0 cap) (nmsC C).length (strs (nmsC C)) from by rw [e0]; exact OW.out)
        have SC := Lib.hid (Sort_none a cap wr)
        clear e0
        go_wp2_with fail
        refine SC.out.mono ?_
        rintro e w5 ⟨rfl, rfl⟩
        go_wp2
        go_ret
        exact ⟨_, rfl, FIN.out, BW.out⟩
      | cons d0 dr =>
        have hpos : 0 < done.length := by rw [hd]; simp
        obtain ⟨g, cap, rfl⟩ := OW.out.shape hpos
        clear hd
        have HH : Go.Sort.Holds encStr wr g 0 done.toArray := by
          intro j hj
          rw [List.size_toArray] at hj
          rw [Nat.zero_add]
          refine ⟨?_, OW.out.frozenAt j (by omega)⟩
          rw [OW.out.cellAt j (by omega), strs_get hj, getElem!_pos _ j (by rw [List.size_toArray]; exact hj)]
          rfl
        have SC := Lib.hid (Sort_some g 0 cap done wr HH (OW.out.lt g rfl).2 (by have := LEN.out; have h9 : (nmsC C).length = C.length := (by simp [nmsC]); have := HL.out; have := RP.out.len; omega))
        have GL := Lib.hid (OW.out.lt g rfl)
        clear HH hpos
        go_wp2_with fail
        refine SC.out.mono ?_
        rintro e w5 ⟨rfl, n5, os5, rfl⟩
        rw [SRT.out]
        obtain ⟨g1, g2⟩ := own_sorted (k := n5) (os := os5) OW.out (l' := nmsC C) LEN.out.symm
        have G1 := Lib.hid g1
        have G2 := Lib.hid (BW.out.trans (g2.below (B := w.heap.size) (fun k hk _ => by have h9 : k = g := hk; rw [h9]; exact GL.out.1) BW.out.size))
        generalize Go.Sort.grow (Go.Sort.putRow encStr (Go.Sort.ahead wr n5) g 0 (nmsC C).toArray) os5 = w6 at *
        clear g1 g2
        have LEQ := LEN.out
        rw [LEN.out] at G1
        go_wp2
        go_ret
        exact ⟨_, rfl, G1.out, G2.out⟩
    · intro x c kl y1 y2 w3 hwxn hwx hlx hrv hat hrg3 hlt hg3 hs3 hen
      have hkl := key_inv2 hwx
      subst hkl
      have U3 : Upd (fun i => i = r) wr w3 := ⟨hg3.os, hg3.tape, hg3.output, hg3.size, fun k hk hne => hg3.block k hk (fun e => hne (Option.some.inj e))⟩
      have O3 := Lib.hid (OW.out.upd U3 (fun k hk e => NE.out.1 (by rw [hk, e])))
      have B3 := Lib.hid (BW.out.trans (U3.below (B := w.heap.size) (fun k hk _ => by have h9 : k = r := hk; rw [h9]; exact RGE.out) BW.out.size))
      have RG3 := Lib.hid hrg3; have LX := Lib.hid hlx; have LT := Lib.hid hlt
      have DL : done.length ≤ 64 := by
        have hsubs : done.length ≤ (L.map Fl.nm).length := List.Nodup.length_le_of_subset ND.out (fun nm hnm => by
          obtain ⟨f, hf, rfl⟩ := hasF_iff.1 ((MEM.out nm).1 hnm).1
          exact List.mem_map.2 ⟨f, hf, rfl⟩)
        rw [List.length_map] at hsubs
        have := HL.out
        omega
      have M4 : Hid (done.length + 1 ≤ maxLen) := by show _ ≤ _; unfold maxLen; omega
      have M5 : Hid ((done.length + 1) * 16 ≤ 140737488355328) := by show _ ≤ _; omega
      have S3 : Hid (w.heap.size ≤ (w3.alloc (.cells #[.string ⟨x.toArray⟩] 9)).heap.size) := by show _ ≤ _; have := B3.out.size; simp; omega
      clear hwx hrv hat hg3 hs3 hrg3 hlx hlt DL U3
      go_wp2_with (at_builtin; refine wpList_append rfl (.tmp 20) (.tmp 22) 143 143 rfl w.heap.size 9 (.string ⟨#[]⟩) 1 16 Tryz.underlying143 infoStr rfl (n := done.length) (xs := strs done) (O3.out.alloc _) rfl (xv := .slice (some ⟨w3.heap.size, 0, none⟩) 1 1) (m := 1) (news := [.string ⟨x.toArray⟩]) (Src_new Tryz.underlying143 (e := 9) (heap_alloc_new w3 _) rfl) rfl M4.out M5.out S3.out ?_)
      intro v4 w4 ho4 hg4 hn4 hv4
      have NX : Hid (NmS w4 w.heap.size r mb L D v4 (done ++ [x]) (fun z => left z && !z.sameKey (key x)) hwxn ∧ Below w.heap.size w w4) := by
        have LR := RG3.out.lt
        have LM := RG3.out.owns.lt
        refine ⟨⟨?_, ?_, ?_, ?_, ?_, ?_⟩, ?_⟩
        · rw [List.length_append, List.length_singleton, ← strs_snoc]; exact ho4
        · exact (RG3.out.alloc _).kept hg4 (fun e => NE.out.2 e.symm) (fun e => NE.out.1 e.symm)
        · rw [List.nodup_append]
          refine ⟨ND.out, by simp, ?_⟩
          intro a ha b hb e
          rw [List.mem_singleton] at hb
          subst hb; subst e
          have := ((MEM.out a).1 ha).2
          rw [LX.out] at this
          cases this
        · intro nm
          rw [List.mem_append, List.mem_singleton, MEM.out]
          show _ ↔ hasF L nm = true ∧ (left (key nm) && !(nm == x)) = false
          by_cases e : nm = x
          · subst e
            constructor
            · intro _; exact ⟨SUB.out _ LX.out, by simp⟩
            · intro _; exact .inr rfl
          · have : (nm == x) = false := by simpa using e
            rw [this]
            constructor
            · rintro (h | h)
              · exact ⟨h.1, by rw [h.2]; rfl⟩
              · exact absurd h e
            · rintro ⟨h1, h2⟩
              exact .inl ⟨h1, by simpa using h2⟩
        · intro nm hn
          have hn' : (left (key nm) && !(nm == x)) = true := hn
          rw [Bool.and_eq_true] at hn'
          exact SUB.out nm hn'.1
        · rcases hv4 with e | e
          · rw [e]; exact NE.out
          · rw [e]
            exact ⟨by intro e2; injection e2 with e2; omega, by intro e2; injection e2 with e2; omega⟩
        · exact (B3.out.alloc B3.out.size _).grown hg4 S3.out (fun k hk => (OW.out.lt k hk).1)
      clear ho4 hg4 hn4 hv4 hen
      go_wp2
      go_roundw
      case rel => exact ⟨_, _, _, NX.out.1, NX.out.2⟩
      case measure => rw [NX.out.1.rg.left_eq, RG.out.left_eq]; exact LT.out
end Go.Proofs.YtnbpkignkfabkaaGreatDoor
