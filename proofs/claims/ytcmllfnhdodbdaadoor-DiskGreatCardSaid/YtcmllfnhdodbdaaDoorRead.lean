/- disk: Read. -/
import Derived.Test.YtcmllfnhdodbdaaDoorAppend
import Derived.Test.YtcmllfnhdodbdaaDoorText
namespace Go.Proofs.YtcmllfnhdodbdaaDoor
set_option linter.unusedVariables false
set_option linter.unusedSimpArgs false
open Go.RowKit Go.Maps Go.MuLone
/-- What Read comes to: the file's bytes in a row of their own, or an error. -/
def ReadP (w w' : World) (base db mb : Nat) (k : DkV) (L : List Fl) (D : DataW Value) (nm : List UInt8) (r : Ending) : Prop :=
  ∃ v, r = .returned (.tuple #[v, .int .i64 (mayR k.off L true [nm])]) ∧ (let t := if mayR k.off L true [nm] = 0 then bytF L nm else []; Own w' w.heap.size 5 1 v t.length (bys t)) ∧ Dsk w' base db mb 0 k L D ∧ Upd (fun i => i = db) w w'
set_option maxRecDepth 100000 in
set_option maxHeartbeats 4000000 in
theorem Read_calls (base db mb : Nat) (k : DkV) (L : List Fl) (D : DataW Value) (nm : List UInt8) (w : World) (h : Dsk w base db mb 0 k L D) (hnm : nm.length ≤ 140737488351232) (hlen : (bytF L nm).length ≤ 140737488355328) :
    Calls Tryd.prog 28 #[.pointer (some ⟨db, 0, none⟩), .string ⟨nm.toArray⟩] w fun r w' => ReadP w w' base db mb k L D nm r := by
  have hlt := h.lt
  have h1 := h.lock 1
  have z0 : (w.setCell ⟨db, 0, none⟩ (.int .i32 1)).heap.size = w.heap.size := by simp [World.setCell]
  have h2 := h1.below ((Below.refl _ _).alloc (Nat.le_refl _) (.cells #[.string ⟨nm.toArray⟩] 9))
  have MC := may_calls base db mb 1 k L D true w.heap.size 1 [nm] _ h2 (fun i hi => by
    have hi' : i = 0 := by simp at hi; exact hi
    subst hi'
    have hh := heap_alloc_new (w.setCell ⟨db, 0, none⟩ (.int .i32 1)) (.cells #[.string ⟨nm.toArray⟩] 9)
    rw [z0] at hh
    rw [cell_of_row' hh]; rfl) (by simp) (by simp) (fun x hx => by rw [List.mem_singleton] at hx; rw [hx]; exact hnm)
  rw [show [nm].length = 1 from rfl] at MC
  have MCH := Lib.hid MC
  have H := Lib.hid h; have H2 := Lib.hid h2
  have HS := Lib.hid (show w.heap.size ≤ ((w.setCell ⟨db, 0, none⟩ (.int .i32 1)).alloc (.cells #[.string ⟨nm.toArray⟩] 9)).heap.size by rw [World.size_alloc, z0]; omega)
  have U2 := Lib.hid ((upd_lock (db := db) (Below.refl w.heap.size w) (.int .i32 1)).alloc (.cells #[.string ⟨nm.toArray⟩] 9))
  have NM : Hid (nm.length ≤ maxLen) := by show _ ≤ _; unfold maxLen; omega
  have HLEN := Lib.hid hlen
  clear hnm MC h1 h2 h z0 hlen
  unfold ReadP
  obtain ⟨e, he⟩ : ∃ e, mayR k.off L true [nm] = e := ⟨_, rfl⟩
  rw [he] at MCH ⊢
  clear he
  by_cases c : e = 0
  · subst c
    have te : ((0 : Int) != 0) = false := rfl
    rw [if_pos rfl]
    obtain ⟨t, ht⟩ : ∃ t, bytF L nm = t := ⟨_, rfl⟩
    rw [ht]
    have HT := Lib.hid ht
    clear ht
    go_enter_defers Tryd.func28, Tryd.ntmps28
    go_wp2_with fail
    refine (lock_free muLib ⟨db, 0, none⟩ _ (H.out.cell 0) (H.out.froz 0)).mono ?_
    rintro r w1 ⟨rfl, rfl⟩
    go_wp2_with fail
    refine MCH.out.mono ?_
    rintro r w3 ⟨rfl, hb3⟩
    have H3 := Lib.hid (H2.out.below hb3)
    have U3 := Lib.hid (U2.out.same ((Upd.ofBelow hb3).mono (fun _ s _ => s.elim)))
    have S3 := Lib.hid (Nat.le_trans HS.out hb3.size)
    clear hb3
    obtain ⟨VO, -, -⟩ := H3.out.fls.val_own nm
    obtain ⟨va, vc, hv, -, -, hy, -, -⟩ := own_val VO
    have lk := H3.out.fls.look nm NM.out
    rw [HT.out] at hv hy
    rw [hv] at lk
    have c4 : w3.cell? ⟨db, 4, none⟩ = some (.map (some mb)) := H3.out.cell 4
    have CC := Lib.hid (Clone_calls va vc t w3 hy (by rw [← HT.out]; exact HLEN.out))
    clear VO hv hy
    go_wp2_with fail
    refine CC.out.mono ?_
    rintro r w4 ⟨v4, rfl, ho4, hb4⟩
    have O4 := Lib.hid (ho4.rebase (base' := w.heap.size) (fun k hk => Nat.le_trans S3.out (ho4.lt k hk).1))
    have V4 := Lib.hid (fun k hk => (ho4.lt k hk).1)
    have H4 := Lib.hid (H3.out.below hb4)
    have U4 := Lib.hid (U3.out.same ((Upd.ofBelow hb4).mono (fun _ s _ => s.elim)))
    clear ho4 hb4 lk
    go_wp2
    refine leaves_cons (f := 30) (args := #[.pointer (some ⟨db, 0, none⟩)]) (by simp) (by simp [go_sem]) ?_
    refine (unlock_deferred muLib ⟨db, 0, none⟩ .returning _ (H4.out.cell 0) (H4.out.froz 0)).mono ?_
    rintro r u' w5 ⟨rfl, rfl, rfl⟩
    exact ⟨_, results_tmp2 rfl _ _ _, v4, rfl, O4.out.setCell_other (a := ⟨db, 0, none⟩) (fun s => by have h9 : w3.heap.size ≤ db := V4.out db s; have := S3.out; omega) _, H4.out.lock 0, U4.out.setCell (fun _ => rfl) _⟩
  · have te : (e != 0) = true := by rw [bne_iff_ne]; exact c
    rw [if_neg c]
    clear c
    go_enter_defers Tryd.func28, Tryd.ntmps28
    go_wp2_with fail
    refine (lock_free muLib ⟨db, 0, none⟩ _ (H.out.cell 0) (H.out.froz 0)).mono ?_
    rintro r w1 ⟨rfl, rfl⟩
    go_wp2_with fail
    refine MCH.out.mono ?_
    rintro r w3 ⟨rfl, hb3⟩
    have H3 := Lib.hid (H2.out.below hb3)
    have U3 := Lib.hid (U2.out.same ((Upd.ofBelow hb3).mono (fun _ s _ => s.elim)))
    clear hb3
    go_wp2
    refine leaves_cons (f := 30) (args := #[.pointer (some ⟨db, 0, none⟩)]) (by simp) (by simp [go_sem]) ?_
    refine (unlock_deferred muLib ⟨db, 0, none⟩ .returning _ (H3.out.cell 0) (H3.out.froz 0)).mono ?_
    rintro r u' w5 ⟨rfl, rfl, rfl⟩
    exact ⟨_, results_tmp2 rfl _ _ _, .slice none 0 0, rfl, Own.nil _ _ _ _, H3.out.lock 0, U3.out.setCell (fun _ => rfl) _⟩
end Go.Proofs.YtcmllfnhdodbdaaDoor
