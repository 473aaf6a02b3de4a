/- A disk with one file or none, with its arming, in plain words. -/
import Derived.Test.YtnbpkignkfabkaaDoorWorks10
namespace Go.Proofs.YtnbpkignkfabkaaDoor
set_option linter.unusedVariables false
set_option linter.unusedSimpArgs false
open Go.RowKit Go.Maps
def UD (room : Nat) (nm : List UInt8) (has : Bool) (l : List UInt8) (a keep : Int) (off : Bool) (wr : Nat) : DS := ⟨room, if has = true then [(nm, l)] else [], a, keep, off, wr⟩
def decA (a : Int) : Int := if 0 < a then a - 1 else a
theorem UD_new (room : Nat) (nm : List UInt8) : DS.new room = UD room nm false [] 0 0 false 0 := rfl
theorem UD_arm (room : Nat) (nm : List UInt8) (has : Bool) (l : List UInt8) (a keep : Int) (off : Bool) (wr : Nat) (n k : Int) : (UD room nm has l a keep off wr).arm n k = UD room nm has l (max 0 n) k off wr := rfl
theorem UD_on (room : Nat) (nm : List UInt8) (has : Bool) (l : List UInt8) (a keep : Int) (off : Bool) (wr : Nat) : (UD room nm has l a keep off wr).on = UD room nm has l a keep false wr := rfl
section
variable {room : Nat} {nm l b : List UInt8} {has : Bool} {a keep : Int} {wr : Nat}
theorem UD_may (h : nmOk nm = true) (t : Bool) : (UD room nm has l a keep false wr).may t [nm] = if t = true ∧ has = false then 92 else 0 := by
  unfold DS.may UD
  cases has <;> cases t <;> simp [h, hasC]
theorem UD_byt (hl : has = false → l = []) : bytC (UD room nm has l a keep false wr).C nm = l := by
  unfold UD
  cases has
  · simp [bytC, hl rfl]
  · simp [bytC]
theorem UD_len : (UD room nm has l a keep false wr).C.length ≤ 1 := by
  unfold UD
  cases has <;> simp
theorem UD_sum (hl : has = false → l = []) : sumC (UD room nm has l a keep false wr).C = l.length := by
  unfold UD
  cases has
  · simp [hl rfl]; rfl
  · show l.length + 0 = _; omega
theorem UD_has : hasC (UD room nm has l a keep false wr).C nm = has := by
  unfold UD
  cases has <;> simp [hasC]
theorem UD_put (off : Bool) (x : List UInt8) : (UD room nm has l a keep off wr).put nm x = UD room nm true x a keep off wr := by
  unfold UD DS.put
  cases has <;> simp [setC, delC, insC]
theorem UD_wr (ha : 0 ≤ a) : (UD room nm has l a keep false wr).wr = UD room nm has l (decA a) keep (decide (a = 1)) (wr + 1) := by
  unfold UD DS.wr decA
  simp
theorem UD_app (h : nmOk nm = true) (hl : has = false → l = []) (hb : l.length + b.length ≤ room) (ha : 0 ≤ a) (h1 : a ≠ 1) : (UD room nm has l a keep false wr).append nm b = (0, UD room nm true (l ++ b) (decA a) keep false (wr + 1)) := by
  unfold DS.append
  rw [if_neg (by rw [UD_may h, if_neg (by simp)]; decide), if_neg, if_neg (by show ¬ a = 1; exact h1), UD_byt hl, UD_wr ha, UD_put, decide_eq_false h1]
  rintro (h2 | h2)
  · have h3 := UD_len (room := room) (nm := nm) (has := has) (l := l) (a := a) (keep := keep) (wr := wr)
    have := h2.2
    omega
  · rw [UD_sum hl] at h2
    have : room < l.length + b.length := h2
    omega
theorem UD_app1 (h : nmOk nm = true) (hl : has = false → l = []) (hb : l.length + b.length ≤ room) : (UD room nm has l 1 keep false wr).append nm b = (94, UD room nm (has || decide (0 < keep)) (l ++ keptB b keep) 0 keep true (wr + 1)) := by
  unfold DS.append
  rw [if_neg (by rw [UD_may h, if_neg (by simp)]; decide), if_neg, if_pos (by show (1 : Int) = 1; rfl), UD_has, UD_byt hl]
  · have e := UD_wr (room := room) (nm := nm) (has := has) (l := l) (a := 1) (keep := keep) (wr := wr) (by decide)
    rw [e]
    show ((94 : Int), if has = true ∨ 0 < keep then _ else _) = _
    by_cases c : has = true ∨ 0 < keep
    · rw [if_pos c, UD_put, show (has || decide (0 < keep)) = true by rcases c with c | c <;> simp [c]]
      rfl
    · rw [if_neg c]
      have c1 : has = false := by cases has <;> simp_all
      have c2 : ¬ 0 < keep := fun h => c (.inr h)
      rw [c1, hl c1, decide_eq_false c2, show keptB b keep = [] by unfold keptB; rw [show (max 0 (min keep (b.length : Int))).toNat = 0 by omega]; rfl]
      rfl
  · rintro (h2 | h2)
    · have h3 := UD_len (room := room) (nm := nm) (has := has) (l := l) (a := 1) (keep := keep) (wr := wr)
      have := h2.2
      omega
    · rw [UD_sum hl] at h2
      have : room < l.length + b.length := h2
      omega
theorem UD_read (h : nmOk nm = true) (hl : has = false → l = []) : readB (UD room nm has l a keep false wr) nm = l := by
  unfold readB
  rw [UD_may h]
  cases has
  · rw [if_neg (by simp), hl rfl]
  · rw [if_pos (by simp)]
    exact UD_byt hl
theorem UD_openOk (h : nmOk nm = true) (hl : has = false → l = []) {xs : List (List UInt8)} {k : Nat} (hr : recOf l = (xs, k, 0)) : openR (UD room nm has l a keep false wr) nm = (0, some (xs, k), UD room nm has l a keep false wr) := by
  unfold openR
  rw [UD_read h hl, hr, if_neg, if_neg (by show ¬ (0 : Int) = 101; decide), if_pos (show (0 : Int) = 0 from rfl)]
  rw [UD_may h]
  split <;> omega
theorem UD_cut (h : nmOk nm = true) {k : Nat} (hk : k ≤ l.length) : (UD room nm true l a keep false wr).cut nm (k : Int) = (UD room nm true l a keep false wr).whole fun t => t.put nm (l.take k) := by
  unfold DS.cut
  have e : bytC (UD room nm true l a keep false wr).C nm = l := UD_byt (fun h => by cases h)
  rw [if_neg (by rw [UD_may h, if_neg (by simp)]; decide), e, if_neg (by omega), Int.toNat_natCast]
theorem UD_torn {xs : List (List UInt8)} {k : Nat} (hl : has = false → l = []) (hr : recOf l = (xs, k, 30)) : has = true := by
  cases has
  · rw [hl rfl, recOf_nil] at hr
    cases hr
  · rfl
theorem UD_openTorn (h : nmOk nm = true) {xs : List (List UInt8)} {k : Nat} (hr : recOf l = (xs, k, 30)) (ha : 0 ≤ a) (h1 : a ≠ 1) : openR (UD room nm true l a keep false wr) nm = (0, some (xs, k), UD room nm true (l.take k) (decA a) keep false (wr + 1)) := by
  have hk : k ≤ l.length := by have := recOf_at l; rw [hr] at this; exact this
  have e : (UD room nm true l a keep false wr).cut nm (k : Int) = (0, UD room nm true (l.take k) (decA a) keep false (wr + 1)) := by
    rw [UD_cut h hk]
    unfold DS.whole
    rw [if_neg (by show ¬ a = 1; exact h1), UD_wr ha]
    dsimp only
    rw [UD_put, decide_eq_false h1]
  unfold openR
  rw [UD_read h (fun h => by cases h), hr, if_neg (by rw [UD_may h, if_neg (by simp)]; simp), if_neg (by show ¬ (30 : Int) = 101; decide), if_neg (by show ¬ (30 : Int) = 0; decide)]
  simp only [e]
  rfl
theorem UD_openTear (h : nmOk nm = true) {xs : List (List UInt8)} {k : Nat} (hr : recOf l = (xs, k, 30)) : openR (UD room nm true l 1 keep false wr) nm = (94, none, UD room nm true (if 0 < keep then l.take k else l) 0 keep true (wr + 1)) := by
  have hk : k ≤ l.length := by have := recOf_at l; rw [hr] at this; exact this
  have e : (UD room nm true l 1 keep false wr).cut nm (k : Int) = (94, UD room nm true (if 0 < keep then l.take k else l) 0 keep true (wr + 1)) := by
    rw [UD_cut h hk]
    unfold DS.whole
    rw [if_pos (by show (1 : Int) = 1; rfl)]
    have e1 := UD_wr (room := room) (nm := nm) (has := true) (l := l) (a := 1) (keep := keep) (wr := wr) (by decide)
    rw [e1]
    dsimp only
    rw [UD_put]
    show ((94 : Int), if 0 < keep then _ else _) = _
    by_cases c : 0 < keep
    · rw [if_pos c, if_pos c]; rfl
    · rw [if_neg c, if_neg c]; rfl
  unfold openR
  rw [UD_read h (fun h => by cases h), hr, if_neg (by rw [UD_may h, if_neg (by simp)]; simp), if_neg (by show ¬ (30 : Int) = 101; decide), if_neg (by show ¬ (30 : Int) = 0; decide)]
  simp only [e]
  rfl
theorem UD_walA (h : nmOk nm = true) (hl : has = false → l = []) {x : List UInt8} (hx : x.length ≤ 16777216) (hb : l.length + (x.length + 13) ≤ room) (ha : 0 ≤ a) (h1 : a ≠ 1) (n : Nat) : walA (UD room nm has l a keep false wr) nm n false x = (0, n + (x.length + 13), false, UD room nm true (l ++ frm x) (decA a) keep false (wr + 1)) := by
  unfold walA
  rw [if_neg (by decide), if_neg (by omega), UD_app h hl (by rw [frm_length]; exact hb) ha h1]
  rfl
theorem UD_walA1 (h : nmOk nm = true) (hl : has = false → l = []) {x : List UInt8} (hx : x.length ≤ 16777216) (hb : l.length + (x.length + 13) ≤ room) (n : Nat) : walA (UD room nm has l 1 keep false wr) nm n false x = (94, n, true, UD room nm (has || decide (0 < keep)) (l ++ keptB (frm x) keep) 0 keep true (wr + 1)) := by
  unfold walA
  rw [if_neg (by decide), if_neg (by omega), UD_app1 h hl (by rw [frm_length]; exact hb)]
  rfl
end
theorem walA_off (s : DS) (nm x : List UInt8) (n : Nat) : ∃ s', walA s nm n true x = (102, n, true, s') ∧ s' = s := by
  unfold walA
  rw [if_pos rfl]
  exact ⟨_, rfl, rfl⟩
end Go.Proofs.YtnbpkignkfabkaaDoor
