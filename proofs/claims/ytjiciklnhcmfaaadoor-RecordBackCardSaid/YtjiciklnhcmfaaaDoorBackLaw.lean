/- Fields there and back: plain. -/
import Derived.Test.YtjiciklnhcmfaaaDoorGetsId
import Derived.Test.YtjiciklnhcmfaaaDoorFrmLaw
import Derived.Test.YtjiciklnhcmfaaaDoorLong
namespace Go.Proofs.YtjiciklnhcmfaaaDoor
set_option linter.unusedVariables false
set_option linter.unusedSimpArgs false
open Go.RowKit
/-- The bytes of a field. -/
def enc (o : OpD) : List UInt8 :=
  if o.doo = 1 then be o.n o.wd.toNat else if o.doo = 2 then be (i64n o.i) 8 else if o.doo = 3 then be o.fl.toNat 1 else if o.doo = 4 then be o.b.length 4 ++ o.b else if o.doo = 5 then be o.b.length 4 ++ o.b else o.d
theorem wNum_ok {l : List UInt8} {n : Nat} {k : Int} (h : 1 ≤ k ∧ k ≤ 8 ∧ (k = 8 ∨ n / 2 ^ (8 * k.toNat) = 0)) : wNum l 0 n k = (l ++ be n k.toNat, 0) := by
  unfold wNum
  rw [if_pos rfl, if_pos h]
theorem wText_ok {l t : List UInt8} (h : t.length ≤ 1048576) : wText l 0 t = (l ++ (be t.length 4 ++ t), 0) := by
  unfold wText
  rw [if_pos rfl, if_pos h, List.append_assoc]
theorem enc_w (l : List UInt8) (o : OpD) (hp : pOk o = true) : wOp l 0 o = (l ++ enc o, 0) := by
  unfold wOp enc
  rw [if_neg (by rw [hp]; decide)]
  unfold pOk at hp
  by_cases d1 : o.doo = 1
  · rw [if_pos d1] at hp
    rw [if_pos d1, if_pos d1, wNum_ok (of_decide_eq_true hp)]
  rw [if_neg d1] at hp
  rw [if_neg d1, if_neg d1]
  by_cases d2 : o.doo = 2
  · rw [if_pos d2, if_pos d2, wNum_ok ⟨by decide, by decide, .inl rfl⟩]; rfl
  rw [if_neg d2] at hp
  rw [if_neg d2, if_neg d2]
  by_cases d3 : o.doo = 3
  · rw [if_pos d3, if_pos d3, wNum_ok ⟨by decide, by decide, .inr (by cases o.fl <;> decide)⟩]; rfl
  rw [if_neg d3] at hp
  rw [if_neg d3, if_neg d3]
  by_cases d4 : o.doo = 4
  · rw [if_pos d4] at hp
    rw [if_pos d4, if_pos d4, wText_ok (of_decide_eq_true hp)]
  rw [if_neg d4] at hp
  rw [if_neg d4, if_neg d4]
  by_cases d5 : o.doo = 5
  · rw [if_pos d5] at hp
    rw [if_pos d5, if_pos d5, wText_ok (of_decide_eq_true hp)]
  rw [if_neg d5, if_neg d5]
  exact if_pos rfl
theorem rNum_be (n : Nat) (k : Int) (t : List UInt8) (h1 : 1 ≤ k) (h8 : k ≤ 8) (hn : n < 256 ^ k.toNat) : rNum (be n k.toNat ++ t) 0 k = (n, t, 0) := by
  unfold rNum
  rw [if_pos rfl, if_pos ⟨h1, h8⟩, if_pos (by rw [List.length_append, be_length]; omega)]
  rw [List.take_left' (be_length _ _), List.drop_left' (be_length _ _), ofBe_be, Nat.mod_eq_of_lt hn]
theorem rNum_short (l : List UInt8) (k : Int) (h1 : 1 ≤ k) (h8 : k ≤ 8) (h : l.length < k.toNat) : rNum l 0 k = (0, l, 30) := by
  unfold rNum
  rw [if_pos rfl, if_pos ⟨h1, h8⟩, if_neg (by omega)]
theorem be_one (n : Nat) : be n 1 = [UInt8.ofNat n] := by simp [be]
theorem pow8 (k : Nat) : (2 : Nat) ^ (8 * k) = 256 ^ k := by rw [Nat.pow_mul]
theorem num_lt {o : OpD} (hk : OpOk o) (h : 1 ≤ o.wd ∧ o.wd ≤ 8 ∧ (o.wd = 8 ∨ o.n / 2 ^ (8 * o.wd.toNat) = 0)) : o.n < 256 ^ o.wd.toNat := by
  have hn := hk.nn
  rcases h.2.2 with h | h
  · rw [h]; show o.n < 256 ^ 8; omega
  · rw [pow8] at h
    have hp : 0 < 256 ^ o.wd.toNat := Nat.pow_pos (by decide)
    rcases Nat.lt_or_ge o.n (256 ^ o.wd.toNat) with h' | h'
    · exact h'
    · have := Nat.div_pos h' hp
      omega
/-- What is laid is taken. -/
theorem enc_g (t : List UInt8) (o : OpD) (hk : OpOk o) (hi : -9223372036854775808 ≤ o.i ∧ o.i ≤ 9223372036854775807) (hp : pOk o = true) : gOp (enc o ++ t) 0 o = (true, t, 0) := by
  unfold gOp enc
  unfold pOk at hp
  by_cases d1 : o.doo = 1
  · rw [if_pos d1] at hp
    have h := of_decide_eq_true hp
    rw [if_pos d1, if_pos d1, rNum_be _ _ _ h.1 h.2.1 (num_lt hk h)]
    simp
  rw [if_neg d1] at hp
  rw [if_neg d1, if_neg d1]
  by_cases d2 : o.doo = 2
  · rw [if_pos d2, if_pos d2, show rNum (be (i64n o.i) 8 ++ t) 0 8 = (i64n o.i, t, 0) from rNum_be _ 8 _ (by decide) (by decide) (by show _ < 256 ^ 8; unfold i64n; omega)]
    rw [show sgn (i64n o.i) = o.i from by unfold sgn i64n wrap64; omega]
    simp
  rw [if_neg d2] at hp
  rw [if_neg d2, if_neg d2]
  by_cases d3 : o.doo = 3
  · rw [if_pos d3, if_pos d3]
    unfold rFlag
    rw [if_neg (by rintro ⟨_, _, h⟩; rw [be_one] at h; cases hf : o.fl <;> rw [hf] at h <;> simp at h)]
    rw [show rNum (be o.fl.toNat 1 ++ t) 0 1 = (o.fl.toNat, t, 0) from rNum_be _ 1 _ (by decide) (by decide) (by cases o.fl <;> decide)]
    cases o.fl <;> rfl
  rw [if_neg d3] at hp
  rw [if_neg d3, if_neg d3]
  by_cases d4 : o.doo = 4
  · rw [if_pos d4] at hp
    rw [if_pos d4, if_pos d4, rBytes_text _ _ (of_decide_eq_true hp)]
    simp
  rw [if_neg d4] at hp
  rw [if_neg d4, if_neg d4]
  by_cases d5 : o.doo = 5
  · rw [if_pos d5] at hp
    rw [if_pos d5, if_pos d5, rBytes_text _ _ (of_decide_eq_true hp)]
    simp
  rw [if_neg d5, if_neg d5]
  unfold rID
  rw [if_pos rfl, if_pos (by rw [List.length_append, hk.dn]; omega), List.take_left' hk.dn, List.drop_left' hk.dn]
  simp
theorem enc_len {o : OpD} (hk : OpOk o) (hp : pOk o = true) : 1 ≤ (enc o).length ∧ (enc o).length ≤ o.b.length + 16 := by
  unfold enc
  unfold pOk at hp
  have hd := hk.dn
  by_cases d1 : o.doo = 1
  · rw [if_pos d1] at hp
    have h := of_decide_eq_true hp
    rw [if_pos d1, be_length]
    omega
  rw [if_neg d1]
  by_cases d2 : o.doo = 2
  · rw [if_pos d2, be_length]; omega
  rw [if_neg d2]
  by_cases d3 : o.doo = 3
  · rw [if_pos d3, be_length]; omega
  rw [if_neg d3]
  by_cases d4 : o.doo = 4
  · rw [if_pos d4, List.length_append, be_length]; omega
  rw [if_neg d4]
  by_cases d5 : o.doo = 5
  · rw [if_pos d5, List.length_append, be_length]; omega
  rw [if_neg d5]
  omega
/-- A field cut short is not taken: nothing moves. -/
theorem enc_short (p q : List UInt8) (o : OpD) (hk : OpOk o) (hp : pOk o = true) (h : enc o = p ++ q) (hq : q ≠ []) : (gOp p 0 o).2 = (p, 30) := by
  have hq1 : 1 ≤ q.length := by cases q with | nil => exact absurd rfl hq | cons _ _ => simp
  have hl : (enc o).length = p.length + q.length := by rw [h, List.length_append]
  have text : o.b.length ≤ 1048576 → be o.b.length 4 ++ o.b = p ++ q → rBytes p 0 = ([], p, 30) := by
    intro hb he
    have hlen : 4 + o.b.length = p.length + q.length := by rw [← List.length_append, ← he, List.length_append, be_length]
    unfold rBytes
    rw [if_pos rfl]
    by_cases h4 : 4 ≤ p.length
    · have ht : p.take 4 = be o.b.length 4 := by
        have e1 : (p ++ q).take 4 = p.take 4 := List.take_append_of_le_length h4
        rw [← e1, ← he]
        exact List.take_left' (be_length _ _)
      have e2 : ofBe (p.take 4) = o.b.length := by rw [ht, ofBe_be]; exact Nat.mod_eq_of_lt (by omega)
      rw [if_pos h4, e2, if_pos hb, if_neg (by omega)]
    · rw [if_neg h4]
  unfold gOp
  unfold enc at h hl
  unfold pOk at hp
  by_cases d1 : o.doo = 1
  · rw [if_pos d1] at hp h hl
    have hw := of_decide_eq_true hp
    rw [be_length] at hl
    rw [if_pos d1, rNum_short p o.wd hw.1 hw.2.1 (by omega)]
  rw [if_neg d1] at hp h hl
  rw [if_neg d1]
  by_cases d2 : o.doo = 2
  · rw [if_pos d2, be_length] at hl
    rw [if_pos d2, rNum_short p 8 (by decide) (by decide) (by show _ < 8; omega)]
  rw [if_neg d2] at hp h hl
  rw [if_neg d2]
  by_cases d3 : o.doo = 3
  · rw [if_pos d3, be_length] at hl
    rw [if_pos d3]
    unfold rFlag
    rw [if_neg (by rintro ⟨_, h, _⟩; omega), rNum_short p 1 (by decide) (by decide) (by show _ < 1; omega)]
  rw [if_neg d3] at hp h hl
  rw [if_neg d3]
  by_cases d4 : o.doo = 4
  · rw [if_pos d4] at hp h
    rw [if_pos d4, text (of_decide_eq_true hp) h]
  rw [if_neg d4] at hp h hl
  rw [if_neg d4]
  by_cases d5 : o.doo = 5
  · rw [if_pos d5] at hp h
    rw [if_pos d5, text (of_decide_eq_true hp) h]
  rw [if_neg d5] at hp h hl
  rw [if_neg d5]
  unfold rID
  rw [hk.dn] at hl
  rw [if_pos rfl, if_neg (by omega)]
/-- Fields one behind the other. -/
def lay (L : List OpD) : List UInt8 := L.flatMap enc
theorem lay_snoc (L : List OpD) (o : OpD) : lay (L ++ [o]) = lay L ++ enc o := by simp [lay]
theorem lay_app (L M : List OpD) : lay (L ++ M) = lay L ++ lay M := by simp [lay]
theorem lay_cons (o : OpD) (L : List OpD) : lay (o :: L) = enc o ++ lay L := rfl
theorem lay_drop {L : List OpD} {k : Nat} {o : OpD} (h : L[k]? = some o) : lay (L.drop k) = enc o ++ lay (L.drop (k + 1)) := by
  obtain ⟨hk, rfl⟩ := List.getElem?_eq_some_iff.1 h
  rw [List.drop_eq_getElem_cons hk, lay_cons]
end Go.Proofs.YtjiciklnhcmfaaaDoor
