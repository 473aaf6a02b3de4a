/- record.Reader: Text, Left, End, From. -/
import Derived.Test.YtjiciklnhcmfaaaGreatDoorRdr2
namespace Go.Proofs.YtjiciklnhcmfaaaGreatDoor
set_option linter.unusedVariables false
set_option linter.unusedSimpArgs false
open Go.RowKit

theorem frozen_of_row {w : World} {g : Nat} {cur : Array Value} {e : TypeId} (h : w.heap[g]? = some (.cells cur e (0, 0))) (j : Nat) : w.frozen? ⟨g, j, none⟩ = false := by
  unfold World.frozen?
  rw [h]
  simp
set_option maxRecDepth 100000 in
set_option maxHeartbeats 1000000 in
theorem RText_calls (rb ro B : Nat) (w : World) (l : List UInt8) (e : Int) (a : Option Addr) (cap : Nat) (h : Rdr w rb ro B l e a cap) (hl : l.length ≤ 140737488355328) :
    Calls Tryz.prog 34 #[.pointer (some ⟨rb, ro, none⟩)] w fun r w' => RPost w w' rb ro B r (.string ⟨(rBytes l e).1.toArray⟩) (rBytes l e).2.1 (rBytes l e).2.2 := by
  have H := Lib.hid h; clear h
  obtain ⟨q, hq⟩ : ∃ q, rBytes l e = q := ⟨_, rfl⟩
  rw [hq]
  have HQ := Lib.hid hq; clear hq
  go_enter Tryz.func34, Tryz.ntmps34
  go_wp2_with fail
  have hc := RBytes_calls rb ro B w l e a cap H.out hl
  rw [HQ.out] at hc
  refine hc.mono ?_
  clear hc
  rintro r w1 ⟨v, rfl, ho, hp⟩
  obtain ⟨av, cv, rfl, _, _, hb, _⟩ := own_val ho
  have hcv : (convert 23 9 (.slice av q.1.length cv)).run Tryz.prog w1 = .ok (.string ⟨q.1.toArray⟩) w1 := conv_bytes Tryz.underlying23 Tryz.underlying5 Tryz.underlying9 hb
  have HP := Lib.hid hp; clear hp hb ho
  go_wp2
  go_ret
  exact ⟨rfl, HP.out⟩

def rEnd (l : List UInt8) (e : Int) : Int := if e = 0 ∧ 0 < l.length then 33 else e
set_option maxRecDepth 100000 in
set_option maxHeartbeats 1000000 in
theorem REnd_calls (rb ro B : Nat) (w : World) (l : List UInt8) (e : Int) (a : Option Addr) (cap : Nat) (h : Rdr w rb ro B l e a cap) :
    Calls Tryz.prog 37 #[.pointer (some ⟨rb, ro, none⟩)] w fun r w' => r = .returned (.int .i64 (rEnd l e)) ∧ w = w' := by
  obtain ⟨h0, h1, f0, f1, hb, hc, hblk, _⟩ := h
  clear hb hblk hc
  unfold rEnd
  by_cases he : e = 0
  · subst he
    have e0 : ((0 : Int) == 0) = true := rfl
    by_cases hl : 0 < l.length
    · rw [if_pos ⟨rfl, hl⟩]
      have t1 : decide (0 < (l.length : Int)) = true := decide_eq_true (by omega)
      have t2 : decide (0 < l.length) = true := decide_eq_true hl
      go_enter Tryz.func37, Tryz.ntmps37
      go_wp2
      go_ret
      exact ⟨rfl, rfl⟩
    · rw [if_neg (fun h => hl h.2)]
      have t1 : decide (0 < (l.length : Int)) = false := decide_eq_false (by omega)
      have t2 : decide (0 < l.length) = false := decide_eq_false hl
      clear hl
      go_enter Tryz.func37, Tryz.ntmps37
      go_wp2
      go_ret
      exact ⟨rfl, rfl⟩
  · rw [if_neg (fun h => he h.1)]
    have e0 : (e == 0) = false := by simpa using he
    clear he
    go_enter Tryz.func37, Tryz.ntmps37
    go_wp2
    go_ret
    exact ⟨rfl, rfl⟩

/-- A reader that the call made. -/
def NewRdr (w w' : World) (r : Ending) (l : List UInt8) : Prop := ∃ rb B a cap, r = .returned (.pointer (some ⟨rb, 0, none⟩)) ∧ Rdr w' rb 0 B l 0 a cap ∧ w.heap.size ≤ rb ∧ (∀ ad, a = some ad → w.heap.size ≤ B ∧ B < w'.heap.size) ∧ Below w.heap.size w w'
set_option maxRecDepth 100000 in
set_option maxHeartbeats 1000000 in
theorem From_calls (w : World) (l : List UInt8) (a : Option Addr) (cap : Nat) (h : Byt w a l) (hl : l.length ≤ 140737488355328) :
    Calls Tryz.prog 32 #[.slice a l.length cap] w fun r w' => NewRdr w w' r l := by
  have H := Lib.hid h; clear h
  go_enter Tryz.func32, Tryz.ntmps32
  go_wp2_with fail
  refine (Clone_calls a cap l w H.out hl).mono ?_
  rintro r w1 ⟨v, rfl, ho, hb⟩
  have hb' := ho.lt
  obtain ⟨av, cv, rfl, _, hcv, hbv, _, hav⟩ := own_val ho
  have HO := Lib.hid ho; have HB := Lib.hid hb; have HV := Lib.hid hbv; have HA := Lib.hid hav
  clear ho hb hbv hav hb'
  go_wp2
  go_ret
  have hn := heap_alloc_new w1 (.cells #[Value.slice av l.length cv, Value.int IntKind.i64 0] 102)
  have hfz : ∀ j, (w1.alloc (.cells #[Value.slice av l.length cv, Value.int IntKind.i64 0] 102)).frozen? ⟨w1.heap.size, j, none⟩ = false := fun j => frozen_of_row hn j
  have hB := HB.out.size
  refine ⟨w1.heap.size, (av.map (·.block)).getD (w1.heap.size + 1), av, cv, rfl, ⟨by rw [cell_of_row' hn]; rfl, by rw [cell_of_row' hn]; rfl, hfz _, hfz _, HV.out.alloc _, hcv, ?_, ?_⟩, hB, ?_, (HB.out).alloc hB _⟩
  · rintro ad rfl
    exact (HA.out ad rfl).1 ▸ rfl
  · cases av with
    | none => simp
    | some ad => have := (HA.out ad rfl).2.2; simp; omega
  · rintro ad rfl
    have := HA.out ad rfl
    simp only [Option.map_some, Option.getD_some, World.size_alloc]
    omega
end Go.Proofs.YtjiciklnhcmfaaaGreatDoor
