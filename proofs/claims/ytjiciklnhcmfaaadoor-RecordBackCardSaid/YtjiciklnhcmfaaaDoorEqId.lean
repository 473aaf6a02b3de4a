/- Two IDs compared. -/
import Derived.Test.YtjiciklnhcmfaaaDoorRid2
namespace Go.Proofs.YtjiciklnhcmfaaaDoor
set_option linter.unusedVariables false
set_option linter.unusedSimpArgs false
open Go.RowKit
theorem u8_beq (a b : UInt8) : (((a.toNat : Int)) == (b.toNat : Int)) = (a == b) := by
  rw [Bool.eq_iff_iff, beq_iff_eq, beq_iff_eq]
  constructor
  · intro h; exact UInt8.toNat_inj.1 (by omega)
  · intro h; rw [h]
set_option maxHeartbeats 4000000 in
theorem eqId (n0 n1 n2 n3 n4 n5 n6 n7 n8 n9 n10 n11 n12 n13 n14 n15 d0 d1 d2 d3 d4 d5 d6 d7 d8 d9 d10 d11 d12 d13 d14 d15 : UInt8) (w : World) : (Op.equalIn 10000 97 (.agg #[.int .u8 (n0.toNat : Int), .int .u8 (n1.toNat : Int), .int .u8 (n2.toNat : Int), .int .u8 (n3.toNat : Int), .int .u8 (n4.toNat : Int), .int .u8 (n5.toNat : Int), .int .u8 (n6.toNat : Int), .int .u8 (n7.toNat : Int), .int .u8 (n8.toNat : Int), .int .u8 (n9.toNat : Int), .int .u8 (n10.toNat : Int), .int .u8 (n11.toNat : Int), .int .u8 (n12.toNat : Int), .int .u8 (n13.toNat : Int), .int .u8 (n14.toNat : Int), .int .u8 (n15.toNat : Int)]) (.agg #[.int .u8 (d0.toNat : Int), .int .u8 (d1.toNat : Int), .int .u8 (d2.toNat : Int), .int .u8 (d3.toNat : Int), .int .u8 (d4.toNat : Int), .int .u8 (d5.toNat : Int), .int .u8 (d6.toNat : Int), .int .u8 (d7.toNat : Int), .int .u8 (d8.toNat : Int), .int .u8 (d9.toNat : Int), .int .u8 (d10.toNat : Int), .int .u8 (d11.toNat : Int), .int .u8 (d12.toNat : Int), .int .u8 (d13.toNat : Int), .int .u8 (d14.toNat : Int), .int .u8 (d15.toNat : Int)])).run Tryd.prog w = .ok ([n0, n1, n2, n3, n4, n5, n6, n7, n8, n9, n10, n11, n12, n13, n14, n15] == [d0, d1, d2, d3, d4, d5, d6, d7, d8, d9, d10, d11, d12, d13, d14, d15]) w := by
  have u3 := Tryd.underlying5
  have a3 : ∀ w, (isAgg 5).run Tryd.prog w = .ok false w := fun w => by simp [isAgg, run_underlying Tryd.underlying5]
  have z3 : ∀ w, (sizeOf 5).run Tryd.prog w = .ok 1 w := fun w => by kernel_rfl
  rw [show (10000 : Nat) = 9999 + 1 from rfl, Op.equalIn]
  simp only [Sem.run_bind, run_underlying Tryd.underlying97, Result.andThen_ok]
  simp only [Std.Legacy.Range.forIn_eq_forIn_range', Std.Legacy.Range.size, Nat.sub_zero, Nat.add_sub_cancel, Nat.div_one, List.range'_succ, List.range'_zero, List.forIn_cons, List.forIn_nil]
  go_simp
  by_cases h0 : n0 = d0
  case neg => rw [if_neg (fun e => h0 (UInt8.toNat_inj.1 (by omega))), beq_eq_false_iff_ne.2 h0, Bool.false_and]
  subst h0
  rw [if_pos rfl, beq_self_eq_true, Bool.true_and]
  by_cases h1 : n1 = d1
  case neg => rw [if_neg (fun e => h1 (UInt8.toNat_inj.1 (by omega))), beq_eq_false_iff_ne.2 h1, Bool.false_and]
  subst h1
  rw [if_pos rfl, beq_self_eq_true, Bool.true_and]
  by_cases h2 : n2 = d2
  case neg => rw [if_neg (fun e => h2 (UInt8.toNat_inj.1 (by omega))), beq_eq_false_iff_ne.2 h2, Bool.false_and]
  subst h2
  rw [if_pos rfl, beq_self_eq_true, Bool.true_and]
  by_cases h3 : n3 = d3
  case neg => rw [if_neg (fun e => h3 (UInt8.toNat_inj.1 (by omega))), beq_eq_false_iff_ne.2 h3, Bool.false_and]
  subst h3
  rw [if_pos rfl, beq_self_eq_true, Bool.true_and]
  by_cases h4 : n4 = d4
  case neg => rw [if_neg (fun e => h4 (UInt8.toNat_inj.1 (by omega))), beq_eq_false_iff_ne.2 h4, Bool.false_and]
  subst h4
  rw [if_pos rfl, beq_self_eq_true, Bool.true_and]
  by_cases h5 : n5 = d5
  case neg => rw [if_neg (fun e => h5 (UInt8.toNat_inj.1 (by omega))), beq_eq_false_iff_ne.2 h5, Bool.false_and]
  subst h5
  rw [if_pos rfl, beq_self_eq_true, Bool.true_and]
  by_cases h6 : n6 = d6
  case neg => rw [if_neg (fun e => h6 (UInt8.toNat_inj.1 (by omega))), beq_eq_false_iff_ne.2 h6, Bool.false_and]
  subst h6
  rw [if_pos rfl, beq_self_eq_true, Bool.true_and]
  by_cases h7 : n7 = d7
  case neg => rw [if_neg (fun e => h7 (UInt8.toNat_inj.1 (by omega))), beq_eq_false_iff_ne.2 h7, Bool.false_and]
  subst h7
  rw [if_pos rfl, beq_self_eq_true, Bool.true_and]
  by_cases h8 : n8 = d8
  case neg => rw [if_neg (fun e => h8 (UInt8.toNat_inj.1 (by omega))), beq_eq_false_iff_ne.2 h8, Bool.false_and]
  subst h8
  rw [if_pos rfl, beq_self_eq_true, Bool.true_and]
  by_cases h9 : n9 = d9
  case neg => rw [if_neg (fun e => h9 (UInt8.toNat_inj.1 (by omega))), beq_eq_false_iff_ne.2 h9, Bool.false_and]
  subst h9
  rw [if_pos rfl, beq_self_eq_true, Bool.true_and]
  by_cases h10 : n10 = d10
  case neg => rw [if_neg (fun e => h10 (UInt8.toNat_inj.1 (by omega))), beq_eq_false_iff_ne.2 h10, Bool.false_and]
  subst h10
  rw [if_pos rfl, beq_self_eq_true, Bool.true_and]
  by_cases h11 : n11 = d11
  case neg => rw [if_neg (fun e => h11 (UInt8.toNat_inj.1 (by omega))), beq_eq_false_iff_ne.2 h11, Bool.false_and]
  subst h11
  rw [if_pos rfl, beq_self_eq_true, Bool.true_and]
  by_cases h12 : n12 = d12
  case neg => rw [if_neg (fun e => h12 (UInt8.toNat_inj.1 (by omega))), beq_eq_false_iff_ne.2 h12, Bool.false_and]
  subst h12
  rw [if_pos rfl, beq_self_eq_true, Bool.true_and]
  by_cases h13 : n13 = d13
  case neg => rw [if_neg (fun e => h13 (UInt8.toNat_inj.1 (by omega))), beq_eq_false_iff_ne.2 h13, Bool.false_and]
  subst h13
  rw [if_pos rfl, beq_self_eq_true, Bool.true_and]
  by_cases h14 : n14 = d14
  case neg => rw [if_neg (fun e => h14 (UInt8.toNat_inj.1 (by omega))), beq_eq_false_iff_ne.2 h14, Bool.false_and]
  subst h14
  rw [if_pos rfl, beq_self_eq_true, Bool.true_and]
  by_cases h15 : n15 = d15
  case neg => rw [if_neg (fun e => h15 (UInt8.toNat_inj.1 (by omega))), beq_eq_false_iff_ne.2 h15]
  subst h15
  rw [if_pos rfl, beq_self_eq_true]
end Go.Proofs.YtjiciklnhcmfaaaDoor
