/-
  NARROWER THAN 'FOR EVERY INPUT', by the rows' own cells (each row's printed sentence says how): FrameExact: laid · FrameBack: laid · SumMixes: laid · FrameRow: laid · RecordLong: laid · RecordBack: laid · RecordStays: laid.
  DERIVED. THE GIVEN ROWS OF THIS SEAT. 7 by the template 'for every input the law returns true; each argument reads behind the call as it read before'; 0 by the template 'total and deterministic' (their statements: YtjiciklnhcmfaaaDoorTotals.lean).
  GIVEN WITH THE SEED: the statements are not yours to turn. If you find one false, say at which input.
  Laid BY PROGRAM, IN A SANDBOX (cutbox-rows.mjs): the forced cells as the released guide's own fill.sh prints them over the translation d8c8ddd0aed34e5e… (all of the seat's roots in one cut). By AI agents, Wed Nov 11 2026. No macro, syntax, notation, axiom, sorry.
-/
import Derived.Test.YtjiciklnhcmfaaaDoorChecked
import GoSem.Claim
import GoSem.ClaimJoined
import GoSem.ClaimMapViews
import Derived.JoinedTies
import Derived.KernelRfl
namespace Go.Proofs.YtjiciklnhcmfaaaDoor
/- THE CELL 'sum', in the pinned program and in every row, IS THE sha256 OF THE DUMP (.gsa) THAT YtjiciklnhcmfaaaDoorProg.lean LOADS. Nothing in Lean hashes anything: it is a label: what it is worth is what the hold of that sum in a sandbox is worth. -/
noncomputable def Tryd.pinned : Pinned := { name := "ytjiciklnhcmfaaadoor", sum := "d8c8ddd0aed34e5ee28bea1c604a0f24cc3dba072c5724aabd66b1739dd71f2e", checked := Tryd.checked }
namespace Rows
def none {H : Type} : Left H := { results := [], args := [] }

/- WHAT THE LISTED PACKAGE-LEVEL VARIABLES READ AS WHEN THE CALL BEGINS. Each datum BY PROGRAM (the guide's laid-datum.mjs) off the statement by which the dump's own 'gosem.cut.vars' lays the variable. In a bare row this is a premise. The card (YtjiciklnhcmfaaaDoorCards.lean) ties it to the program's text. -/
def laid_postern_record_part {H : Type} : DataW H := .agg [.lit (.int .u32 0), .lit (.int .u32 498536548), .lit (.int .u32 997073096), .lit (.int .u32 651767980), .lit (.int .u32 1994146192), .lit (.int .u32 1802195444), .lit (.int .u32 1303535960), .lit (.int .u32 1342533948), .lit (.int .u32 3988292384), .lit (.int .u32 4027552580), .lit (.int .u32 3604390888), .lit (.int .u32 3412177804), .lit (.int .u32 2607071920), .lit (.int .u32 2262029012), .lit (.int .u32 2685067896), .lit (.int .u32 3183342108)]

/-- 'posternlaw3.FrameExact': WHATEVER THE INPUT: true; the input reads as it did. -/
def frameExactSpec : ChangeSpec := { name := "frameExact", fn := fun _ => fun
  | [d] => { results := [.lit (.bool true)], args := [d] }
  | _ => none }
def frameExactRow : OpenClaim := { program := "ytjiciklnhcmfaaadoor", sum := "d8c8ddd0aed34e5ee28bea1c604a0f24cc3dba072c5724aabd66b1739dd71f2e", func := "postern/posternlaw3.FrameExact", spec := "frameExact", named := ["postern/record.part"], apart := false, laid := [("postern/record.part", laid_postern_record_part)] }
def FrameExactSaid : Prop := frameExactRow.holds Tryd.pinned (OpenSpec.ofChange frameExactSpec)

/-- ITS FALSE NEIGHBOUR: 'it returns false'. Refute it at one input. -/
def frameExactWrong : ChangeSpec := { name := "frameExact", fn := fun _ => fun
  | [d] => { results := [.lit (.bool false)], args := [d] }
  | _ => none }
def FrameExactWrongFalsely : Prop := frameExactRow.holds Tryd.pinned (OpenSpec.ofChange frameExactWrong)

/-- 'posternlaw3.FrameBack': WHATEVER THE INPUT: true; the input reads as it did. -/
def frameBackSpec : ChangeSpec := { name := "frameBack", fn := fun _ => fun
  | [d] => { results := [.lit (.bool true)], args := [d] }
  | _ => none }
def frameBackRow : OpenClaim := { program := "ytjiciklnhcmfaaadoor", sum := "d8c8ddd0aed34e5ee28bea1c604a0f24cc3dba072c5724aabd66b1739dd71f2e", func := "postern/posternlaw3.FrameBack", spec := "frameBack", named := ["postern/record.part"], apart := false, laid := [("postern/record.part", laid_postern_record_part)] }
def FrameBackSaid : Prop := frameBackRow.holds Tryd.pinned (OpenSpec.ofChange frameBackSpec)

/-- ITS FALSE NEIGHBOUR: 'it returns false'. Refute it at one input. -/
def frameBackWrong : ChangeSpec := { name := "frameBack", fn := fun _ => fun
  | [d] => { results := [.lit (.bool false)], args := [d] }
  | _ => none }
def FrameBackWrongFalsely : Prop := frameBackRow.holds Tryd.pinned (OpenSpec.ofChange frameBackWrong)

/-- 'posternlaw3.SumMixes': WHATEVER THE INPUT: true; the input reads as it did. -/
def sumMixesSpec : ChangeSpec := { name := "sumMixes", fn := fun _ => fun
  | [d] => { results := [.lit (.bool true)], args := [d] }
  | _ => none }
def sumMixesRow : OpenClaim := { program := "ytjiciklnhcmfaaadoor", sum := "d8c8ddd0aed34e5ee28bea1c604a0f24cc3dba072c5724aabd66b1739dd71f2e", func := "postern/posternlaw3.SumMixes", spec := "sumMixes", named := ["postern/record.part"], apart := false, laid := [("postern/record.part", laid_postern_record_part)] }
def SumMixesSaid : Prop := sumMixesRow.holds Tryd.pinned (OpenSpec.ofChange sumMixesSpec)

/-- ITS FALSE NEIGHBOUR: 'it returns false'. Refute it at one input. -/
def sumMixesWrong : ChangeSpec := { name := "sumMixes", fn := fun _ => fun
  | [d] => { results := [.lit (.bool false)], args := [d] }
  | _ => none }
def SumMixesWrongFalsely : Prop := sumMixesRow.holds Tryd.pinned (OpenSpec.ofChange sumMixesWrong)

/-- 'posternlaw3.FrameRow': WHATEVER THE INPUT: true; the input reads as it did. -/
def frameRowSpec : ChangeSpec := { name := "frameRow", fn := fun _ => fun
  | [d] => { results := [.lit (.bool true)], args := [d] }
  | _ => none }
def frameRowRow : OpenClaim := { program := "ytjiciklnhcmfaaadoor", sum := "d8c8ddd0aed34e5ee28bea1c604a0f24cc3dba072c5724aabd66b1739dd71f2e", func := "postern/posternlaw3.FrameRow", spec := "frameRow", named := ["postern/record.part"], apart := false, laid := [("postern/record.part", laid_postern_record_part)] }
def FrameRowSaid : Prop := frameRowRow.holds Tryd.pinned (OpenSpec.ofChange frameRowSpec)

/-- ITS FALSE NEIGHBOUR: 'it returns false'. Refute it at one input. -/
def frameRowWrong : ChangeSpec := { name := "frameRow", fn := fun _ => fun
  | [d] => { results := [.lit (.bool false)], args := [d] }
  | _ => none }
def FrameRowWrongFalsely : Prop := frameRowRow.holds Tryd.pinned (OpenSpec.ofChange frameRowWrong)

/-- 'posternlaw3.RecordLong': WHATEVER THE INPUT: true; the input reads as it did. -/
def recordLongSpec : ChangeSpec := { name := "recordLong", fn := fun _ => fun
  | [d] => { results := [.lit (.bool true)], args := [d] }
  | _ => none }
def recordLongRow : OpenClaim := { program := "ytjiciklnhcmfaaadoor", sum := "d8c8ddd0aed34e5ee28bea1c604a0f24cc3dba072c5724aabd66b1739dd71f2e", func := "postern/posternlaw3.RecordLong", spec := "recordLong", named := ["postern/record.part"], apart := false, laid := [("postern/record.part", laid_postern_record_part)] }
def RecordLongSaid : Prop := recordLongRow.holds Tryd.pinned (OpenSpec.ofChange recordLongSpec)

/-- ITS FALSE NEIGHBOUR: 'it returns false'. Refute it at one input. -/
def recordLongWrong : ChangeSpec := { name := "recordLong", fn := fun _ => fun
  | [d] => { results := [.lit (.bool false)], args := [d] }
  | _ => none }
def RecordLongWrongFalsely : Prop := recordLongRow.holds Tryd.pinned (OpenSpec.ofChange recordLongWrong)

/-- 'posternlaw3.RecordBack': WHATEVER THE INPUT: true; the input reads as it did. -/
def recordBackSpec : ChangeSpec := { name := "recordBack", fn := fun _ => fun
  | [d] => { results := [.lit (.bool true)], args := [d] }
  | _ => none }
def recordBackRow : OpenClaim := { program := "ytjiciklnhcmfaaadoor", sum := "d8c8ddd0aed34e5ee28bea1c604a0f24cc3dba072c5724aabd66b1739dd71f2e", func := "postern/posternlaw3.RecordBack", spec := "recordBack", named := ["postern/record.part"], apart := false, laid := [("postern/record.part", laid_postern_record_part)] }
def RecordBackSaid : Prop := recordBackRow.holds Tryd.pinned (OpenSpec.ofChange recordBackSpec)

/-- ITS FALSE NEIGHBOUR: 'it returns false'. Refute it at one input. -/
def recordBackWrong : ChangeSpec := { name := "recordBack", fn := fun _ => fun
  | [d] => { results := [.lit (.bool false)], args := [d] }
  | _ => none }
def RecordBackWrongFalsely : Prop := recordBackRow.holds Tryd.pinned (OpenSpec.ofChange recordBackWrong)

/-- 'posternlaw3.RecordStays': WHATEVER THE INPUT: true; the input reads as it did. -/
def recordStaysSpec : ChangeSpec := { name := "recordStays", fn := fun _ => fun
  | [d] => { results := [.lit (.bool true)], args := [d] }
  | _ => none }
def recordStaysRow : OpenClaim := { program := "ytjiciklnhcmfaaadoor", sum := "d8c8ddd0aed34e5ee28bea1c604a0f24cc3dba072c5724aabd66b1739dd71f2e", func := "postern/posternlaw3.RecordStays", spec := "recordStays", named := ["postern/record.part"], apart := false, laid := [("postern/record.part", laid_postern_record_part)] }
def RecordStaysSaid : Prop := recordStaysRow.holds Tryd.pinned (OpenSpec.ofChange recordStaysSpec)

/-- ITS FALSE NEIGHBOUR: 'it returns false'. Refute it at one input. -/
def recordStaysWrong : ChangeSpec := { name := "recordStays", fn := fun _ => fun
  | [d] => { results := [.lit (.bool false)], args := [d] }
  | _ => none }
def RecordStaysWrongFalsely : Prop := recordStaysRow.holds Tryd.pinned (OpenSpec.ofChange recordStaysWrong)

/- THE SECOND FORM. 'bulk': how many values and letters a reading holds, each counted each time it is reached (what is shared counts as often as it is met; a slice's spare places count too). A statement '..UptoSaid' is the law's where the arguments, and the package variables that the reading takes, are together of bulk at most 1048576: NARROWER than '..Said'. Prove '..Said' where nothing that the law and all that it calls make is longer than what came in: it says more and counts as full. Else prove '..UptoSaid'. A law counts once. -/
mutual
def uptoBulk {H : Type} : DataW H → Nat
  | .lit (.string bytes) => bytes.length + 1
  | .lit _ => 1
  | .nil => 1
  | .ptr d => uptoBulk d + 1
  | .slice elems spare => uptoBulkAll elems + uptoBulkAll spare + 1
  | .agg parts => uptoBulkAll parts + 1
  | .iface _ d => uptoBulk d + 1
  | .map entries => uptoBulkEntries entries + 1
  | .held _ => 1
def uptoBulkAll {H : Type} : List (DataW H) → Nat
  | [] => 0
  | d :: r => uptoBulk d + uptoBulkAll r
def uptoBulkEntries {H : Type} : List (Lit × DataW H) → Nat
  | [] => 0
  | x :: r => uptoBulkEntry x + uptoBulkEntries r
def uptoBulkEntry {H : Type} : Lit × DataW H → Nat
  | (.string bytes, d) => bytes.length + uptoBulk d + 1
  | (_, d) => uptoBulk d + 1
 end
def uptoSmall : (H : Type) → List (DataW H) → Bool := fun _ ds => decide (uptoBulkAll ds ≤ 1048576)
def OpenSpec.upto (s : _root_.Go.ChangeSpec) : _root_.Go.OpenSpec := { _root_.Go.OpenSpec.ofChange s with cond := some uptoSmall }

/-- 'posternlaw3.FrameExact', WHERE WHAT IT READS IS OF BULK AT MOST 1048576: true; the input reads as it did. -/
def frameExactUptoRow : OpenClaim := { program := "ytjiciklnhcmfaaadoor", sum := "d8c8ddd0aed34e5ee28bea1c604a0f24cc3dba072c5724aabd66b1739dd71f2e", func := "postern/posternlaw3.FrameExact", spec := "frameExact", named := ["postern/record.part"], apart := false, laid := [("postern/record.part", laid_postern_record_part)], narrowed := true }
def FrameExactUptoSaid : Prop := frameExactUptoRow.holds Tryd.pinned (OpenSpec.upto frameExactSpec)

/-- 'posternlaw3.FrameBack', WHERE WHAT IT READS IS OF BULK AT MOST 1048576: true; the input reads as it did. -/
def frameBackUptoRow : OpenClaim := { program := "ytjiciklnhcmfaaadoor", sum := "d8c8ddd0aed34e5ee28bea1c604a0f24cc3dba072c5724aabd66b1739dd71f2e", func := "postern/posternlaw3.FrameBack", spec := "frameBack", named := ["postern/record.part"], apart := false, laid := [("postern/record.part", laid_postern_record_part)], narrowed := true }
def FrameBackUptoSaid : Prop := frameBackUptoRow.holds Tryd.pinned (OpenSpec.upto frameBackSpec)

/-- 'posternlaw3.SumMixes', WHERE WHAT IT READS IS OF BULK AT MOST 1048576: true; the input reads as it did. -/
def sumMixesUptoRow : OpenClaim := { program := "ytjiciklnhcmfaaadoor", sum := "d8c8ddd0aed34e5ee28bea1c604a0f24cc3dba072c5724aabd66b1739dd71f2e", func := "postern/posternlaw3.SumMixes", spec := "sumMixes", named := ["postern/record.part"], apart := false, laid := [("postern/record.part", laid_postern_record_part)], narrowed := true }
def SumMixesUptoSaid : Prop := sumMixesUptoRow.holds Tryd.pinned (OpenSpec.upto sumMixesSpec)

/-- 'posternlaw3.FrameRow', WHERE WHAT IT READS IS OF BULK AT MOST 1048576: true; the input reads as it did. -/
def frameRowUptoRow : OpenClaim := { program := "ytjiciklnhcmfaaadoor", sum := "d8c8ddd0aed34e5ee28bea1c604a0f24cc3dba072c5724aabd66b1739dd71f2e", func := "postern/posternlaw3.FrameRow", spec := "frameRow", named := ["postern/record.part"], apart := false, laid := [("postern/record.part", laid_postern_record_part)], narrowed := true }
def FrameRowUptoSaid : Prop := frameRowUptoRow.holds Tryd.pinned (OpenSpec.upto frameRowSpec)

/-- 'posternlaw3.RecordLong', WHERE WHAT IT READS IS OF BULK AT MOST 1048576: true; the input reads as it did. -/
def recordLongUptoRow : OpenClaim := { program := "ytjiciklnhcmfaaadoor", sum := "d8c8ddd0aed34e5ee28bea1c604a0f24cc3dba072c5724aabd66b1739dd71f2e", func := "postern/posternlaw3.RecordLong", spec := "recordLong", named := ["postern/record.part"], apart := false, laid := [("postern/record.part", laid_postern_record_part)], narrowed := true }
def RecordLongUptoSaid : Prop := recordLongUptoRow.holds Tryd.pinned (OpenSpec.upto recordLongSpec)

/-- 'posternlaw3.RecordBack', WHERE WHAT IT READS IS OF BULK AT MOST 1048576: true; the input reads as it did. -/
def recordBackUptoRow : OpenClaim := { program := "ytjiciklnhcmfaaadoor", sum := "d8c8ddd0aed34e5ee28bea1c604a0f24cc3dba072c5724aabd66b1739dd71f2e", func := "postern/posternlaw3.RecordBack", spec := "recordBack", named := ["postern/record.part"], apart := false, laid := [("postern/record.part", laid_postern_record_part)], narrowed := true }
def RecordBackUptoSaid : Prop := recordBackUptoRow.holds Tryd.pinned (OpenSpec.upto recordBackSpec)

/-- 'posternlaw3.RecordStays', WHERE WHAT IT READS IS OF BULK AT MOST 1048576: true; the input reads as it did. -/
def recordStaysUptoRow : OpenClaim := { program := "ytjiciklnhcmfaaadoor", sum := "d8c8ddd0aed34e5ee28bea1c604a0f24cc3dba072c5724aabd66b1739dd71f2e", func := "postern/posternlaw3.RecordStays", spec := "recordStays", named := ["postern/record.part"], apart := false, laid := [("postern/record.part", laid_postern_record_part)], narrowed := true }
def RecordStaysUptoSaid : Prop := recordStaysUptoRow.holds Tryd.pinned (OpenSpec.upto recordStaysSpec)

end Rows
end Go.Proofs.YtjiciklnhcmfaaaDoor
