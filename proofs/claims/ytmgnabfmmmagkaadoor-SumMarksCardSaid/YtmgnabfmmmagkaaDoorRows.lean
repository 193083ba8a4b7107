/-
  NARROWER THAN 'FOR EVERY INPUT', by the rows' own cells (each row's printed sentence says how): SumRot: laid · SumTurned: laid · SumOnce: laid · SumSums: laid · SumNoughts: laid · SumParts: laid · SumMarks: laid.
  DERIVED. THE GIVEN ROWS OF THIS SEAT. 7 by the template 'for every input the law returns true; each argument reads behind the call as it read before'; 0 by the template 'total and deterministic' (their statements: YtmgnabfmmmagkaaDoorTotals.lean).
  GIVEN WITH THE SEED: the statements are not yours to turn. If you find one false, say at which input.
  Laid BY PROGRAM, IN A SANDBOX (cutbox-rows.mjs): the forced cells as the released guide's own fill.sh prints them over the translation 6d579103a6bcb2c5… (all of the seat's roots in one cut). By AI agents, Wed Nov 11 2026. No macro, syntax, notation, axiom, sorry.
-/
import Derived.Test.YtmgnabfmmmagkaaDoorChecked
import GoSem.Claim
import GoSem.ClaimJoined
import GoSem.ClaimMapViews
import Derived.JoinedTies
import Derived.KernelRfl
namespace Go.Proofs.YtmgnabfmmmagkaaDoor
/- THE CELL 'sum', in the pinned program and in every row, IS THE sha256 OF THE DUMP (.gsa) THAT YtmgnabfmmmagkaaDoorProg.lean LOADS. Nothing in Lean hashes anything: it is a label: what it is worth is what the hold of that sum in a sandbox is worth. -/
noncomputable def Tryd.pinned : Pinned := { name := "ytmgnabfmmmagkaadoor", sum := "6d579103a6bcb2c55d6dfde66a4e9804563342fe24164f1ec68424d3aa1fb533", checked := Tryd.checked }
namespace Rows
def none {H : Type} : Left H := { results := [], args := [] }

/- WHAT THE LISTED PACKAGE-LEVEL VARIABLES READ AS WHEN THE CALL BEGINS. Each datum BY PROGRAM (the guide's laid-datum.mjs) off the statement by which the dump's own 'gosem.cut.vars' lays the variable. In a bare row this is a premise. The card (YtmgnabfmmmagkaaDoorCards.lean) ties it to the program's text. -/
def laid_quilt_sum_fours {H : Type} : DataW H := .agg [.lit (.int .u32 0), .lit (.int .u32 274646895), .lit (.int .u32 549293790), .lit (.int .u32 820201905), .lit (.int .u32 1098587580), .lit (.int .u32 1361435347), .lit (.int .u32 1640403810), .lit (.int .u32 1905808397), .lit (.int .u32 2197175160), .lit (.int .u32 2460548119), .lit (.int .u32 2722870694), .lit (.int .u32 2987750089), .lit (.int .u32 3280807620), .lit (.int .u32 3553878443), .lit (.int .u32 3811616794), .lit (.int .u32 4084100981)]
def laid_errors_errorType {H : Type} : DataW H := .iface "internal/reflectlite.rtype" (.agg [.ptr (.lit (.string [101, 114, 114, 111, 114]))])

/-- 'quiltlaw01.SumRot': WHATEVER THE INPUT: true; the input reads as it did. -/
def sumRotSpec : ChangeSpec := { name := "sumRot", fn := fun _ => fun
  | [d1, d2, d3] => { results := [.lit (.bool true)], args := [d1, d2, d3] }
  | _ => none }
def sumRotRow : OpenClaim := { program := "ytmgnabfmmmagkaadoor", sum := "6d579103a6bcb2c55d6dfde66a4e9804563342fe24164f1ec68424d3aa1fb533", func := "quilt/quiltlaw01.SumRot", spec := "sumRot", named := ["quilt/sum.fours"], apart := false, laid := [("quilt/sum.fours", laid_quilt_sum_fours)] }
def SumRotSaid : Prop := sumRotRow.holds Tryd.pinned (OpenSpec.ofChange sumRotSpec)

/-- ITS FALSE NEIGHBOUR: 'it returns false'. Refute it at one input. -/
def sumRotWrong : ChangeSpec := { name := "sumRot", fn := fun _ => fun
  | [d1, d2, d3] => { results := [.lit (.bool false)], args := [d1, d2, d3] }
  | _ => none }
def SumRotWrongFalsely : Prop := sumRotRow.holds Tryd.pinned (OpenSpec.ofChange sumRotWrong)

/-- 'quiltlaw01.SumTurned': WHATEVER THE INPUT: true; the input reads as it did. -/
def sumTurnedSpec : ChangeSpec := { name := "sumTurned", fn := fun _ => fun
  | [d1, d2, d3] => { results := [.lit (.bool true)], args := [d1, d2, d3] }
  | _ => none }
def sumTurnedRow : OpenClaim := { program := "ytmgnabfmmmagkaadoor", sum := "6d579103a6bcb2c55d6dfde66a4e9804563342fe24164f1ec68424d3aa1fb533", func := "quilt/quiltlaw01.SumTurned", spec := "sumTurned", named := ["quilt/sum.fours"], apart := false, laid := [("quilt/sum.fours", laid_quilt_sum_fours)] }
def SumTurnedSaid : Prop := sumTurnedRow.holds Tryd.pinned (OpenSpec.ofChange sumTurnedSpec)

/-- ITS FALSE NEIGHBOUR: 'it returns false'. Refute it at one input. -/
def sumTurnedWrong : ChangeSpec := { name := "sumTurned", fn := fun _ => fun
  | [d1, d2, d3] => { results := [.lit (.bool false)], args := [d1, d2, d3] }
  | _ => none }
def SumTurnedWrongFalsely : Prop := sumTurnedRow.holds Tryd.pinned (OpenSpec.ofChange sumTurnedWrong)

/-- 'quiltlaw01.SumOnce': WHATEVER THE INPUT: true; the input reads as it did. -/
def sumOnceSpec : ChangeSpec := { name := "sumOnce", fn := fun _ => fun
  | [d1, d2, d3] => { results := [.lit (.bool true)], args := [d1, d2, d3] }
  | _ => none }
def sumOnceRow : OpenClaim := { program := "ytmgnabfmmmagkaadoor", sum := "6d579103a6bcb2c55d6dfde66a4e9804563342fe24164f1ec68424d3aa1fb533", func := "quilt/quiltlaw01.SumOnce", spec := "sumOnce", named := ["quilt/sum.fours"], apart := false, laid := [("quilt/sum.fours", laid_quilt_sum_fours)] }
def SumOnceSaid : Prop := sumOnceRow.holds Tryd.pinned (OpenSpec.ofChange sumOnceSpec)

/-- ITS FALSE NEIGHBOUR: 'it returns false'. Refute it at one input. -/
def sumOnceWrong : ChangeSpec := { name := "sumOnce", fn := fun _ => fun
  | [d1, d2, d3] => { results := [.lit (.bool false)], args := [d1, d2, d3] }
  | _ => none }
def SumOnceWrongFalsely : Prop := sumOnceRow.holds Tryd.pinned (OpenSpec.ofChange sumOnceWrong)

/-- 'quiltlaw01.SumSums': WHATEVER THE INPUT: true; the input reads as it did. -/
def sumSumsSpec : ChangeSpec := { name := "sumSums", fn := fun _ => fun
  | [d1, d2, d3] => { results := [.lit (.bool true)], args := [d1, d2, d3] }
  | _ => none }
def sumSumsRow : OpenClaim := { program := "ytmgnabfmmmagkaadoor", sum := "6d579103a6bcb2c55d6dfde66a4e9804563342fe24164f1ec68424d3aa1fb533", func := "quilt/quiltlaw01.SumSums", spec := "sumSums", named := ["quilt/sum.fours"], apart := false, laid := [("quilt/sum.fours", laid_quilt_sum_fours)] }
def SumSumsSaid : Prop := sumSumsRow.holds Tryd.pinned (OpenSpec.ofChange sumSumsSpec)

/-- ITS FALSE NEIGHBOUR: 'it returns false'. Refute it at one input. -/
def sumSumsWrong : ChangeSpec := { name := "sumSums", fn := fun _ => fun
  | [d1, d2, d3] => { results := [.lit (.bool false)], args := [d1, d2, d3] }
  | _ => none }
def SumSumsWrongFalsely : Prop := sumSumsRow.holds Tryd.pinned (OpenSpec.ofChange sumSumsWrong)

/-- 'quiltlaw01.SumNoughts': WHATEVER THE INPUT: true; the input reads as it did. -/
def sumNoughtsSpec : ChangeSpec := { name := "sumNoughts", fn := fun _ => fun
  | [d1, d2, d3] => { results := [.lit (.bool true)], args := [d1, d2, d3] }
  | _ => none }
def sumNoughtsRow : OpenClaim := { program := "ytmgnabfmmmagkaadoor", sum := "6d579103a6bcb2c55d6dfde66a4e9804563342fe24164f1ec68424d3aa1fb533", func := "quilt/quiltlaw01.SumNoughts", spec := "sumNoughts", named := ["quilt/sum.fours"], apart := false, laid := [("quilt/sum.fours", laid_quilt_sum_fours)] }
def SumNoughtsSaid : Prop := sumNoughtsRow.holds Tryd.pinned (OpenSpec.ofChange sumNoughtsSpec)

/-- ITS FALSE NEIGHBOUR: 'it returns false'. Refute it at one input. -/
def sumNoughtsWrong : ChangeSpec := { name := "sumNoughts", fn := fun _ => fun
  | [d1, d2, d3] => { results := [.lit (.bool false)], args := [d1, d2, d3] }
  | _ => none }
def SumNoughtsWrongFalsely : Prop := sumNoughtsRow.holds Tryd.pinned (OpenSpec.ofChange sumNoughtsWrong)

/-- 'quiltlaw01.SumParts': WHATEVER THE INPUT: true; the input reads as it did. -/
def sumPartsSpec : ChangeSpec := { name := "sumParts", fn := fun _ => fun
  | [d1, d2] => { results := [.lit (.bool true)], args := [d1, d2] }
  | _ => none }
def sumPartsRow : OpenClaim := { program := "ytmgnabfmmmagkaadoor", sum := "6d579103a6bcb2c55d6dfde66a4e9804563342fe24164f1ec68424d3aa1fb533", func := "quilt/quiltlaw01.SumParts", spec := "sumParts", named := ["quilt/sum.fours"], apart := false, laid := [("quilt/sum.fours", laid_quilt_sum_fours)] }
def SumPartsSaid : Prop := sumPartsRow.holds Tryd.pinned (OpenSpec.ofChange sumPartsSpec)

/-- ITS FALSE NEIGHBOUR: 'it returns false'. Refute it at one input. -/
def sumPartsWrong : ChangeSpec := { name := "sumParts", fn := fun _ => fun
  | [d1, d2] => { results := [.lit (.bool false)], args := [d1, d2] }
  | _ => none }
def SumPartsWrongFalsely : Prop := sumPartsRow.holds Tryd.pinned (OpenSpec.ofChange sumPartsWrong)

/-- 'quiltlaw01.SumMarks': WHATEVER THE INPUT: true; the input reads as it did. -/
def sumMarksSpec : ChangeSpec := { name := "sumMarks", fn := fun _ => fun
  | [d] => { results := [.lit (.bool true)], args := [d] }
  | _ => none }
def sumMarksRow : OpenClaim := { program := "ytmgnabfmmmagkaadoor", sum := "6d579103a6bcb2c55d6dfde66a4e9804563342fe24164f1ec68424d3aa1fb533", func := "quilt/quiltlaw01.SumMarks", spec := "sumMarks", inPlace := ["internal/reflectlite.ValueOf", "(internal/reflectlite.Value).Type", "(internal/reflectlite.Value).IsNil", "internal/reflectlite.TypeOf", "(internal/reflectlite.Value).Elem", "(internal/reflectlite.Value).Set"], unfollowed := true, recurses := true, named := ["quilt/sum.fours", "errors.errorType"], apart := false, laid := [("errors.errorType", laid_errors_errorType), ("quilt/sum.fours", laid_quilt_sum_fours)] }
def SumMarksSaid : Prop := sumMarksRow.holds Tryd.pinned (OpenSpec.ofChange sumMarksSpec)

/-- ITS FALSE NEIGHBOUR: 'it returns false'. Refute it at one input. -/
def sumMarksWrong : ChangeSpec := { name := "sumMarks", fn := fun _ => fun
  | [d] => { results := [.lit (.bool false)], args := [d] }
  | _ => none }
def SumMarksWrongFalsely : Prop := sumMarksRow.holds Tryd.pinned (OpenSpec.ofChange sumMarksWrong)

/- THE SECOND FORM. 'bulk': how many values and letters a reading holds, each counted each time it is reached (what is shared counts as often as it is met; a slice's spare places count too). A statement '..UptoSaid' is the law's where the arguments, and the package variables that the reading takes, are together of bulk at most 1048576: NARROWER than '..Said'. Prove '..Said' where nothing that the law and all that it calls make is longer than what came in: it says more and counts as full. Else prove '..UptoSaid'. A law counts once. -/
mutual
def uptoBulk {H : Type} : DataW H → Nat
  | .lit (.string bytes) => bytes.length + 1
  | .lit _ => 1
  | .nil => 1
  | .ptr d => uptoBulk d + 1
  | .slice elems spare => uptoBulkAll elems + uptoBulkAll spare + 1
  | .agg parts => uptoBulkAll parts + 1
  | .iface _ d => uptoBulk d + 1
  | .map entries => uptoBulkEntries entries + 1
  | .held _ => 1
def uptoBulkAll {H : Type} : List (DataW H) → Nat
  | [] => 0
  | d :: r => uptoBulk d + uptoBulkAll r
def uptoBulkEntries {H : Type} : List (Lit × DataW H) → Nat
  | [] => 0
  | x :: r => uptoBulkEntry x + uptoBulkEntries r
def uptoBulkEntry {H : Type} : Lit × DataW H → Nat
  | (.string bytes, d) => bytes.length + uptoBulk d + 1
  | (_, d) => uptoBulk d + 1
 end
def uptoSmall : (H : Type) → List (DataW H) → Bool := fun _ ds => decide (uptoBulkAll ds ≤ 1048576)
def OpenSpec.upto (s : _root_.Go.ChangeSpec) : _root_.Go.OpenSpec := { _root_.Go.OpenSpec.ofChange s with cond := some uptoSmall }

/-- 'quiltlaw01.SumRot', WHERE WHAT IT READS IS OF BULK AT MOST 1048576: true; the input reads as it did. -/
def sumRotUptoRow : OpenClaim := { program := "ytmgnabfmmmagkaadoor", sum := "6d579103a6bcb2c55d6dfde66a4e9804563342fe24164f1ec68424d3aa1fb533", func := "quilt/quiltlaw01.SumRot", spec := "sumRot", named := ["quilt/sum.fours"], apart := false, laid := [("quilt/sum.fours", laid_quilt_sum_fours)], narrowed := true }
def SumRotUptoSaid : Prop := sumRotUptoRow.holds Tryd.pinned (OpenSpec.upto sumRotSpec)

/-- 'quiltlaw01.SumTurned', WHERE WHAT IT READS IS OF BULK AT MOST 1048576: true; the input reads as it did. -/
def sumTurnedUptoRow : OpenClaim := { program := "ytmgnabfmmmagkaadoor", sum := "6d579103a6bcb2c55d6dfde66a4e9804563342fe24164f1ec68424d3aa1fb533", func := "quilt/quiltlaw01.SumTurned", spec := "sumTurned", named := ["quilt/sum.fours"], apart := false, laid := [("quilt/sum.fours", laid_quilt_sum_fours)], narrowed := true }
def SumTurnedUptoSaid : Prop := sumTurnedUptoRow.holds Tryd.pinned (OpenSpec.upto sumTurnedSpec)

/-- 'quiltlaw01.SumOnce', WHERE WHAT IT READS IS OF BULK AT MOST 1048576: true; the input reads as it did. -/
def sumOnceUptoRow : OpenClaim := { program := "ytmgnabfmmmagkaadoor", sum := "6d579103a6bcb2c55d6dfde66a4e9804563342fe24164f1ec68424d3aa1fb533", func := "quilt/quiltlaw01.SumOnce", spec := "sumOnce", named := ["quilt/sum.fours"], apart := false, laid := [("quilt/sum.fours", laid_quilt_sum_fours)], narrowed := true }
def SumOnceUptoSaid : Prop := sumOnceUptoRow.holds Tryd.pinned (OpenSpec.upto sumOnceSpec)

/-- 'quiltlaw01.SumSums', WHERE WHAT IT READS IS OF BULK AT MOST 1048576: true; the input reads as it did. -/
def sumSumsUptoRow : OpenClaim := { program := "ytmgnabfmmmagkaadoor", sum := "6d579103a6bcb2c55d6dfde66a4e9804563342fe24164f1ec68424d3aa1fb533", func := "quilt/quiltlaw01.SumSums", spec := "sumSums", named := ["quilt/sum.fours"], apart := false, laid := [("quilt/sum.fours", laid_quilt_sum_fours)], narrowed := true }
def SumSumsUptoSaid : Prop := sumSumsUptoRow.holds Tryd.pinned (OpenSpec.upto sumSumsSpec)

/-- 'quiltlaw01.SumNoughts', WHERE WHAT IT READS IS OF BULK AT MOST 1048576: true; the input reads as it did. -/
def sumNoughtsUptoRow : OpenClaim := { program := "ytmgnabfmmmagkaadoor", sum := "6d579103a6bcb2c55d6dfde66a4e9804563342fe24164f1ec68424d3aa1fb533", func := "quilt/quiltlaw01.SumNoughts", spec := "sumNoughts", named := ["quilt/sum.fours"], apart := false, laid := [("quilt/sum.fours", laid_quilt_sum_fours)], narrowed := true }
def SumNoughtsUptoSaid : Prop := sumNoughtsUptoRow.holds Tryd.pinned (OpenSpec.upto sumNoughtsSpec)

/-- 'quiltlaw01.SumParts', WHERE WHAT IT READS IS OF BULK AT MOST 1048576: true; the input reads as it did. -/
def sumPartsUptoRow : OpenClaim := { program := "ytmgnabfmmmagkaadoor", sum := "6d579103a6bcb2c55d6dfde66a4e9804563342fe24164f1ec68424d3aa1fb533", func := "quilt/quiltlaw01.SumParts", spec := "sumParts", named := ["quilt/sum.fours"], apart := false, laid := [("quilt/sum.fours", laid_quilt_sum_fours)], narrowed := true }
def SumPartsUptoSaid : Prop := sumPartsUptoRow.holds Tryd.pinned (OpenSpec.upto sumPartsSpec)

/-- 'quiltlaw01.SumMarks', WHERE WHAT IT READS IS OF BULK AT MOST 1048576: true; the input reads as it did. -/
def sumMarksUptoRow : OpenClaim := { program := "ytmgnabfmmmagkaadoor", sum := "6d579103a6bcb2c55d6dfde66a4e9804563342fe24164f1ec68424d3aa1fb533", func := "quilt/quiltlaw01.SumMarks", spec := "sumMarks", inPlace := ["internal/reflectlite.ValueOf", "(internal/reflectlite.Value).Type", "(internal/reflectlite.Value).IsNil", "internal/reflectlite.TypeOf", "(internal/reflectlite.Value).Elem", "(internal/reflectlite.Value).Set"], unfollowed := true, recurses := true, named := ["quilt/sum.fours", "errors.errorType"], apart := false, laid := [("errors.errorType", laid_errors_errorType), ("quilt/sum.fours", laid_quilt_sum_fours)], narrowed := true }
def SumMarksUptoSaid : Prop := sumMarksUptoRow.holds Tryd.pinned (OpenSpec.upto sumMarksSpec)

end Rows
end Go.Proofs.YtmgnabfmmmagkaaDoor
