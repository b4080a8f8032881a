/-
  NARROWER THAN 'FOR EVERY INPUT', by the rows' own cells (each row's printed sentence says how): HeadBack: laid · HeadRises: laid · HeadNames: laid · HeadParted: laid · HeadSwaps: laid · HeadCodes: laid.
  DERIVED. THE GIVEN ROWS OF THIS SEAT. 6 by the template 'for every input the law returns true; each argument reads behind the call as it read before'; 0 by the template 'total and deterministic' (their statements: YtjpkncfmionieaaDoorTotals.lean).
  GIVEN WITH THE SEED: the statements are not yours to turn. If you find one false, say at which input.
  Laid BY PROGRAM, IN A SANDBOX (cutbox-rows.mjs): the forced cells as the released guide's own fill.sh prints them over the translation 2bdb600ce269c73f… (all of the seat's roots in one cut). By AI agents, Wed Nov 11 2026. No macro, syntax, notation, axiom, sorry.
-/
import Derived.Test.YtjpkncfmionieaaDoorChecked
import GoSem.Claim
import GoSem.ClaimJoined
import GoSem.ClaimMapViews
import Derived.JoinedTies
import Derived.KernelRfl
namespace Go.Proofs.YtjpkncfmionieaaDoor
/- THE CELL 'sum', in the pinned program and in every row, IS THE sha256 OF THE DUMP (.gsa) THAT YtjpkncfmionieaaDoorProg.lean LOADS. Nothing in Lean hashes anything: it is a label: what it is worth is what the hold of that sum in a sandbox is worth. -/
noncomputable def Tryd.pinned : Pinned := { name := "ytjpkncfmionieaadoor", sum := "2bdb600ce269c73f1b7da9b9995ddafef79a4e03884e2b230181dd130ea77498", checked := Tryd.checked }
namespace Rows
def none {H : Type} : Left H := { results := [], args := [] }

/- WHAT THE LISTED PACKAGE-LEVEL VARIABLES READ AS WHEN THE CALL BEGINS. Each datum BY PROGRAM (the guide's laid-datum.mjs) off the statement by which the dump's own 'gosem.cut.vars' lays the variable. In a bare row this is a premise. The card (YtjpkncfmionieaaDoorCards.lean) ties it to the program's text. -/
def laid_baton_sum_nibbles {H : Type} : DataW H := .agg [.lit (.int .u32 0), .lit (.int .u32 274646895), .lit (.int .u32 549293790), .lit (.int .u32 820201905), .lit (.int .u32 1098587580), .lit (.int .u32 1361435347), .lit (.int .u32 1640403810), .lit (.int .u32 1905808397), .lit (.int .u32 2197175160), .lit (.int .u32 2460548119), .lit (.int .u32 2722870694), .lit (.int .u32 2987750089), .lit (.int .u32 3280807620), .lit (.int .u32 3553878443), .lit (.int .u32 3811616794), .lit (.int .u32 4084100981)]

/-- 'batonlaw09.HeadBack': WHATEVER THE INPUT: true; the input reads as it did. -/
def headBackSpec : ChangeSpec := { name := "headBack", fn := fun _ => fun
  | [d1, d2] => { results := [.lit (.bool true)], args := [d1, d2] }
  | _ => none }
def headBackRow : OpenClaim := { program := "ytjpkncfmionieaadoor", sum := "2bdb600ce269c73f1b7da9b9995ddafef79a4e03884e2b230181dd130ea77498", func := "baton/batonlaw09.HeadBack", spec := "headBack", unfollowed := true, recurses := true, named := ["baton/sum.nibbles"], apart := false, laid := [("baton/sum.nibbles", laid_baton_sum_nibbles)] }
def HeadBackSaid : Prop := headBackRow.holds Tryd.pinned (OpenSpec.ofChange headBackSpec)

/-- ITS FALSE NEIGHBOUR: 'it returns false'. Refute it at one input. -/
def headBackWrong : ChangeSpec := { name := "headBack", fn := fun _ => fun
  | [d1, d2] => { results := [.lit (.bool false)], args := [d1, d2] }
  | _ => none }
def HeadBackWrongFalsely : Prop := headBackRow.holds Tryd.pinned (OpenSpec.ofChange headBackWrong)

/-- 'batonlaw09.HeadRises': WHATEVER THE INPUT: true; the input reads as it did. -/
def headRisesSpec : ChangeSpec := { name := "headRises", fn := fun _ => fun
  | [d] => { results := [.lit (.bool true)], args := [d] }
  | _ => none }
def headRisesRow : OpenClaim := { program := "ytjpkncfmionieaadoor", sum := "2bdb600ce269c73f1b7da9b9995ddafef79a4e03884e2b230181dd130ea77498", func := "baton/batonlaw09.HeadRises", spec := "headRises", unfollowed := true, recurses := true, named := ["baton/sum.nibbles"], apart := false, laid := [("baton/sum.nibbles", laid_baton_sum_nibbles)] }
def HeadRisesSaid : Prop := headRisesRow.holds Tryd.pinned (OpenSpec.ofChange headRisesSpec)

/-- ITS FALSE NEIGHBOUR: 'it returns false'. Refute it at one input. -/
def headRisesWrong : ChangeSpec := { name := "headRises", fn := fun _ => fun
  | [d] => { results := [.lit (.bool false)], args := [d] }
  | _ => none }
def HeadRisesWrongFalsely : Prop := headRisesRow.holds Tryd.pinned (OpenSpec.ofChange headRisesWrong)

/-- 'batonlaw09.HeadNames': WHATEVER THE INPUT: true; the input reads as it did. -/
def headNamesSpec : ChangeSpec := { name := "headNames", fn := fun _ => fun
  | [] => { results := [.lit (.bool true)], args := [] }
  | _ => none }
def headNamesRow : OpenClaim := { program := "ytjpkncfmionieaadoor", sum := "2bdb600ce269c73f1b7da9b9995ddafef79a4e03884e2b230181dd130ea77498", func := "baton/batonlaw09.HeadNames", spec := "headNames", unfollowed := true, recurses := true, named := ["baton/sum.nibbles"], apart := false, laid := [("baton/sum.nibbles", laid_baton_sum_nibbles)] }
def HeadNamesSaid : Prop := headNamesRow.holds Tryd.pinned (OpenSpec.ofChange headNamesSpec)

/-- ITS FALSE NEIGHBOUR: 'it returns false'. Refute it at one input. -/
def headNamesWrong : ChangeSpec := { name := "headNames", fn := fun _ => fun
  | [] => { results := [.lit (.bool false)], args := [] }
  | _ => none }
def HeadNamesWrongFalsely : Prop := headNamesRow.holds Tryd.pinned (OpenSpec.ofChange headNamesWrong)

/-- 'batonlaw09.HeadParted': WHATEVER THE INPUT: true; the input reads as it did. -/
def headPartedSpec : ChangeSpec := { name := "headParted", fn := fun _ => fun
  | [d] => { results := [.lit (.bool true)], args := [d] }
  | _ => none }
def headPartedRow : OpenClaim := { program := "ytjpkncfmionieaadoor", sum := "2bdb600ce269c73f1b7da9b9995ddafef79a4e03884e2b230181dd130ea77498", func := "baton/batonlaw09.HeadParted", spec := "headParted", unfollowed := true, recurses := true, named := ["baton/sum.nibbles"], apart := false, laid := [("baton/sum.nibbles", laid_baton_sum_nibbles)] }
def HeadPartedSaid : Prop := headPartedRow.holds Tryd.pinned (OpenSpec.ofChange headPartedSpec)

/-- ITS FALSE NEIGHBOUR: 'it returns false'. Refute it at one input. -/
def headPartedWrong : ChangeSpec := { name := "headParted", fn := fun _ => fun
  | [d] => { results := [.lit (.bool false)], args := [d] }
  | _ => none }
def HeadPartedWrongFalsely : Prop := headPartedRow.holds Tryd.pinned (OpenSpec.ofChange headPartedWrong)

/-- 'batonlaw09.HeadSwaps': WHATEVER THE INPUT: true; the input reads as it did. -/
def headSwapsSpec : ChangeSpec := { name := "headSwaps", fn := fun _ => fun
  | [d1, d2, d3, d4, d5] => { results := [.lit (.bool true)], args := [d1, d2, d3, d4, d5] }
  | _ => none }
def headSwapsRow : OpenClaim := { program := "ytjpkncfmionieaadoor", sum := "2bdb600ce269c73f1b7da9b9995ddafef79a4e03884e2b230181dd130ea77498", func := "baton/batonlaw09.HeadSwaps", spec := "headSwaps", unfollowed := true, recurses := true, named := ["baton/sum.nibbles"], apart := false, laid := [("baton/sum.nibbles", laid_baton_sum_nibbles)] }
def HeadSwapsSaid : Prop := headSwapsRow.holds Tryd.pinned (OpenSpec.ofChange headSwapsSpec)

/-- ITS FALSE NEIGHBOUR: 'it returns false'. Refute it at one input. -/
def headSwapsWrong : ChangeSpec := { name := "headSwaps", fn := fun _ => fun
  | [d1, d2, d3, d4, d5] => { results := [.lit (.bool false)], args := [d1, d2, d3, d4, d5] }
  | _ => none }
def HeadSwapsWrongFalsely : Prop := headSwapsRow.holds Tryd.pinned (OpenSpec.ofChange headSwapsWrong)

/-- 'batonlaw09.HeadCodes': WHATEVER THE INPUT: true; the input reads as it did. -/
def headCodesSpec : ChangeSpec := { name := "headCodes", fn := fun _ => fun
  | [d1, d2, d3, d4] => { results := [.lit (.bool true)], args := [d1, d2, d3, d4] }
  | _ => none }
def headCodesRow : OpenClaim := { program := "ytjpkncfmionieaadoor", sum := "2bdb600ce269c73f1b7da9b9995ddafef79a4e03884e2b230181dd130ea77498", func := "baton/batonlaw09.HeadCodes", spec := "headCodes", unfollowed := true, recurses := true, named := ["baton/sum.nibbles"], apart := false, laid := [("baton/sum.nibbles", laid_baton_sum_nibbles)] }
def HeadCodesSaid : Prop := headCodesRow.holds Tryd.pinned (OpenSpec.ofChange headCodesSpec)

/-- ITS FALSE NEIGHBOUR: 'it returns false'. Refute it at one input. -/
def headCodesWrong : ChangeSpec := { name := "headCodes", fn := fun _ => fun
  | [d1, d2, d3, d4] => { results := [.lit (.bool false)], args := [d1, d2, d3, d4] }
  | _ => none }
def HeadCodesWrongFalsely : Prop := headCodesRow.holds Tryd.pinned (OpenSpec.ofChange headCodesWrong)

/- THE SECOND FORM. 'bulk': how many values and letters a reading holds, each counted each time it is reached (what is shared counts as often as it is met; a slice's spare places count too). A statement '..UptoSaid' is the law's where the arguments, and the package variables that the reading takes, are together of bulk at most 1048576: NARROWER than '..Said'. Prove '..Said' where nothing that the law and all that it calls make is longer than what came in: it says more and counts as full. Else prove '..UptoSaid'. A law counts once. -/
mutual
def uptoBulk {H : Type} : DataW H → Nat
  | .lit (.string bytes) => bytes.length + 1
  | .lit _ => 1
  | .nil => 1
  | .ptr d => uptoBulk d + 1
  | .slice elems spare => uptoBulkAll elems + uptoBulkAll spare + 1
  | .agg parts => uptoBulkAll parts + 1
  | .iface _ d => uptoBulk d + 1
  | .map entries => uptoBulkEntries entries + 1
  | .held _ => 1
def uptoBulkAll {H : Type} : List (DataW H) → Nat
  | [] => 0
  | d :: r => uptoBulk d + uptoBulkAll r
def uptoBulkEntries {H : Type} : List (Lit × DataW H) → Nat
  | [] => 0
  | x :: r => uptoBulkEntry x + uptoBulkEntries r
def uptoBulkEntry {H : Type} : Lit × DataW H → Nat
  | (.string bytes, d) => bytes.length + uptoBulk d + 1
  | (_, d) => uptoBulk d + 1
 end
def uptoSmall : (H : Type) → List (DataW H) → Bool := fun _ ds => decide (uptoBulkAll ds ≤ 1048576)
def OpenSpec.upto (s : _root_.Go.ChangeSpec) : _root_.Go.OpenSpec := { _root_.Go.OpenSpec.ofChange s with cond := some uptoSmall }

/-- 'batonlaw09.HeadBack', WHERE WHAT IT READS IS OF BULK AT MOST 1048576: true; the input reads as it did. -/
def headBackUptoRow : OpenClaim := { program := "ytjpkncfmionieaadoor", sum := "2bdb600ce269c73f1b7da9b9995ddafef79a4e03884e2b230181dd130ea77498", func := "baton/batonlaw09.HeadBack", spec := "headBack", unfollowed := true, recurses := true, named := ["baton/sum.nibbles"], apart := false, laid := [("baton/sum.nibbles", laid_baton_sum_nibbles)], narrowed := true }
def HeadBackUptoSaid : Prop := headBackUptoRow.holds Tryd.pinned (OpenSpec.upto headBackSpec)

/-- 'batonlaw09.HeadRises', WHERE WHAT IT READS IS OF BULK AT MOST 1048576: true; the input reads as it did. -/
def headRisesUptoRow : OpenClaim := { program := "ytjpkncfmionieaadoor", sum := "2bdb600ce269c73f1b7da9b9995ddafef79a4e03884e2b230181dd130ea77498", func := "baton/batonlaw09.HeadRises", spec := "headRises", unfollowed := true, recurses := true, named := ["baton/sum.nibbles"], apart := false, laid := [("baton/sum.nibbles", laid_baton_sum_nibbles)], narrowed := true }
def HeadRisesUptoSaid : Prop := headRisesUptoRow.holds Tryd.pinned (OpenSpec.upto headRisesSpec)

/-- 'batonlaw09.HeadNames', WHERE WHAT IT READS IS OF BULK AT MOST 1048576: true; the input reads as it did. -/
def headNamesUptoRow : OpenClaim := { program := "ytjpkncfmionieaadoor", sum := "2bdb600ce269c73f1b7da9b9995ddafef79a4e03884e2b230181dd130ea77498", func := "baton/batonlaw09.HeadNames", spec := "headNames", unfollowed := true, recurses := true, named := ["baton/sum.nibbles"], apart := false, laid := [("baton/sum.nibbles", laid_baton_sum_nibbles)], narrowed := true }
def HeadNamesUptoSaid : Prop := headNamesUptoRow.holds Tryd.pinned (OpenSpec.upto headNamesSpec)

/-- 'batonlaw09.HeadParted', WHERE WHAT IT READS IS OF BULK AT MOST 1048576: true; the input reads as it did. -/
def headPartedUptoRow : OpenClaim := { program := "ytjpkncfmionieaadoor", sum := "2bdb600ce269c73f1b7da9b9995ddafef79a4e03884e2b230181dd130ea77498", func := "baton/batonlaw09.HeadParted", spec := "headParted", unfollowed := true, recurses := true, named := ["baton/sum.nibbles"], apart := false, laid := [("baton/sum.nibbles", laid_baton_sum_nibbles)], narrowed := true }
def HeadPartedUptoSaid : Prop := headPartedUptoRow.holds Tryd.pinned (OpenSpec.upto headPartedSpec)

/-- 'batonlaw09.HeadSwaps', WHERE WHAT IT READS IS OF BULK AT MOST 1048576: true; the input reads as it did. -/
def headSwapsUptoRow : OpenClaim := { program := "ytjpkncfmionieaadoor", sum := "2bdb600ce269c73f1b7da9b9995ddafef79a4e03884e2b230181dd130ea77498", func := "baton/batonlaw09.HeadSwaps", spec := "headSwaps", unfollowed := true, recurses := true, named := ["baton/sum.nibbles"], apart := false, laid := [("baton/sum.nibbles", laid_baton_sum_nibbles)], narrowed := true }
def HeadSwapsUptoSaid : Prop := headSwapsUptoRow.holds Tryd.pinned (OpenSpec.upto headSwapsSpec)

/-- 'batonlaw09.HeadCodes', WHERE WHAT IT READS IS OF BULK AT MOST 1048576: true; the input reads as it did. -/
def headCodesUptoRow : OpenClaim := { program := "ytjpkncfmionieaadoor", sum := "2bdb600ce269c73f1b7da9b9995ddafef79a4e03884e2b230181dd130ea77498", func := "baton/batonlaw09.HeadCodes", spec := "headCodes", unfollowed := true, recurses := true, named := ["baton/sum.nibbles"], apart := false, laid := [("baton/sum.nibbles", laid_baton_sum_nibbles)], narrowed := true }
def HeadCodesUptoSaid : Prop := headCodesUptoRow.holds Tryd.pinned (OpenSpec.upto headCodesSpec)

end Rows
end Go.Proofs.YtjpkncfmionieaaDoor
