/-
  NARROWER THAN 'FOR EVERY INPUT', by the rows' own cells (each row's printed sentence says how): FrameRow: laid · FrameBent: laid · FrameMakes: laid · FrameTorn: laid · FrameAny: laid · FrameReads: laid · FrameBack: laid · FrameNames: laid.
  DERIVED. THE GIVEN ROWS OF THIS SEAT. 8 by the template 'for every input the law returns true; each argument reads behind the call as it read before'; 0 by the template 'total and deterministic' (their statements: YtdclfffjiokenaaDoorTotals.lean).
  GIVEN WITH THE SEED: the statements are not yours to turn. If you find one false, say at which input.
  Laid BY PROGRAM, IN A SANDBOX (cutbox-rows.mjs): the forced cells as the released guide's own fill.sh prints them over the translation 8515d77a8408ef3b… (all of the seat's roots in one cut). By AI agents, Wed Nov 11 2026. No macro, syntax, notation, axiom, sorry.
-/
import Derived.Test.YtdclfffjiokenaaDoorChecked
import GoSem.Claim
import GoSem.ClaimJoined
import GoSem.ClaimMapViews
import Derived.JoinedTies
import Derived.KernelRfl
namespace Go.Proofs.YtdclfffjiokenaaDoor
/- THE CELL 'sum', in the pinned program and in every row, IS THE sha256 OF THE DUMP (.gsa) THAT YtdclfffjiokenaaDoorProg.lean LOADS. Nothing in Lean hashes anything: it is a label: what it is worth is what the hold of that sum in a sandbox is worth. -/
noncomputable def Tryd.pinned : Pinned := { name := "ytdclfffjiokenaadoor", sum := "8515d77a8408ef3be4847d210dc7f7fb1032b63711b0f5da82480047a14ba266", checked := Tryd.checked }
namespace Rows
def none {H : Type} : Left H := { results := [], args := [] }

/- WHAT THE LISTED PACKAGE-LEVEL VARIABLES READ AS WHEN THE CALL BEGINS. Each datum BY PROGRAM (the guide's laid-datum.mjs) off the statement by which the dump's own 'gosem.cut.vars' lays the variable. In a bare row this is a premise. The card (YtdclfffjiokenaaDoorCards.lean) ties it to the program's text. -/
def laid_baton_sum_nibbles {H : Type} : DataW H := .agg [.lit (.int .u32 0), .lit (.int .u32 274646895), .lit (.int .u32 549293790), .lit (.int .u32 820201905), .lit (.int .u32 1098587580), .lit (.int .u32 1361435347), .lit (.int .u32 1640403810), .lit (.int .u32 1905808397), .lit (.int .u32 2197175160), .lit (.int .u32 2460548119), .lit (.int .u32 2722870694), .lit (.int .u32 2987750089), .lit (.int .u32 3280807620), .lit (.int .u32 3553878443), .lit (.int .u32 3811616794), .lit (.int .u32 4084100981)]

/-- 'batonlaw08.FrameRow': WHATEVER THE INPUT: true; the input reads as it did. -/
def frameRowSpec : ChangeSpec := { name := "frameRow", fn := fun _ => fun
  | [d1, d2] => { results := [.lit (.bool true)], args := [d1, d2] }
  | _ => none }
def frameRowRow : OpenClaim := { program := "ytdclfffjiokenaadoor", sum := "8515d77a8408ef3be4847d210dc7f7fb1032b63711b0f5da82480047a14ba266", func := "baton/batonlaw08.FrameRow", spec := "frameRow", unfollowed := true, recurses := true, named := ["baton/sum.nibbles"], apart := false, laid := [("baton/sum.nibbles", laid_baton_sum_nibbles)] }
def FrameRowSaid : Prop := frameRowRow.holds Tryd.pinned (OpenSpec.ofChange frameRowSpec)

/-- ITS FALSE NEIGHBOUR: 'it returns false'. Refute it at one input. -/
def frameRowWrong : ChangeSpec := { name := "frameRow", fn := fun _ => fun
  | [d1, d2] => { results := [.lit (.bool false)], args := [d1, d2] }
  | _ => none }
def FrameRowWrongFalsely : Prop := frameRowRow.holds Tryd.pinned (OpenSpec.ofChange frameRowWrong)

/-- 'batonlaw08.FrameBent': WHATEVER THE INPUT: true; the input reads as it did. -/
def frameBentSpec : ChangeSpec := { name := "frameBent", fn := fun _ => fun
  | [d1, d2, d3] => { results := [.lit (.bool true)], args := [d1, d2, d3] }
  | _ => none }
def frameBentRow : OpenClaim := { program := "ytdclfffjiokenaadoor", sum := "8515d77a8408ef3be4847d210dc7f7fb1032b63711b0f5da82480047a14ba266", func := "baton/batonlaw08.FrameBent", spec := "frameBent", unfollowed := true, recurses := true, named := ["baton/sum.nibbles"], apart := false, laid := [("baton/sum.nibbles", laid_baton_sum_nibbles)] }
def FrameBentSaid : Prop := frameBentRow.holds Tryd.pinned (OpenSpec.ofChange frameBentSpec)

/-- ITS FALSE NEIGHBOUR: 'it returns false'. Refute it at one input. -/
def frameBentWrong : ChangeSpec := { name := "frameBent", fn := fun _ => fun
  | [d1, d2, d3] => { results := [.lit (.bool false)], args := [d1, d2, d3] }
  | _ => none }
def FrameBentWrongFalsely : Prop := frameBentRow.holds Tryd.pinned (OpenSpec.ofChange frameBentWrong)

/-- 'batonlaw08.FrameMakes': WHATEVER THE INPUT: true; the input reads as it did. -/
def frameMakesSpec : ChangeSpec := { name := "frameMakes", fn := fun _ => fun
  | [d1, d2, d3] => { results := [.lit (.bool true)], args := [d1, d2, d3] }
  | _ => none }
def frameMakesRow : OpenClaim := { program := "ytdclfffjiokenaadoor", sum := "8515d77a8408ef3be4847d210dc7f7fb1032b63711b0f5da82480047a14ba266", func := "baton/batonlaw08.FrameMakes", spec := "frameMakes", unfollowed := true, recurses := true, named := ["baton/sum.nibbles"], apart := false, laid := [("baton/sum.nibbles", laid_baton_sum_nibbles)] }
def FrameMakesSaid : Prop := frameMakesRow.holds Tryd.pinned (OpenSpec.ofChange frameMakesSpec)

/-- ITS FALSE NEIGHBOUR: 'it returns false'. Refute it at one input. -/
def frameMakesWrong : ChangeSpec := { name := "frameMakes", fn := fun _ => fun
  | [d1, d2, d3] => { results := [.lit (.bool false)], args := [d1, d2, d3] }
  | _ => none }
def FrameMakesWrongFalsely : Prop := frameMakesRow.holds Tryd.pinned (OpenSpec.ofChange frameMakesWrong)

/-- 'batonlaw08.FrameTorn': WHATEVER THE INPUT: true; the input reads as it did. -/
def frameTornSpec : ChangeSpec := { name := "frameTorn", fn := fun _ => fun
  | [d1, d2] => { results := [.lit (.bool true)], args := [d1, d2] }
  | _ => none }
def frameTornRow : OpenClaim := { program := "ytdclfffjiokenaadoor", sum := "8515d77a8408ef3be4847d210dc7f7fb1032b63711b0f5da82480047a14ba266", func := "baton/batonlaw08.FrameTorn", spec := "frameTorn", unfollowed := true, recurses := true, named := ["baton/sum.nibbles"], apart := false, laid := [("baton/sum.nibbles", laid_baton_sum_nibbles)] }
def FrameTornSaid : Prop := frameTornRow.holds Tryd.pinned (OpenSpec.ofChange frameTornSpec)

/-- ITS FALSE NEIGHBOUR: 'it returns false'. Refute it at one input. -/
def frameTornWrong : ChangeSpec := { name := "frameTorn", fn := fun _ => fun
  | [d1, d2] => { results := [.lit (.bool false)], args := [d1, d2] }
  | _ => none }
def FrameTornWrongFalsely : Prop := frameTornRow.holds Tryd.pinned (OpenSpec.ofChange frameTornWrong)

/-- 'batonlaw08.FrameAny': WHATEVER THE INPUT: true; the input reads as it did. -/
def frameAnySpec : ChangeSpec := { name := "frameAny", fn := fun _ => fun
  | [d1, d2] => { results := [.lit (.bool true)], args := [d1, d2] }
  | _ => none }
def frameAnyRow : OpenClaim := { program := "ytdclfffjiokenaadoor", sum := "8515d77a8408ef3be4847d210dc7f7fb1032b63711b0f5da82480047a14ba266", func := "baton/batonlaw08.FrameAny", spec := "frameAny", unfollowed := true, recurses := true, named := ["baton/sum.nibbles"], apart := false, laid := [("baton/sum.nibbles", laid_baton_sum_nibbles)] }
def FrameAnySaid : Prop := frameAnyRow.holds Tryd.pinned (OpenSpec.ofChange frameAnySpec)

/-- ITS FALSE NEIGHBOUR: 'it returns false'. Refute it at one input. -/
def frameAnyWrong : ChangeSpec := { name := "frameAny", fn := fun _ => fun
  | [d1, d2] => { results := [.lit (.bool false)], args := [d1, d2] }
  | _ => none }
def FrameAnyWrongFalsely : Prop := frameAnyRow.holds Tryd.pinned (OpenSpec.ofChange frameAnyWrong)

/-- 'batonlaw08.FrameReads': WHATEVER THE INPUT: true; the input reads as it did. -/
def frameReadsSpec : ChangeSpec := { name := "frameReads", fn := fun _ => fun
  | [d1, d2, d3] => { results := [.lit (.bool true)], args := [d1, d2, d3] }
  | _ => none }
def frameReadsRow : OpenClaim := { program := "ytdclfffjiokenaadoor", sum := "8515d77a8408ef3be4847d210dc7f7fb1032b63711b0f5da82480047a14ba266", func := "baton/batonlaw08.FrameReads", spec := "frameReads", unfollowed := true, recurses := true, named := ["baton/sum.nibbles"], apart := false, laid := [("baton/sum.nibbles", laid_baton_sum_nibbles)] }
def FrameReadsSaid : Prop := frameReadsRow.holds Tryd.pinned (OpenSpec.ofChange frameReadsSpec)

/-- ITS FALSE NEIGHBOUR: 'it returns false'. Refute it at one input. -/
def frameReadsWrong : ChangeSpec := { name := "frameReads", fn := fun _ => fun
  | [d1, d2, d3] => { results := [.lit (.bool false)], args := [d1, d2, d3] }
  | _ => none }
def FrameReadsWrongFalsely : Prop := frameReadsRow.holds Tryd.pinned (OpenSpec.ofChange frameReadsWrong)

/-- 'batonlaw08.FrameBack': WHATEVER THE INPUT: true; the input reads as it did. -/
def frameBackSpec : ChangeSpec := { name := "frameBack", fn := fun _ => fun
  | [d1, d2, d3, d4] => { results := [.lit (.bool true)], args := [d1, d2, d3, d4] }
  | _ => none }
def frameBackRow : OpenClaim := { program := "ytdclfffjiokenaadoor", sum := "8515d77a8408ef3be4847d210dc7f7fb1032b63711b0f5da82480047a14ba266", func := "baton/batonlaw08.FrameBack", spec := "frameBack", unfollowed := true, recurses := true, named := ["baton/sum.nibbles"], apart := false, laid := [("baton/sum.nibbles", laid_baton_sum_nibbles)] }
def FrameBackSaid : Prop := frameBackRow.holds Tryd.pinned (OpenSpec.ofChange frameBackSpec)

/-- ITS FALSE NEIGHBOUR: 'it returns false'. Refute it at one input. -/
def frameBackWrong : ChangeSpec := { name := "frameBack", fn := fun _ => fun
  | [d1, d2, d3, d4] => { results := [.lit (.bool false)], args := [d1, d2, d3, d4] }
  | _ => none }
def FrameBackWrongFalsely : Prop := frameBackRow.holds Tryd.pinned (OpenSpec.ofChange frameBackWrong)

/-- 'batonlaw08.FrameNames': WHATEVER THE INPUT: true; the input reads as it did. -/
def frameNamesSpec : ChangeSpec := { name := "frameNames", fn := fun _ => fun
  | [] => { results := [.lit (.bool true)], args := [] }
  | _ => none }
def frameNamesRow : OpenClaim := { program := "ytdclfffjiokenaadoor", sum := "8515d77a8408ef3be4847d210dc7f7fb1032b63711b0f5da82480047a14ba266", func := "baton/batonlaw08.FrameNames", spec := "frameNames", unfollowed := true, recurses := true, named := ["baton/sum.nibbles"], apart := false, laid := [("baton/sum.nibbles", laid_baton_sum_nibbles)] }
def FrameNamesSaid : Prop := frameNamesRow.holds Tryd.pinned (OpenSpec.ofChange frameNamesSpec)

/-- ITS FALSE NEIGHBOUR: 'it returns false'. Refute it at one input. -/
def frameNamesWrong : ChangeSpec := { name := "frameNames", fn := fun _ => fun
  | [] => { results := [.lit (.bool false)], args := [] }
  | _ => none }
def FrameNamesWrongFalsely : Prop := frameNamesRow.holds Tryd.pinned (OpenSpec.ofChange frameNamesWrong)

/- THE SECOND FORM. 'bulk': how many values and letters a reading holds, each counted each time it is reached (what is shared counts as often as it is met; a slice's spare places count too). A statement '..UptoSaid' is the law's where the arguments, and the package variables that the reading takes, are together of bulk at most 1048576: NARROWER than '..Said'. Prove '..Said' where nothing that the law and all that it calls make is longer than what came in: it says more and counts as full. Else prove '..UptoSaid'. A law counts once. -/
mutual
def uptoBulk {H : Type} : DataW H → Nat
  | .lit (.string bytes) => bytes.length + 1
  | .lit _ => 1
  | .nil => 1
  | .ptr d => uptoBulk d + 1
  | .slice elems spare => uptoBulkAll elems + uptoBulkAll spare + 1
  | .agg parts => uptoBulkAll parts + 1
  | .iface _ d => uptoBulk d + 1
  | .map entries => uptoBulkEntries entries + 1
  | .held _ => 1
def uptoBulkAll {H : Type} : List (DataW H) → Nat
  | [] => 0
  | d :: r => uptoBulk d + uptoBulkAll r
def uptoBulkEntries {H : Type} : List (Lit × DataW H) → Nat
  | [] => 0
  | x :: r => uptoBulkEntry x + uptoBulkEntries r
def uptoBulkEntry {H : Type} : Lit × DataW H → Nat
  | (.string bytes, d) => bytes.length + uptoBulk d + 1
  | (_, d) => uptoBulk d + 1
 end
def uptoSmall : (H : Type) → List (DataW H) → Bool := fun _ ds => decide (uptoBulkAll ds ≤ 1048576)
def OpenSpec.upto (s : _root_.Go.ChangeSpec) : _root_.Go.OpenSpec := { _root_.Go.OpenSpec.ofChange s with cond := some uptoSmall }

/-- 'batonlaw08.FrameRow', WHERE WHAT IT READS IS OF BULK AT MOST 1048576: true; the input reads as it did. -/
def frameRowUptoRow : OpenClaim := { program := "ytdclfffjiokenaadoor", sum := "8515d77a8408ef3be4847d210dc7f7fb1032b63711b0f5da82480047a14ba266", func := "baton/batonlaw08.FrameRow", spec := "frameRow", unfollowed := true, recurses := true, named := ["baton/sum.nibbles"], apart := false, laid := [("baton/sum.nibbles", laid_baton_sum_nibbles)], narrowed := true }
def FrameRowUptoSaid : Prop := frameRowUptoRow.holds Tryd.pinned (OpenSpec.upto frameRowSpec)

/-- 'batonlaw08.FrameBent', WHERE WHAT IT READS IS OF BULK AT MOST 1048576: true; the input reads as it did. -/
def frameBentUptoRow : OpenClaim := { program := "ytdclfffjiokenaadoor", sum := "8515d77a8408ef3be4847d210dc7f7fb1032b63711b0f5da82480047a14ba266", func := "baton/batonlaw08.FrameBent", spec := "frameBent", unfollowed := true, recurses := true, named := ["baton/sum.nibbles"], apart := false, laid := [("baton/sum.nibbles", laid_baton_sum_nibbles)], narrowed := true }
def FrameBentUptoSaid : Prop := frameBentUptoRow.holds Tryd.pinned (OpenSpec.upto frameBentSpec)

/-- 'batonlaw08.FrameMakes', WHERE WHAT IT READS IS OF BULK AT MOST 1048576: true; the input reads as it did. -/
def frameMakesUptoRow : OpenClaim := { program := "ytdclfffjiokenaadoor", sum := "8515d77a8408ef3be4847d210dc7f7fb1032b63711b0f5da82480047a14ba266", func := "baton/batonlaw08.FrameMakes", spec := "frameMakes", unfollowed := true, recurses := true, named := ["baton/sum.nibbles"], apart := false, laid := [("baton/sum.nibbles", laid_baton_sum_nibbles)], narrowed := true }
def FrameMakesUptoSaid : Prop := frameMakesUptoRow.holds Tryd.pinned (OpenSpec.upto frameMakesSpec)

/-- 'batonlaw08.FrameTorn', WHERE WHAT IT READS IS OF BULK AT MOST 1048576: true; the input reads as it did. -/
def frameTornUptoRow : OpenClaim := { program := "ytdclfffjiokenaadoor", sum := "8515d77a8408ef3be4847d210dc7f7fb1032b63711b0f5da82480047a14ba266", func := "baton/batonlaw08.FrameTorn", spec := "frameTorn", unfollowed := true, recurses := true, named := ["baton/sum.nibbles"], apart := false, laid := [("baton/sum.nibbles", laid_baton_sum_nibbles)], narrowed := true }
def FrameTornUptoSaid : Prop := frameTornUptoRow.holds Tryd.pinned (OpenSpec.upto frameTornSpec)

/-- 'batonlaw08.FrameAny', WHERE WHAT IT READS IS OF BULK AT MOST 1048576: true; the input reads as it did. -/
def frameAnyUptoRow : OpenClaim := { program := "ytdclfffjiokenaadoor", sum := "8515d77a8408ef3be4847d210dc7f7fb1032b63711b0f5da82480047a14ba266", func := "baton/batonlaw08.FrameAny", spec := "frameAny", unfollowed := true, recurses := true, named := ["baton/sum.nibbles"], apart := false, laid := [("baton/sum.nibbles", laid_baton_sum_nibbles)], narrowed := true }
def FrameAnyUptoSaid : Prop := frameAnyUptoRow.holds Tryd.pinned (OpenSpec.upto frameAnySpec)

/-- 'batonlaw08.FrameReads', WHERE WHAT IT READS IS OF BULK AT MOST 1048576: true; the input reads as it did. -/
def frameReadsUptoRow : OpenClaim := { program := "ytdclfffjiokenaadoor", sum := "8515d77a8408ef3be4847d210dc7f7fb1032b63711b0f5da82480047a14ba266", func := "baton/batonlaw08.FrameReads", spec := "frameReads", unfollowed := true, recurses := true, named := ["baton/sum.nibbles"], apart := false, laid := [("baton/sum.nibbles", laid_baton_sum_nibbles)], narrowed := true }
def FrameReadsUptoSaid : Prop := frameReadsUptoRow.holds Tryd.pinned (OpenSpec.upto frameReadsSpec)

/-- 'batonlaw08.FrameBack', WHERE WHAT IT READS IS OF BULK AT MOST 1048576: true; the input reads as it did. -/
def frameBackUptoRow : OpenClaim := { program := "ytdclfffjiokenaadoor", sum := "8515d77a8408ef3be4847d210dc7f7fb1032b63711b0f5da82480047a14ba266", func := "baton/batonlaw08.FrameBack", spec := "frameBack", unfollowed := true, recurses := true, named := ["baton/sum.nibbles"], apart := false, laid := [("baton/sum.nibbles", laid_baton_sum_nibbles)], narrowed := true }
def FrameBackUptoSaid : Prop := frameBackUptoRow.holds Tryd.pinned (OpenSpec.upto frameBackSpec)

/-- 'batonlaw08.FrameNames', WHERE WHAT IT READS IS OF BULK AT MOST 1048576: true; the input reads as it did. -/
def frameNamesUptoRow : OpenClaim := { program := "ytdclfffjiokenaadoor", sum := "8515d77a8408ef3be4847d210dc7f7fb1032b63711b0f5da82480047a14ba266", func := "baton/batonlaw08.FrameNames", spec := "frameNames", unfollowed := true, recurses := true, named := ["baton/sum.nibbles"], apart := false, laid := [("baton/sum.nibbles", laid_baton_sum_nibbles)], narrowed := true }
def FrameNamesUptoSaid : Prop := frameNamesUptoRow.holds Tryd.pinned (OpenSpec.upto frameNamesSpec)

end Rows
end Go.Proofs.YtdclfffjiokenaaDoor
