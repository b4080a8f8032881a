/-
  NARROWER THAN 'FOR EVERY INPUT', by the rows' own cells (each row's printed sentence says how): SumJoined: laid · SumThree: laid · SumFar: laid · SumBurst: laid · SumMasked: laid · SumTells: laid · SumNames: laid.
  DERIVED. THE GIVEN ROWS OF THIS SEAT. 7 by the template 'for every input the law returns true; each argument reads behind the call as it read before'; 0 by the template 'total and deterministic' (their statements: YtinbmoafdmccfaaDoorTotals.lean).
  GIVEN WITH THE SEED: the statements are not yours to turn. If you find one false, say at which input.
  Laid BY PROGRAM, IN A SANDBOX (cutbox-rows.mjs): the forced cells as the released guide's own fill.sh prints them over the translation 82ec5e99a6cf0ff3… (all of the seat's roots in one cut). By AI agents, Wed Nov 11 2026. No macro, syntax, notation, axiom, sorry.
-/
import Derived.Test.YtinbmoafdmccfaaDoorChecked
import GoSem.Claim
import GoSem.ClaimJoined
import GoSem.ClaimMapViews
import Derived.JoinedTies
import Derived.KernelRfl
namespace Go.Proofs.YtinbmoafdmccfaaDoor
/- THE CELL 'sum', in the pinned program and in every row, IS THE sha256 OF THE DUMP (.gsa) THAT YtinbmoafdmccfaaDoorProg.lean LOADS. Nothing in Lean hashes anything: it is a label: what it is worth is what the hold of that sum in a sandbox is worth. -/
noncomputable def Tryd.pinned : Pinned := { name := "ytinbmoafdmccfaadoor", sum := "82ec5e99a6cf0ff385d07e9fa907f8b468f960e3660ae82ef4911e98b7acf4be", checked := Tryd.checked }
namespace Rows
def none {H : Type} : Left H := { results := [], args := [] }

/- WHAT THE LISTED PACKAGE-LEVEL VARIABLES READ AS WHEN THE CALL BEGINS. Each datum BY PROGRAM (the guide's laid-datum.mjs) off the statement by which the dump's own 'gosem.cut.vars' lays the variable. In a bare row this is a premise. The card (YtinbmoafdmccfaaDoorCards.lean) ties it to the program's text. -/
def laid_baton_sum_nibbles {H : Type} : DataW H := .agg [.lit (.int .u32 0), .lit (.int .u32 274646895), .lit (.int .u32 549293790), .lit (.int .u32 820201905), .lit (.int .u32 1098587580), .lit (.int .u32 1361435347), .lit (.int .u32 1640403810), .lit (.int .u32 1905808397), .lit (.int .u32 2197175160), .lit (.int .u32 2460548119), .lit (.int .u32 2722870694), .lit (.int .u32 2987750089), .lit (.int .u32 3280807620), .lit (.int .u32 3553878443), .lit (.int .u32 3811616794), .lit (.int .u32 4084100981)]

/-- 'batonlaw02.SumJoined': WHATEVER THE INPUT: true; the input reads as it did. -/
def sumJoinedSpec : ChangeSpec := { name := "sumJoined", fn := fun _ => fun
  | [d1, d2] => { results := [.lit (.bool true)], args := [d1, d2] }
  | _ => none }
def sumJoinedRow : OpenClaim := { program := "ytinbmoafdmccfaadoor", sum := "82ec5e99a6cf0ff385d07e9fa907f8b468f960e3660ae82ef4911e98b7acf4be", func := "baton/batonlaw02.SumJoined", spec := "sumJoined", unfollowed := true, recurses := true, named := ["baton/sum.nibbles"], apart := false, laid := [("baton/sum.nibbles", laid_baton_sum_nibbles)] }
def SumJoinedSaid : Prop := sumJoinedRow.holds Tryd.pinned (OpenSpec.ofChange sumJoinedSpec)

/-- ITS FALSE NEIGHBOUR: 'it returns false'. Refute it at one input. -/
def sumJoinedWrong : ChangeSpec := { name := "sumJoined", fn := fun _ => fun
  | [d1, d2] => { results := [.lit (.bool false)], args := [d1, d2] }
  | _ => none }
def SumJoinedWrongFalsely : Prop := sumJoinedRow.holds Tryd.pinned (OpenSpec.ofChange sumJoinedWrong)

/-- 'batonlaw02.SumThree': WHATEVER THE INPUT: true; the input reads as it did. -/
def sumThreeSpec : ChangeSpec := { name := "sumThree", fn := fun _ => fun
  | [d1, d2, d3] => { results := [.lit (.bool true)], args := [d1, d2, d3] }
  | _ => none }
def sumThreeRow : OpenClaim := { program := "ytinbmoafdmccfaadoor", sum := "82ec5e99a6cf0ff385d07e9fa907f8b468f960e3660ae82ef4911e98b7acf4be", func := "baton/batonlaw02.SumThree", spec := "sumThree", unfollowed := true, recurses := true, named := ["baton/sum.nibbles"], apart := false, laid := [("baton/sum.nibbles", laid_baton_sum_nibbles)] }
def SumThreeSaid : Prop := sumThreeRow.holds Tryd.pinned (OpenSpec.ofChange sumThreeSpec)

/-- ITS FALSE NEIGHBOUR: 'it returns false'. Refute it at one input. -/
def sumThreeWrong : ChangeSpec := { name := "sumThree", fn := fun _ => fun
  | [d1, d2, d3] => { results := [.lit (.bool false)], args := [d1, d2, d3] }
  | _ => none }
def SumThreeWrongFalsely : Prop := sumThreeRow.holds Tryd.pinned (OpenSpec.ofChange sumThreeWrong)

/-- 'batonlaw02.SumFar': WHATEVER THE INPUT: true; the input reads as it did. -/
def sumFarSpec : ChangeSpec := { name := "sumFar", fn := fun _ => fun
  | [d1, d2, d3, d4] => { results := [.lit (.bool true)], args := [d1, d2, d3, d4] }
  | _ => none }
def sumFarRow : OpenClaim := { program := "ytinbmoafdmccfaadoor", sum := "82ec5e99a6cf0ff385d07e9fa907f8b468f960e3660ae82ef4911e98b7acf4be", func := "baton/batonlaw02.SumFar", spec := "sumFar", unfollowed := true, recurses := true, named := ["baton/sum.nibbles"], apart := false, laid := [("baton/sum.nibbles", laid_baton_sum_nibbles)] }
def SumFarSaid : Prop := sumFarRow.holds Tryd.pinned (OpenSpec.ofChange sumFarSpec)

/-- ITS FALSE NEIGHBOUR: 'it returns false'. Refute it at one input. -/
def sumFarWrong : ChangeSpec := { name := "sumFar", fn := fun _ => fun
  | [d1, d2, d3, d4] => { results := [.lit (.bool false)], args := [d1, d2, d3, d4] }
  | _ => none }
def SumFarWrongFalsely : Prop := sumFarRow.holds Tryd.pinned (OpenSpec.ofChange sumFarWrong)

/-- 'batonlaw02.SumBurst': WHATEVER THE INPUT: true; the input reads as it did. -/
def sumBurstSpec : ChangeSpec := { name := "sumBurst", fn := fun _ => fun
  | [d1, d2, d3] => { results := [.lit (.bool true)], args := [d1, d2, d3] }
  | _ => none }
def sumBurstRow : OpenClaim := { program := "ytinbmoafdmccfaadoor", sum := "82ec5e99a6cf0ff385d07e9fa907f8b468f960e3660ae82ef4911e98b7acf4be", func := "baton/batonlaw02.SumBurst", spec := "sumBurst", unfollowed := true, recurses := true, named := ["baton/sum.nibbles"], apart := false, laid := [("baton/sum.nibbles", laid_baton_sum_nibbles)] }
def SumBurstSaid : Prop := sumBurstRow.holds Tryd.pinned (OpenSpec.ofChange sumBurstSpec)

/-- ITS FALSE NEIGHBOUR: 'it returns false'. Refute it at one input. -/
def sumBurstWrong : ChangeSpec := { name := "sumBurst", fn := fun _ => fun
  | [d1, d2, d3] => { results := [.lit (.bool false)], args := [d1, d2, d3] }
  | _ => none }
def SumBurstWrongFalsely : Prop := sumBurstRow.holds Tryd.pinned (OpenSpec.ofChange sumBurstWrong)

/-- 'batonlaw02.SumMasked': WHATEVER THE INPUT: true; the input reads as it did. -/
def sumMaskedSpec : ChangeSpec := { name := "sumMasked", fn := fun _ => fun
  | [d1, d2] => { results := [.lit (.bool true)], args := [d1, d2] }
  | _ => none }
def sumMaskedRow : OpenClaim := { program := "ytinbmoafdmccfaadoor", sum := "82ec5e99a6cf0ff385d07e9fa907f8b468f960e3660ae82ef4911e98b7acf4be", func := "baton/batonlaw02.SumMasked", spec := "sumMasked", unfollowed := true, recurses := true, named := ["baton/sum.nibbles"], apart := false, laid := [("baton/sum.nibbles", laid_baton_sum_nibbles)] }
def SumMaskedSaid : Prop := sumMaskedRow.holds Tryd.pinned (OpenSpec.ofChange sumMaskedSpec)

/-- ITS FALSE NEIGHBOUR: 'it returns false'. Refute it at one input. -/
def sumMaskedWrong : ChangeSpec := { name := "sumMasked", fn := fun _ => fun
  | [d1, d2] => { results := [.lit (.bool false)], args := [d1, d2] }
  | _ => none }
def SumMaskedWrongFalsely : Prop := sumMaskedRow.holds Tryd.pinned (OpenSpec.ofChange sumMaskedWrong)

/-- 'batonlaw02.SumTells': WHATEVER THE INPUT: true; the input reads as it did. -/
def sumTellsSpec : ChangeSpec := { name := "sumTells", fn := fun _ => fun
  | [d1, d2, d3, d4, d5] => { results := [.lit (.bool true)], args := [d1, d2, d3, d4, d5] }
  | _ => none }
def sumTellsRow : OpenClaim := { program := "ytinbmoafdmccfaadoor", sum := "82ec5e99a6cf0ff385d07e9fa907f8b468f960e3660ae82ef4911e98b7acf4be", func := "baton/batonlaw02.SumTells", spec := "sumTells", unfollowed := true, recurses := true, named := ["baton/sum.nibbles"], apart := false, laid := [("baton/sum.nibbles", laid_baton_sum_nibbles)] }
def SumTellsSaid : Prop := sumTellsRow.holds Tryd.pinned (OpenSpec.ofChange sumTellsSpec)

/-- ITS FALSE NEIGHBOUR: 'it returns false'. Refute it at one input. -/
def sumTellsWrong : ChangeSpec := { name := "sumTells", fn := fun _ => fun
  | [d1, d2, d3, d4, d5] => { results := [.lit (.bool false)], args := [d1, d2, d3, d4, d5] }
  | _ => none }
def SumTellsWrongFalsely : Prop := sumTellsRow.holds Tryd.pinned (OpenSpec.ofChange sumTellsWrong)

/-- 'batonlaw02.SumNames': WHATEVER THE INPUT: true; the input reads as it did. -/
def sumNamesSpec : ChangeSpec := { name := "sumNames", fn := fun _ => fun
  | [] => { results := [.lit (.bool true)], args := [] }
  | _ => none }
def sumNamesRow : OpenClaim := { program := "ytinbmoafdmccfaadoor", sum := "82ec5e99a6cf0ff385d07e9fa907f8b468f960e3660ae82ef4911e98b7acf4be", func := "baton/batonlaw02.SumNames", spec := "sumNames", unfollowed := true, recurses := true, named := ["baton/sum.nibbles"], apart := false, laid := [("baton/sum.nibbles", laid_baton_sum_nibbles)] }
def SumNamesSaid : Prop := sumNamesRow.holds Tryd.pinned (OpenSpec.ofChange sumNamesSpec)

/-- ITS FALSE NEIGHBOUR: 'it returns false'. Refute it at one input. -/
def sumNamesWrong : ChangeSpec := { name := "sumNames", fn := fun _ => fun
  | [] => { results := [.lit (.bool false)], args := [] }
  | _ => none }
def SumNamesWrongFalsely : Prop := sumNamesRow.holds Tryd.pinned (OpenSpec.ofChange sumNamesWrong)

/- THE SECOND FORM. 'bulk': how many values and letters a reading holds, each counted each time it is reached (what is shared counts as often as it is met; a slice's spare places count too). A statement '..UptoSaid' is the law's where the arguments, and the package variables that the reading takes, are together of bulk at most 1048576: NARROWER than '..Said'. Prove '..Said' where nothing that the law and all that it calls make is longer than what came in: it says more and counts as full. Else prove '..UptoSaid'. A law counts once. -/
mutual
def uptoBulk {H : Type} : DataW H → Nat
  | .lit (.string bytes) => bytes.length + 1
  | .lit _ => 1
  | .nil => 1
  | .ptr d => uptoBulk d + 1
  | .slice elems spare => uptoBulkAll elems + uptoBulkAll spare + 1
  | .agg parts => uptoBulkAll parts + 1
  | .iface _ d => uptoBulk d + 1
  | .map entries => uptoBulkEntries entries + 1
  | .held _ => 1
def uptoBulkAll {H : Type} : List (DataW H) → Nat
  | [] => 0
  | d :: r => uptoBulk d + uptoBulkAll r
def uptoBulkEntries {H : Type} : List (Lit × DataW H) → Nat
  | [] => 0
  | x :: r => uptoBulkEntry x + uptoBulkEntries r
def uptoBulkEntry {H : Type} : Lit × DataW H → Nat
  | (.string bytes, d) => bytes.length + uptoBulk d + 1
  | (_, d) => uptoBulk d + 1
 end
def uptoSmall : (H : Type) → List (DataW H) → Bool := fun _ ds => decide (uptoBulkAll ds ≤ 1048576)
def OpenSpec.upto (s : _root_.Go.ChangeSpec) : _root_.Go.OpenSpec := { _root_.Go.OpenSpec.ofChange s with cond := some uptoSmall }

/-- 'batonlaw02.SumJoined', WHERE WHAT IT READS IS OF BULK AT MOST 1048576: true; the input reads as it did. -/
def sumJoinedUptoRow : OpenClaim := { program := "ytinbmoafdmccfaadoor", sum := "82ec5e99a6cf0ff385d07e9fa907f8b468f960e3660ae82ef4911e98b7acf4be", func := "baton/batonlaw02.SumJoined", spec := "sumJoined", unfollowed := true, recurses := true, named := ["baton/sum.nibbles"], apart := false, laid := [("baton/sum.nibbles", laid_baton_sum_nibbles)], narrowed := true }
def SumJoinedUptoSaid : Prop := sumJoinedUptoRow.holds Tryd.pinned (OpenSpec.upto sumJoinedSpec)

/-- 'batonlaw02.SumThree', WHERE WHAT IT READS IS OF BULK AT MOST 1048576: true; the input reads as it did. -/
def sumThreeUptoRow : OpenClaim := { program := "ytinbmoafdmccfaadoor", sum := "82ec5e99a6cf0ff385d07e9fa907f8b468f960e3660ae82ef4911e98b7acf4be", func := "baton/batonlaw02.SumThree", spec := "sumThree", unfollowed := true, recurses := true, named := ["baton/sum.nibbles"], apart := false, laid := [("baton/sum.nibbles", laid_baton_sum_nibbles)], narrowed := true }
def SumThreeUptoSaid : Prop := sumThreeUptoRow.holds Tryd.pinned (OpenSpec.upto sumThreeSpec)

/-- 'batonlaw02.SumFar', WHERE WHAT IT READS IS OF BULK AT MOST 1048576: true; the input reads as it did. -/
def sumFarUptoRow : OpenClaim := { program := "ytinbmoafdmccfaadoor", sum := "82ec5e99a6cf0ff385d07e9fa907f8b468f960e3660ae82ef4911e98b7acf4be", func := "baton/batonlaw02.SumFar", spec := "sumFar", unfollowed := true, recurses := true, named := ["baton/sum.nibbles"], apart := false, laid := [("baton/sum.nibbles", laid_baton_sum_nibbles)], narrowed := true }
def SumFarUptoSaid : Prop := sumFarUptoRow.holds Tryd.pinned (OpenSpec.upto sumFarSpec)

/-- 'batonlaw02.SumBurst', WHERE WHAT IT READS IS OF BULK AT MOST 1048576: true; the input reads as it did. -/
def sumBurstUptoRow : OpenClaim := { program := "ytinbmoafdmccfaadoor", sum := "82ec5e99a6cf0ff385d07e9fa907f8b468f960e3660ae82ef4911e98b7acf4be", func := "baton/batonlaw02.SumBurst", spec := "sumBurst", unfollowed := true, recurses := true, named := ["baton/sum.nibbles"], apart := false, laid := [("baton/sum.nibbles", laid_baton_sum_nibbles)], narrowed := true }
def SumBurstUptoSaid : Prop := sumBurstUptoRow.holds Tryd.pinned (OpenSpec.upto sumBurstSpec)

/-- 'batonlaw02.SumMasked', WHERE WHAT IT READS IS OF BULK AT MOST 1048576: true; the input reads as it did. -/
def sumMaskedUptoRow : OpenClaim := { program := "ytinbmoafdmccfaadoor", sum := "82ec5e99a6cf0ff385d07e9fa907f8b468f960e3660ae82ef4911e98b7acf4be", func := "baton/batonlaw02.SumMasked", spec := "sumMasked", unfollowed := true, recurses := true, named := ["baton/sum.nibbles"], apart := false, laid := [("baton/sum.nibbles", laid_baton_sum_nibbles)], narrowed := true }
def SumMaskedUptoSaid : Prop := sumMaskedUptoRow.holds Tryd.pinned (OpenSpec.upto sumMaskedSpec)

/-- 'batonlaw02.SumTells', WHERE WHAT IT READS IS OF BULK AT MOST 1048576: true; the input reads as it did. -/
def sumTellsUptoRow : OpenClaim := { program := "ytinbmoafdmccfaadoor", sum := "82ec5e99a6cf0ff385d07e9fa907f8b468f960e3660ae82ef4911e98b7acf4be", func := "baton/batonlaw02.SumTells", spec := "sumTells", unfollowed := true, recurses := true, named := ["baton/sum.nibbles"], apart := false, laid := [("baton/sum.nibbles", laid_baton_sum_nibbles)], narrowed := true }
def SumTellsUptoSaid : Prop := sumTellsUptoRow.holds Tryd.pinned (OpenSpec.upto sumTellsSpec)

/-- 'batonlaw02.SumNames', WHERE WHAT IT READS IS OF BULK AT MOST 1048576: true; the input reads as it did. -/
def sumNamesUptoRow : OpenClaim := { program := "ytinbmoafdmccfaadoor", sum := "82ec5e99a6cf0ff385d07e9fa907f8b468f960e3660ae82ef4911e98b7acf4be", func := "baton/batonlaw02.SumNames", spec := "sumNames", unfollowed := true, recurses := true, named := ["baton/sum.nibbles"], apart := false, laid := [("baton/sum.nibbles", laid_baton_sum_nibbles)], narrowed := true }
def SumNamesUptoSaid : Prop := sumNamesUptoRow.holds Tryd.pinned (OpenSpec.upto sumNamesSpec)

end Rows
end Go.Proofs.YtinbmoafdmccfaaDoor
