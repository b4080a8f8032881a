/-
  NARROWER THAN 'FOR EVERY INPUT', by the rows' own cells (each row's printed sentence says how): VaultTorn: laid · VaultNames: laid · VaultAgain: laid · VaultTapes: laid · VaultKeeps: laid.
  DERIVED. THE GIVEN ROWS OF THIS SEAT. 5 by the template 'for every input the law returns true; each argument reads behind the call as it read before'; 0 by the template 'total and deterministic' (their statements: YtpfoekfbcpinlaaGreatDoorTotals.lean).
  GIVEN WITH THE SEED: the statements are not yours to turn. If you find one false, say at which input.
  Laid BY PROGRAM, IN A SANDBOX (cutbox-rows.mjs): the forced cells as the released guide's own fill.sh prints them over the translation 79eee64c26901738… (all of the seat's roots in one cut). By AI agents, Wed Nov 11 2026. No macro, syntax, notation, axiom, sorry.
-/
import Derived.Test.YtpfoekfbcpinlaaGreatDoorChecked
import GoSem.Claim
import GoSem.ClaimJoined
import GoSem.ClaimMapViews
import Derived.JoinedTies
import Derived.KernelRfl
namespace Go.Proofs.YtpfoekfbcpinlaaGreatDoor
/- THE CELL 'sum', in the pinned program and in every row, IS THE sha256 OF THE DUMP (.gsa) THAT YtpfoekfbcpinlaaGreatDoorProg.lean LOADS. Nothing in Lean hashes anything: it is a label: what it is worth is what the hold of that sum in a sandbox is worth. -/
noncomputable def Tryz.pinned : Pinned := { name := "ytpfoekfbcpinlaagreatdoor", sum := "79eee64c2690173876c9c4df0274f2ba77c6df49168fd47f0fb696d12075d72f", checked := Tryz.checked }
namespace Rows
def none {H : Type} : Left H := { results := [], args := [] }

/- WHAT THE LISTED PACKAGE-LEVEL VARIABLES READ AS WHEN THE CALL BEGINS. Each datum BY PROGRAM (the guide's laid-datum.mjs) off the statement by which the dump's own 'gosem.cut.vars' lays the variable. In a bare row this is a premise. The card (YtpfoekfbcpinlaaGreatDoorCards.lean) ties it to the program's text. -/
def laid_baton_sum_nibbles {H : Type} : DataW H := .agg [.lit (.int .u32 0), .lit (.int .u32 274646895), .lit (.int .u32 549293790), .lit (.int .u32 820201905), .lit (.int .u32 1098587580), .lit (.int .u32 1361435347), .lit (.int .u32 1640403810), .lit (.int .u32 1905808397), .lit (.int .u32 2197175160), .lit (.int .u32 2460548119), .lit (.int .u32 2722870694), .lit (.int .u32 2987750089), .lit (.int .u32 3280807620), .lit (.int .u32 3553878443), .lit (.int .u32 3811616794), .lit (.int .u32 4084100981)]

/-- 'batonlaw10.VaultTorn': WHATEVER THE INPUT: true; the input reads as it did. -/
def vaultTornSpec : ChangeSpec := { name := "vaultTorn", fn := fun _ => fun
  | [d1, d2] => { results := [.lit (.bool true)], args := [d1, d2] }
  | _ => none }
def vaultTornRow : OpenClaim := { program := "ytpfoekfbcpinlaagreatdoor", sum := "79eee64c2690173876c9c4df0274f2ba77c6df49168fd47f0fb696d12075d72f", func := "baton/batonlaw10.VaultTorn", spec := "vaultTorn", unfollowed := true, recurses := true, named := ["baton/sum.nibbles"], apart := false, laid := [("baton/sum.nibbles", laid_baton_sum_nibbles)] }
def VaultTornSaid : Prop := vaultTornRow.holds Tryz.pinned (OpenSpec.ofChange vaultTornSpec)

/-- ITS FALSE NEIGHBOUR: 'it returns false'. Refute it at one input. -/
def vaultTornWrong : ChangeSpec := { name := "vaultTorn", fn := fun _ => fun
  | [d1, d2] => { results := [.lit (.bool false)], args := [d1, d2] }
  | _ => none }
def VaultTornWrongFalsely : Prop := vaultTornRow.holds Tryz.pinned (OpenSpec.ofChange vaultTornWrong)

/-- 'batonlaw10.VaultNames': WHATEVER THE INPUT: true; the input reads as it did. -/
def vaultNamesSpec : ChangeSpec := { name := "vaultNames", fn := fun _ => fun
  | [] => { results := [.lit (.bool true)], args := [] }
  | _ => none }
def vaultNamesRow : OpenClaim := { program := "ytpfoekfbcpinlaagreatdoor", sum := "79eee64c2690173876c9c4df0274f2ba77c6df49168fd47f0fb696d12075d72f", func := "baton/batonlaw10.VaultNames", spec := "vaultNames", unfollowed := true, recurses := true, named := ["baton/sum.nibbles"], apart := false, laid := [("baton/sum.nibbles", laid_baton_sum_nibbles)] }
def VaultNamesSaid : Prop := vaultNamesRow.holds Tryz.pinned (OpenSpec.ofChange vaultNamesSpec)

/-- ITS FALSE NEIGHBOUR: 'it returns false'. Refute it at one input. -/
def vaultNamesWrong : ChangeSpec := { name := "vaultNames", fn := fun _ => fun
  | [] => { results := [.lit (.bool false)], args := [] }
  | _ => none }
def VaultNamesWrongFalsely : Prop := vaultNamesRow.holds Tryz.pinned (OpenSpec.ofChange vaultNamesWrong)

/-- 'batonlaw10.VaultAgain': WHATEVER THE INPUT: true; the input reads as it did. -/
def vaultAgainSpec : ChangeSpec := { name := "vaultAgain", fn := fun _ => fun
  | [d1, d2, d3, d4] => { results := [.lit (.bool true)], args := [d1, d2, d3, d4] }
  | _ => none }
def vaultAgainRow : OpenClaim := { program := "ytpfoekfbcpinlaagreatdoor", sum := "79eee64c2690173876c9c4df0274f2ba77c6df49168fd47f0fb696d12075d72f", func := "baton/batonlaw10.VaultAgain", spec := "vaultAgain", unfollowed := true, recurses := true, named := ["baton/sum.nibbles"], apart := false, laid := [("baton/sum.nibbles", laid_baton_sum_nibbles)] }
def VaultAgainSaid : Prop := vaultAgainRow.holds Tryz.pinned (OpenSpec.ofChange vaultAgainSpec)

/-- ITS FALSE NEIGHBOUR: 'it returns false'. Refute it at one input. -/
def vaultAgainWrong : ChangeSpec := { name := "vaultAgain", fn := fun _ => fun
  | [d1, d2, d3, d4] => { results := [.lit (.bool false)], args := [d1, d2, d3, d4] }
  | _ => none }
def VaultAgainWrongFalsely : Prop := vaultAgainRow.holds Tryz.pinned (OpenSpec.ofChange vaultAgainWrong)

/-- 'batonlaw10.VaultTapes': WHATEVER THE INPUT: true; the input reads as it did. -/
def vaultTapesSpec : ChangeSpec := { name := "vaultTapes", fn := fun _ => fun
  | [d1, d2, d3] => { results := [.lit (.bool true)], args := [d1, d2, d3] }
  | _ => none }
def vaultTapesRow : OpenClaim := { program := "ytpfoekfbcpinlaagreatdoor", sum := "79eee64c2690173876c9c4df0274f2ba77c6df49168fd47f0fb696d12075d72f", func := "baton/batonlaw10.VaultTapes", spec := "vaultTapes", unfollowed := true, recurses := true, named := ["baton/sum.nibbles"], apart := false, laid := [("baton/sum.nibbles", laid_baton_sum_nibbles)] }
def VaultTapesSaid : Prop := vaultTapesRow.holds Tryz.pinned (OpenSpec.ofChange vaultTapesSpec)

/-- ITS FALSE NEIGHBOUR: 'it returns false'. Refute it at one input. -/
def vaultTapesWrong : ChangeSpec := { name := "vaultTapes", fn := fun _ => fun
  | [d1, d2, d3] => { results := [.lit (.bool false)], args := [d1, d2, d3] }
  | _ => none }
def VaultTapesWrongFalsely : Prop := vaultTapesRow.holds Tryz.pinned (OpenSpec.ofChange vaultTapesWrong)

/-- 'batonlaw10.VaultKeeps': WHATEVER THE INPUT: true; the input reads as it did. -/
def vaultKeepsSpec : ChangeSpec := { name := "vaultKeeps", fn := fun _ => fun
  | [d1, d2, d3] => { results := [.lit (.bool true)], args := [d1, d2, d3] }
  | _ => none }
def vaultKeepsRow : OpenClaim := { program := "ytpfoekfbcpinlaagreatdoor", sum := "79eee64c2690173876c9c4df0274f2ba77c6df49168fd47f0fb696d12075d72f", func := "baton/batonlaw10.VaultKeeps", spec := "vaultKeeps", unfollowed := true, recurses := true, named := ["baton/sum.nibbles"], apart := false, laid := [("baton/sum.nibbles", laid_baton_sum_nibbles)] }
def VaultKeepsSaid : Prop := vaultKeepsRow.holds Tryz.pinned (OpenSpec.ofChange vaultKeepsSpec)

/-- ITS FALSE NEIGHBOUR: 'it returns false'. Refute it at one input. -/
def vaultKeepsWrong : ChangeSpec := { name := "vaultKeeps", fn := fun _ => fun
  | [d1, d2, d3] => { results := [.lit (.bool false)], args := [d1, d2, d3] }
  | _ => none }
def VaultKeepsWrongFalsely : Prop := vaultKeepsRow.holds Tryz.pinned (OpenSpec.ofChange vaultKeepsWrong)

/- THE SECOND FORM. 'bulk': how many values and letters a reading holds, each counted each time it is reached (what is shared counts as often as it is met; a slice's spare places count too). A statement '..UptoSaid' is the law's where the arguments, and the package variables that the reading takes, are together of bulk at most 1048576: NARROWER than '..Said'. Prove '..Said' where nothing that the law and all that it calls make is longer than what came in: it says more and counts as full. Else prove '..UptoSaid'. A law counts once. -/
mutual
def uptoBulk {H : Type} : DataW H → Nat
  | .lit (.string bytes) => bytes.length + 1
  | .lit _ => 1
  | .nil => 1
  | .ptr d => uptoBulk d + 1
  | .slice elems spare => uptoBulkAll elems + uptoBulkAll spare + 1
  | .agg parts => uptoBulkAll parts + 1
  | .iface _ d => uptoBulk d + 1
  | .map entries => uptoBulkEntries entries + 1
  | .held _ => 1
def uptoBulkAll {H : Type} : List (DataW H) → Nat
  | [] => 0
  | d :: r => uptoBulk d + uptoBulkAll r
def uptoBulkEntries {H : Type} : List (Lit × DataW H) → Nat
  | [] => 0
  | x :: r => uptoBulkEntry x + uptoBulkEntries r
def uptoBulkEntry {H : Type} : Lit × DataW H → Nat
  | (.string bytes, d) => bytes.length + uptoBulk d + 1
  | (_, d) => uptoBulk d + 1
 end
def uptoSmall : (H : Type) → List (DataW H) → Bool := fun _ ds => decide (uptoBulkAll ds ≤ 1048576)
def OpenSpec.upto (s : _root_.Go.ChangeSpec) : _root_.Go.OpenSpec := { _root_.Go.OpenSpec.ofChange s with cond := some uptoSmall }

/-- 'batonlaw10.VaultTorn', WHERE WHAT IT READS IS OF BULK AT MOST 1048576: true; the input reads as it did. -/
def vaultTornUptoRow : OpenClaim := { program := "ytpfoekfbcpinlaagreatdoor", sum := "79eee64c2690173876c9c4df0274f2ba77c6df49168fd47f0fb696d12075d72f", func := "baton/batonlaw10.VaultTorn", spec := "vaultTorn", unfollowed := true, recurses := true, named := ["baton/sum.nibbles"], apart := false, laid := [("baton/sum.nibbles", laid_baton_sum_nibbles)], narrowed := true }
def VaultTornUptoSaid : Prop := vaultTornUptoRow.holds Tryz.pinned (OpenSpec.upto vaultTornSpec)

/-- 'batonlaw10.VaultNames', WHERE WHAT IT READS IS OF BULK AT MOST 1048576: true; the input reads as it did. -/
def vaultNamesUptoRow : OpenClaim := { program := "ytpfoekfbcpinlaagreatdoor", sum := "79eee64c2690173876c9c4df0274f2ba77c6df49168fd47f0fb696d12075d72f", func := "baton/batonlaw10.VaultNames", spec := "vaultNames", unfollowed := true, recurses := true, named := ["baton/sum.nibbles"], apart := false, laid := [("baton/sum.nibbles", laid_baton_sum_nibbles)], narrowed := true }
def VaultNamesUptoSaid : Prop := vaultNamesUptoRow.holds Tryz.pinned (OpenSpec.upto vaultNamesSpec)

/-- 'batonlaw10.VaultAgain', WHERE WHAT IT READS IS OF BULK AT MOST 1048576: true; the input reads as it did. -/
def vaultAgainUptoRow : OpenClaim := { program := "ytpfoekfbcpinlaagreatdoor", sum := "79eee64c2690173876c9c4df0274f2ba77c6df49168fd47f0fb696d12075d72f", func := "baton/batonlaw10.VaultAgain", spec := "vaultAgain", unfollowed := true, recurses := true, named := ["baton/sum.nibbles"], apart := false, laid := [("baton/sum.nibbles", laid_baton_sum_nibbles)], narrowed := true }
def VaultAgainUptoSaid : Prop := vaultAgainUptoRow.holds Tryz.pinned (OpenSpec.upto vaultAgainSpec)

/-- 'batonlaw10.VaultTapes', WHERE WHAT IT READS IS OF BULK AT MOST 1048576: true; the input reads as it did. -/
def vaultTapesUptoRow : OpenClaim := { program := "ytpfoekfbcpinlaagreatdoor", sum := "79eee64c2690173876c9c4df0274f2ba77c6df49168fd47f0fb696d12075d72f", func := "baton/batonlaw10.VaultTapes", spec := "vaultTapes", unfollowed := true, recurses := true, named := ["baton/sum.nibbles"], apart := false, laid := [("baton/sum.nibbles", laid_baton_sum_nibbles)], narrowed := true }
def VaultTapesUptoSaid : Prop := vaultTapesUptoRow.holds Tryz.pinned (OpenSpec.upto vaultTapesSpec)

/-- 'batonlaw10.VaultKeeps', WHERE WHAT IT READS IS OF BULK AT MOST 1048576: true; the input reads as it did. -/
def vaultKeepsUptoRow : OpenClaim := { program := "ytpfoekfbcpinlaagreatdoor", sum := "79eee64c2690173876c9c4df0274f2ba77c6df49168fd47f0fb696d12075d72f", func := "baton/batonlaw10.VaultKeeps", spec := "vaultKeeps", unfollowed := true, recurses := true, named := ["baton/sum.nibbles"], apart := false, laid := [("baton/sum.nibbles", laid_baton_sum_nibbles)], narrowed := true }
def VaultKeepsUptoSaid : Prop := vaultKeepsUptoRow.holds Tryz.pinned (OpenSpec.upto vaultKeepsSpec)

end Rows
end Go.Proofs.YtpfoekfbcpinlaaGreatDoor
