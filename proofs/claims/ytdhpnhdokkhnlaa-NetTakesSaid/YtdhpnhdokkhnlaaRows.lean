/-
  No cell of these rows narrows 'for every input' (looked for: loops, veiled, ifaces, maps, wideKeys, modest, calm, conditions, laid).
  DERIVED. THE GIVEN ROWS OF THIS SEAT. 6 by the template 'for every input the law returns true; each argument reads behind the call as it read before'; 0 by the template 'total and deterministic' (their statements: YtdhpnhdokkhnlaaTotals.lean).
  GIVEN WITH THE SEED: the statements are not yours to turn. If you find one false, say at which input.
  Laid BY PROGRAM, IN A SANDBOX (cutbox-rows.mjs): the forced cells as the released guide's own fill.sh prints them over the translation 866a5a691fea025e… (all of the seat's roots in one cut). By AI agents, Wed Nov 11 2026. No macro, syntax, notation, axiom, sorry.
-/
import Derived.Test.YtdhpnhdokkhnlaaChecked
import GoSem.Claim
import GoSem.ClaimJoined
import GoSem.ClaimMapViews
import Derived.JoinedTies
import Derived.KernelRfl
namespace Go.Proofs.Ytdhpnhdokkhnlaa
/- THE CELL 'sum', in the pinned program and in every row, IS THE sha256 OF THE DUMP (.gsa) THAT YtdhpnhdokkhnlaaProg.lean LOADS. Nothing in Lean hashes anything: it is a label: what it is worth is what the hold of that sum in a sandbox is worth. -/
noncomputable def Try.pinned : Pinned := { name := "ytdhpnhdokkhnlaa", sum := "866a5a691fea025ede9698cf9ec92cbe301e2423dc644820e5cfbc551130172b", checked := Try.checked }
namespace Rows
def none {H : Type} : Left H := { results := [], args := [] }

/-- 'batonlaw17.NetTwins': WHATEVER THE INPUT: true; the input reads as it did. -/
def netTwinsSpec : ChangeSpec := { name := "netTwins", fn := fun _ => fun
  | [d1, d2, d3] => { results := [.lit (.bool true)], args := [d1, d2, d3] }
  | _ => none }
def netTwinsRow : OpenClaim := { program := "ytdhpnhdokkhnlaa", sum := "866a5a691fea025ede9698cf9ec92cbe301e2423dc644820e5cfbc551130172b", func := "baton/batonlaw17.NetTwins", spec := "netTwins", unfollowed := true, recurses := true, plainKeys := false, apart := false }
def NetTwinsSaid : Prop := netTwinsRow.holds Try.pinned (OpenSpec.ofChange netTwinsSpec)

/-- ITS FALSE NEIGHBOUR: 'it returns false'. Refute it at one input. -/
def netTwinsWrong : ChangeSpec := { name := "netTwins", fn := fun _ => fun
  | [d1, d2, d3] => { results := [.lit (.bool false)], args := [d1, d2, d3] }
  | _ => none }
def NetTwinsWrongFalsely : Prop := netTwinsRow.holds Try.pinned (OpenSpec.ofChange netTwinsWrong)

/-- 'batonlaw17.NetRises': WHATEVER THE INPUT: true; the input reads as it did. -/
def netRisesSpec : ChangeSpec := { name := "netRises", fn := fun _ => fun
  | [d1, d2] => { results := [.lit (.bool true)], args := [d1, d2] }
  | _ => none }
def netRisesRow : OpenClaim := { program := "ytdhpnhdokkhnlaa", sum := "866a5a691fea025ede9698cf9ec92cbe301e2423dc644820e5cfbc551130172b", func := "baton/batonlaw17.NetRises", spec := "netRises", unfollowed := true, recurses := true, plainKeys := false, apart := false }
def NetRisesSaid : Prop := netRisesRow.holds Try.pinned (OpenSpec.ofChange netRisesSpec)

/-- ITS FALSE NEIGHBOUR: 'it returns false'. Refute it at one input. -/
def netRisesWrong : ChangeSpec := { name := "netRises", fn := fun _ => fun
  | [d1, d2] => { results := [.lit (.bool false)], args := [d1, d2] }
  | _ => none }
def NetRisesWrongFalsely : Prop := netRisesRow.holds Try.pinned (OpenSpec.ofChange netRisesWrong)

/-- 'batonlaw17.NetPlace': WHATEVER THE INPUT: true; the input reads as it did. -/
def netPlaceSpec : ChangeSpec := { name := "netPlace", fn := fun _ => fun
  | [d1, d2, d3, d4] => { results := [.lit (.bool true)], args := [d1, d2, d3, d4] }
  | _ => none }
def netPlaceRow : OpenClaim := { program := "ytdhpnhdokkhnlaa", sum := "866a5a691fea025ede9698cf9ec92cbe301e2423dc644820e5cfbc551130172b", func := "baton/batonlaw17.NetPlace", spec := "netPlace", unfollowed := true, recurses := true, plainKeys := false, apart := false }
def NetPlaceSaid : Prop := netPlaceRow.holds Try.pinned (OpenSpec.ofChange netPlaceSpec)

/-- ITS FALSE NEIGHBOUR: 'it returns false'. Refute it at one input. -/
def netPlaceWrong : ChangeSpec := { name := "netPlace", fn := fun _ => fun
  | [d1, d2, d3, d4] => { results := [.lit (.bool false)], args := [d1, d2, d3, d4] }
  | _ => none }
def NetPlaceWrongFalsely : Prop := netPlaceRow.holds Try.pinned (OpenSpec.ofChange netPlaceWrong)

/-- 'batonlaw17.NetTakes': WHATEVER THE INPUT: true; the input reads as it did. -/
def netTakesSpec : ChangeSpec := { name := "netTakes", fn := fun _ => fun
  | [d1, d2] => { results := [.lit (.bool true)], args := [d1, d2] }
  | _ => none }
def netTakesRow : OpenClaim := { program := "ytdhpnhdokkhnlaa", sum := "866a5a691fea025ede9698cf9ec92cbe301e2423dc644820e5cfbc551130172b", func := "baton/batonlaw17.NetTakes", spec := "netTakes", unfollowed := true, recurses := true, plainKeys := false, apart := false }
def NetTakesSaid : Prop := netTakesRow.holds Try.pinned (OpenSpec.ofChange netTakesSpec)

/-- ITS FALSE NEIGHBOUR: 'it returns false'. Refute it at one input. -/
def netTakesWrong : ChangeSpec := { name := "netTakes", fn := fun _ => fun
  | [d1, d2] => { results := [.lit (.bool false)], args := [d1, d2] }
  | _ => none }
def NetTakesWrongFalsely : Prop := netTakesRow.holds Try.pinned (OpenSpec.ofChange netTakesWrong)

/-- 'batonlaw17.NetNames': WHATEVER THE INPUT: true; the input reads as it did. -/
def netNamesSpec : ChangeSpec := { name := "netNames", fn := fun _ => fun
  | [] => { results := [.lit (.bool true)], args := [] }
  | _ => none }
def netNamesRow : OpenClaim := { program := "ytdhpnhdokkhnlaa", sum := "866a5a691fea025ede9698cf9ec92cbe301e2423dc644820e5cfbc551130172b", func := "baton/batonlaw17.NetNames", spec := "netNames", unfollowed := true, recurses := true, plainKeys := false, apart := false }
def NetNamesSaid : Prop := netNamesRow.holds Try.pinned (OpenSpec.ofChange netNamesSpec)

/-- ITS FALSE NEIGHBOUR: 'it returns false'. Refute it at one input. -/
def netNamesWrong : ChangeSpec := { name := "netNames", fn := fun _ => fun
  | [] => { results := [.lit (.bool false)], args := [] }
  | _ => none }
def NetNamesWrongFalsely : Prop := netNamesRow.holds Try.pinned (OpenSpec.ofChange netNamesWrong)

/-- 'batonlaw17.NetDoes': WHATEVER THE INPUT: true; the input reads as it did. -/
def netDoesSpec : ChangeSpec := { name := "netDoes", fn := fun _ => fun
  | [d1, d2] => { results := [.lit (.bool true)], args := [d1, d2] }
  | _ => none }
def netDoesRow : OpenClaim := { program := "ytdhpnhdokkhnlaa", sum := "866a5a691fea025ede9698cf9ec92cbe301e2423dc644820e5cfbc551130172b", func := "baton/batonlaw17.NetDoes", spec := "netDoes", unfollowed := true, recurses := true, plainKeys := false, apart := false }
def NetDoesSaid : Prop := netDoesRow.holds Try.pinned (OpenSpec.ofChange netDoesSpec)

/-- ITS FALSE NEIGHBOUR: 'it returns false'. Refute it at one input. -/
def netDoesWrong : ChangeSpec := { name := "netDoes", fn := fun _ => fun
  | [d1, d2] => { results := [.lit (.bool false)], args := [d1, d2] }
  | _ => none }
def NetDoesWrongFalsely : Prop := netDoesRow.holds Try.pinned (OpenSpec.ofChange netDoesWrong)

/- THE SECOND FORM. 'bulk': how many values and letters a reading holds, each counted each time it is reached (what is shared counts as often as it is met; a slice's spare places count too). A statement '..UptoSaid' is the law's where the arguments, and the package variables that the reading takes, are together of bulk at most 1048576: NARROWER than '..Said'. Prove '..Said' where nothing that the law and all that it calls make is longer than what came in: it says more and counts as full. Else prove '..UptoSaid'. A law counts once. -/
mutual
def uptoBulk {H : Type} : DataW H → Nat
  | .lit (.string bytes) => bytes.length + 1
  | .lit _ => 1
  | .nil => 1
  | .ptr d => uptoBulk d + 1
  | .slice elems spare => uptoBulkAll elems + uptoBulkAll spare + 1
  | .agg parts => uptoBulkAll parts + 1
  | .iface _ d => uptoBulk d + 1
  | .map entries => uptoBulkEntries entries + 1
  | .held _ => 1
def uptoBulkAll {H : Type} : List (DataW H) → Nat
  | [] => 0
  | d :: r => uptoBulk d + uptoBulkAll r
def uptoBulkEntries {H : Type} : List (Lit × DataW H) → Nat
  | [] => 0
  | x :: r => uptoBulkEntry x + uptoBulkEntries r
def uptoBulkEntry {H : Type} : Lit × DataW H → Nat
  | (.string bytes, d) => bytes.length + uptoBulk d + 1
  | (_, d) => uptoBulk d + 1
 end
def uptoSmall : (H : Type) → List (DataW H) → Bool := fun _ ds => decide (uptoBulkAll ds ≤ 1048576)
def OpenSpec.upto (s : _root_.Go.ChangeSpec) : _root_.Go.OpenSpec := { _root_.Go.OpenSpec.ofChange s with cond := some uptoSmall }

/-- 'batonlaw17.NetTwins', WHERE WHAT IT READS IS OF BULK AT MOST 1048576: true; the input reads as it did. -/
def netTwinsUptoRow : OpenClaim := { program := "ytdhpnhdokkhnlaa", sum := "866a5a691fea025ede9698cf9ec92cbe301e2423dc644820e5cfbc551130172b", func := "baton/batonlaw17.NetTwins", spec := "netTwins", unfollowed := true, recurses := true, plainKeys := false, apart := false, narrowed := true }
def NetTwinsUptoSaid : Prop := netTwinsUptoRow.holds Try.pinned (OpenSpec.upto netTwinsSpec)

/-- 'batonlaw17.NetRises', WHERE WHAT IT READS IS OF BULK AT MOST 1048576: true; the input reads as it did. -/
def netRisesUptoRow : OpenClaim := { program := "ytdhpnhdokkhnlaa", sum := "866a5a691fea025ede9698cf9ec92cbe301e2423dc644820e5cfbc551130172b", func := "baton/batonlaw17.NetRises", spec := "netRises", unfollowed := true, recurses := true, plainKeys := false, apart := false, narrowed := true }
def NetRisesUptoSaid : Prop := netRisesUptoRow.holds Try.pinned (OpenSpec.upto netRisesSpec)

/-- 'batonlaw17.NetPlace', WHERE WHAT IT READS IS OF BULK AT MOST 1048576: true; the input reads as it did. -/
def netPlaceUptoRow : OpenClaim := { program := "ytdhpnhdokkhnlaa", sum := "866a5a691fea025ede9698cf9ec92cbe301e2423dc644820e5cfbc551130172b", func := "baton/batonlaw17.NetPlace", spec := "netPlace", unfollowed := true, recurses := true, plainKeys := false, apart := false, narrowed := true }
def NetPlaceUptoSaid : Prop := netPlaceUptoRow.holds Try.pinned (OpenSpec.upto netPlaceSpec)

/-- 'batonlaw17.NetTakes', WHERE WHAT IT READS IS OF BULK AT MOST 1048576: true; the input reads as it did. -/
def netTakesUptoRow : OpenClaim := { program := "ytdhpnhdokkhnlaa", sum := "866a5a691fea025ede9698cf9ec92cbe301e2423dc644820e5cfbc551130172b", func := "baton/batonlaw17.NetTakes", spec := "netTakes", unfollowed := true, recurses := true, plainKeys := false, apart := false, narrowed := true }
def NetTakesUptoSaid : Prop := netTakesUptoRow.holds Try.pinned (OpenSpec.upto netTakesSpec)

/-- 'batonlaw17.NetNames', WHERE WHAT IT READS IS OF BULK AT MOST 1048576: true; the input reads as it did. -/
def netNamesUptoRow : OpenClaim := { program := "ytdhpnhdokkhnlaa", sum := "866a5a691fea025ede9698cf9ec92cbe301e2423dc644820e5cfbc551130172b", func := "baton/batonlaw17.NetNames", spec := "netNames", unfollowed := true, recurses := true, plainKeys := false, apart := false, narrowed := true }
def NetNamesUptoSaid : Prop := netNamesUptoRow.holds Try.pinned (OpenSpec.upto netNamesSpec)

/-- 'batonlaw17.NetDoes', WHERE WHAT IT READS IS OF BULK AT MOST 1048576: true; the input reads as it did. -/
def netDoesUptoRow : OpenClaim := { program := "ytdhpnhdokkhnlaa", sum := "866a5a691fea025ede9698cf9ec92cbe301e2423dc644820e5cfbc551130172b", func := "baton/batonlaw17.NetDoes", spec := "netDoes", unfollowed := true, recurses := true, plainKeys := false, apart := false, narrowed := true }
def NetDoesUptoSaid : Prop := netDoesUptoRow.holds Try.pinned (OpenSpec.upto netDoesSpec)

end Rows
end Go.Proofs.Ytdhpnhdokkhnlaa
