/-
  No cell of these rows narrows 'for every input' (looked for: loops, veiled, ifaces, maps, wideKeys, modest, calm, conditions, laid).
  DERIVED. THE GIVEN ROWS OF THIS SEAT. 9 by the template 'for every input the law returns true; each argument reads behind the call as it read before'; 0 by the template 'total and deterministic' (their statements: YtmfigoffkopohaaTotals.lean).
  GIVEN WITH THE SEED: the statements are not yours to turn. If you find one false, say at which input.
  Laid BY PROGRAM, IN A SANDBOX (cutbox-rows.mjs): the forced cells as the released guide's own fill.sh prints them over the translation 9e00bd3b661f91d5… (all of the seat's roots in one cut). By AI agents, Wed Nov 11 2026. No macro, syntax, notation, axiom, sorry.
-/
import Derived.Test.YtmfigoffkopohaaChecked
import GoSem.Claim
import GoSem.ClaimJoined
import GoSem.ClaimMapViews
import Derived.JoinedTies
import Derived.KernelRfl
namespace Go.Proofs.Ytmfigoffkopohaa
/- THE CELL 'sum', in the pinned program and in every row, IS THE sha256 OF THE DUMP (.gsa) THAT YtmfigoffkopohaaProg.lean LOADS. Nothing in Lean hashes anything: it is a label: what it is worth is what the hold of that sum in a sandbox is worth. -/
noncomputable def Try.pinned : Pinned := { name := "ytmfigoffkopohaa", sum := "9e00bd3b661f91d5699a736ff6250cb81446affd840a70379400af69ea190a72", checked := Try.checked }
namespace Rows
def none {H : Type} : Left H := { results := [], args := [] }

/-- 'batonlaw01.BitsLeast': WHATEVER THE INPUT: true; the input reads as it did. -/
def bitsLeastSpec : ChangeSpec := { name := "bitsLeast", fn := fun _ => fun
  | [d1, d2] => { results := [.lit (.bool true)], args := [d1, d2] }
  | _ => none }
def bitsLeastRow : OpenClaim := { program := "ytmfigoffkopohaa", sum := "9e00bd3b661f91d5699a736ff6250cb81446affd840a70379400af69ea190a72", func := "baton/batonlaw01.BitsLeast", spec := "bitsLeast", apart := false }
def BitsLeastSaid : Prop := bitsLeastRow.holds Try.pinned (OpenSpec.ofChange bitsLeastSpec)

/-- ITS FALSE NEIGHBOUR: 'it returns false'. Refute it at one input. -/
def bitsLeastWrong : ChangeSpec := { name := "bitsLeast", fn := fun _ => fun
  | [d1, d2] => { results := [.lit (.bool false)], args := [d1, d2] }
  | _ => none }
def BitsLeastWrongFalsely : Prop := bitsLeastRow.holds Try.pinned (OpenSpec.ofChange bitsLeastWrong)

/-- 'batonlaw01.BitsLonger': WHATEVER THE INPUT: true; the input reads as it did. -/
def bitsLongerSpec : ChangeSpec := { name := "bitsLonger", fn := fun _ => fun
  | [d1, d2] => { results := [.lit (.bool true)], args := [d1, d2] }
  | _ => none }
def bitsLongerRow : OpenClaim := { program := "ytmfigoffkopohaa", sum := "9e00bd3b661f91d5699a736ff6250cb81446affd840a70379400af69ea190a72", func := "baton/batonlaw01.BitsLonger", spec := "bitsLonger", apart := false }
def BitsLongerSaid : Prop := bitsLongerRow.holds Try.pinned (OpenSpec.ofChange bitsLongerSpec)

/-- ITS FALSE NEIGHBOUR: 'it returns false'. Refute it at one input. -/
def bitsLongerWrong : ChangeSpec := { name := "bitsLonger", fn := fun _ => fun
  | [d1, d2] => { results := [.lit (.bool false)], args := [d1, d2] }
  | _ => none }
def BitsLongerWrongFalsely : Prop := bitsLongerRow.holds Try.pinned (OpenSpec.ofChange bitsLongerWrong)

/-- 'batonlaw01.BitsZig': WHATEVER THE INPUT: true; the input reads as it did. -/
def bitsZigSpec : ChangeSpec := { name := "bitsZig", fn := fun _ => fun
  | [d1, d2, d3] => { results := [.lit (.bool true)], args := [d1, d2, d3] }
  | _ => none }
def bitsZigRow : OpenClaim := { program := "ytmfigoffkopohaa", sum := "9e00bd3b661f91d5699a736ff6250cb81446affd840a70379400af69ea190a72", func := "baton/batonlaw01.BitsZig", spec := "bitsZig", apart := false }
def BitsZigSaid : Prop := bitsZigRow.holds Try.pinned (OpenSpec.ofChange bitsZigSpec)

/-- ITS FALSE NEIGHBOUR: 'it returns false'. Refute it at one input. -/
def bitsZigWrong : ChangeSpec := { name := "bitsZig", fn := fun _ => fun
  | [d1, d2, d3] => { results := [.lit (.bool false)], args := [d1, d2, d3] }
  | _ => none }
def BitsZigWrongFalsely : Prop := bitsZigRow.holds Try.pinned (OpenSpec.ofChange bitsZigWrong)

/-- 'batonlaw01.BitsPuts': WHATEVER THE INPUT: true; the input reads as it did. -/
def bitsPutsSpec : ChangeSpec := { name := "bitsPuts", fn := fun _ => fun
  | [d1, d2, d3, d4, d5] => { results := [.lit (.bool true)], args := [d1, d2, d3, d4, d5] }
  | _ => none }
def bitsPutsRow : OpenClaim := { program := "ytmfigoffkopohaa", sum := "9e00bd3b661f91d5699a736ff6250cb81446affd840a70379400af69ea190a72", func := "baton/batonlaw01.BitsPuts", spec := "bitsPuts", recurses := true, apart := false }
def BitsPutsSaid : Prop := bitsPutsRow.holds Try.pinned (OpenSpec.ofChange bitsPutsSpec)

/-- ITS FALSE NEIGHBOUR: 'it returns false'. Refute it at one input. -/
def bitsPutsWrong : ChangeSpec := { name := "bitsPuts", fn := fun _ => fun
  | [d1, d2, d3, d4, d5] => { results := [.lit (.bool false)], args := [d1, d2, d3, d4, d5] }
  | _ => none }
def BitsPutsWrongFalsely : Prop := bitsPutsRow.holds Try.pinned (OpenSpec.ofChange bitsPutsWrong)

/-- 'batonlaw01.BitsReads': WHATEVER THE INPUT: true; the input reads as it did. -/
def bitsReadsSpec : ChangeSpec := { name := "bitsReads", fn := fun _ => fun
  | [d1, d2, d3] => { results := [.lit (.bool true)], args := [d1, d2, d3] }
  | _ => none }
def bitsReadsRow : OpenClaim := { program := "ytmfigoffkopohaa", sum := "9e00bd3b661f91d5699a736ff6250cb81446affd840a70379400af69ea190a72", func := "baton/batonlaw01.BitsReads", spec := "bitsReads", apart := false }
def BitsReadsSaid : Prop := bitsReadsRow.holds Try.pinned (OpenSpec.ofChange bitsReadsSpec)

/-- ITS FALSE NEIGHBOUR: 'it returns false'. Refute it at one input. -/
def bitsReadsWrong : ChangeSpec := { name := "bitsReads", fn := fun _ => fun
  | [d1, d2, d3] => { results := [.lit (.bool false)], args := [d1, d2, d3] }
  | _ => none }
def BitsReadsWrongFalsely : Prop := bitsReadsRow.holds Try.pinned (OpenSpec.ofChange bitsReadsWrong)

/-- 'batonlaw01.BitsBack': WHATEVER THE INPUT: true; the input reads as it did. -/
def bitsBackSpec : ChangeSpec := { name := "bitsBack", fn := fun _ => fun
  | [d1, d2] => { results := [.lit (.bool true)], args := [d1, d2] }
  | _ => none }
def bitsBackRow : OpenClaim := { program := "ytmfigoffkopohaa", sum := "9e00bd3b661f91d5699a736ff6250cb81446affd840a70379400af69ea190a72", func := "baton/batonlaw01.BitsBack", spec := "bitsBack", apart := false }
def BitsBackSaid : Prop := bitsBackRow.holds Try.pinned (OpenSpec.ofChange bitsBackSpec)

/-- ITS FALSE NEIGHBOUR: 'it returns false'. Refute it at one input. -/
def bitsBackWrong : ChangeSpec := { name := "bitsBack", fn := fun _ => fun
  | [d1, d2] => { results := [.lit (.bool false)], args := [d1, d2] }
  | _ => none }
def BitsBackWrongFalsely : Prop := bitsBackRow.holds Try.pinned (OpenSpec.ofChange bitsBackWrong)

/-- 'batonlaw01.BitsNames': WHATEVER THE INPUT: true; the input reads as it did. -/
def bitsNamesSpec : ChangeSpec := { name := "bitsNames", fn := fun _ => fun
  | [] => { results := [.lit (.bool true)], args := [] }
  | _ => none }
def bitsNamesRow : OpenClaim := { program := "ytmfigoffkopohaa", sum := "9e00bd3b661f91d5699a736ff6250cb81446affd840a70379400af69ea190a72", func := "baton/batonlaw01.BitsNames", spec := "bitsNames", apart := false }
def BitsNamesSaid : Prop := bitsNamesRow.holds Try.pinned (OpenSpec.ofChange bitsNamesSpec)

/-- ITS FALSE NEIGHBOUR: 'it returns false'. Refute it at one input. -/
def bitsNamesWrong : ChangeSpec := { name := "bitsNames", fn := fun _ => fun
  | [] => { results := [.lit (.bool false)], args := [] }
  | _ => none }
def BitsNamesWrongFalsely : Prop := bitsNamesRow.holds Try.pinned (OpenSpec.ofChange bitsNamesWrong)

/-- 'batonlaw01.BitsAsks': WHATEVER THE INPUT: true; the input reads as it did. -/
def bitsAsksSpec : ChangeSpec := { name := "bitsAsks", fn := fun _ => fun
  | [d1, d2] => { results := [.lit (.bool true)], args := [d1, d2] }
  | _ => none }
def bitsAsksRow : OpenClaim := { program := "ytmfigoffkopohaa", sum := "9e00bd3b661f91d5699a736ff6250cb81446affd840a70379400af69ea190a72", func := "baton/batonlaw01.BitsAsks", spec := "bitsAsks", apart := false }
def BitsAsksSaid : Prop := bitsAsksRow.holds Try.pinned (OpenSpec.ofChange bitsAsksSpec)

/-- ITS FALSE NEIGHBOUR: 'it returns false'. Refute it at one input. -/
def bitsAsksWrong : ChangeSpec := { name := "bitsAsks", fn := fun _ => fun
  | [d1, d2] => { results := [.lit (.bool false)], args := [d1, d2] }
  | _ => none }
def BitsAsksWrongFalsely : Prop := bitsAsksRow.holds Try.pinned (OpenSpec.ofChange bitsAsksWrong)

/-- 'batonlaw01.BitsSticks': WHATEVER THE INPUT: true; the input reads as it did. -/
def bitsSticksSpec : ChangeSpec := { name := "bitsSticks", fn := fun _ => fun
  | [d1, d2] => { results := [.lit (.bool true)], args := [d1, d2] }
  | _ => none }
def bitsSticksRow : OpenClaim := { program := "ytmfigoffkopohaa", sum := "9e00bd3b661f91d5699a736ff6250cb81446affd840a70379400af69ea190a72", func := "baton/batonlaw01.BitsSticks", spec := "bitsSticks", apart := false }
def BitsSticksSaid : Prop := bitsSticksRow.holds Try.pinned (OpenSpec.ofChange bitsSticksSpec)

/-- ITS FALSE NEIGHBOUR: 'it returns false'. Refute it at one input. -/
def bitsSticksWrong : ChangeSpec := { name := "bitsSticks", fn := fun _ => fun
  | [d1, d2] => { results := [.lit (.bool false)], args := [d1, d2] }
  | _ => none }
def BitsSticksWrongFalsely : Prop := bitsSticksRow.holds Try.pinned (OpenSpec.ofChange bitsSticksWrong)

/- THE SECOND FORM. 'bulk': how many values and letters a reading holds, each counted each time it is reached (what is shared counts as often as it is met; a slice's spare places count too). A statement '..UptoSaid' is the law's where the arguments, and the package variables that the reading takes, are together of bulk at most 1048576: NARROWER than '..Said'. Prove '..Said' where nothing that the law and all that it calls make is longer than what came in: it says more and counts as full. Else prove '..UptoSaid'. A law counts once. -/
mutual
def uptoBulk {H : Type} : DataW H → Nat
  | .lit (.string bytes) => bytes.length + 1
  | .lit _ => 1
  | .nil => 1
  | .ptr d => uptoBulk d + 1
  | .slice elems spare => uptoBulkAll elems + uptoBulkAll spare + 1
  | .agg parts => uptoBulkAll parts + 1
  | .iface _ d => uptoBulk d + 1
  | .map entries => uptoBulkEntries entries + 1
  | .held _ => 1
def uptoBulkAll {H : Type} : List (DataW H) → Nat
  | [] => 0
  | d :: r => uptoBulk d + uptoBulkAll r
def uptoBulkEntries {H : Type} : List (Lit × DataW H) → Nat
  | [] => 0
  | x :: r => uptoBulkEntry x + uptoBulkEntries r
def uptoBulkEntry {H : Type} : Lit × DataW H → Nat
  | (.string bytes, d) => bytes.length + uptoBulk d + 1
  | (_, d) => uptoBulk d + 1
 end
def uptoSmall : (H : Type) → List (DataW H) → Bool := fun _ ds => decide (uptoBulkAll ds ≤ 1048576)
def OpenSpec.upto (s : _root_.Go.ChangeSpec) : _root_.Go.OpenSpec := { _root_.Go.OpenSpec.ofChange s with cond := some uptoSmall }

/-- 'batonlaw01.BitsLeast', WHERE WHAT IT READS IS OF BULK AT MOST 1048576: true; the input reads as it did. -/
def bitsLeastUptoRow : OpenClaim := { program := "ytmfigoffkopohaa", sum := "9e00bd3b661f91d5699a736ff6250cb81446affd840a70379400af69ea190a72", func := "baton/batonlaw01.BitsLeast", spec := "bitsLeast", apart := false, narrowed := true }
def BitsLeastUptoSaid : Prop := bitsLeastUptoRow.holds Try.pinned (OpenSpec.upto bitsLeastSpec)

/-- 'batonlaw01.BitsLonger', WHERE WHAT IT READS IS OF BULK AT MOST 1048576: true; the input reads as it did. -/
def bitsLongerUptoRow : OpenClaim := { program := "ytmfigoffkopohaa", sum := "9e00bd3b661f91d5699a736ff6250cb81446affd840a70379400af69ea190a72", func := "baton/batonlaw01.BitsLonger", spec := "bitsLonger", apart := false, narrowed := true }
def BitsLongerUptoSaid : Prop := bitsLongerUptoRow.holds Try.pinned (OpenSpec.upto bitsLongerSpec)

/-- 'batonlaw01.BitsZig', WHERE WHAT IT READS IS OF BULK AT MOST 1048576: true; the input reads as it did. -/
def bitsZigUptoRow : OpenClaim := { program := "ytmfigoffkopohaa", sum := "9e00bd3b661f91d5699a736ff6250cb81446affd840a70379400af69ea190a72", func := "baton/batonlaw01.BitsZig", spec := "bitsZig", apart := false, narrowed := true }
def BitsZigUptoSaid : Prop := bitsZigUptoRow.holds Try.pinned (OpenSpec.upto bitsZigSpec)

/-- 'batonlaw01.BitsPuts', WHERE WHAT IT READS IS OF BULK AT MOST 1048576: true; the input reads as it did. -/
def bitsPutsUptoRow : OpenClaim := { program := "ytmfigoffkopohaa", sum := "9e00bd3b661f91d5699a736ff6250cb81446affd840a70379400af69ea190a72", func := "baton/batonlaw01.BitsPuts", spec := "bitsPuts", recurses := true, apart := false, narrowed := true }
def BitsPutsUptoSaid : Prop := bitsPutsUptoRow.holds Try.pinned (OpenSpec.upto bitsPutsSpec)

/-- 'batonlaw01.BitsReads', WHERE WHAT IT READS IS OF BULK AT MOST 1048576: true; the input reads as it did. -/
def bitsReadsUptoRow : OpenClaim := { program := "ytmfigoffkopohaa", sum := "9e00bd3b661f91d5699a736ff6250cb81446affd840a70379400af69ea190a72", func := "baton/batonlaw01.BitsReads", spec := "bitsReads", apart := false, narrowed := true }
def BitsReadsUptoSaid : Prop := bitsReadsUptoRow.holds Try.pinned (OpenSpec.upto bitsReadsSpec)

/-- 'batonlaw01.BitsBack', WHERE WHAT IT READS IS OF BULK AT MOST 1048576: true; the input reads as it did. -/
def bitsBackUptoRow : OpenClaim := { program := "ytmfigoffkopohaa", sum := "9e00bd3b661f91d5699a736ff6250cb81446affd840a70379400af69ea190a72", func := "baton/batonlaw01.BitsBack", spec := "bitsBack", apart := false, narrowed := true }
def BitsBackUptoSaid : Prop := bitsBackUptoRow.holds Try.pinned (OpenSpec.upto bitsBackSpec)

/-- 'batonlaw01.BitsNames', WHERE WHAT IT READS IS OF BULK AT MOST 1048576: true; the input reads as it did. -/
def bitsNamesUptoRow : OpenClaim := { program := "ytmfigoffkopohaa", sum := "9e00bd3b661f91d5699a736ff6250cb81446affd840a70379400af69ea190a72", func := "baton/batonlaw01.BitsNames", spec := "bitsNames", apart := false, narrowed := true }
def BitsNamesUptoSaid : Prop := bitsNamesUptoRow.holds Try.pinned (OpenSpec.upto bitsNamesSpec)

/-- 'batonlaw01.BitsAsks', WHERE WHAT IT READS IS OF BULK AT MOST 1048576: true; the input reads as it did. -/
def bitsAsksUptoRow : OpenClaim := { program := "ytmfigoffkopohaa", sum := "9e00bd3b661f91d5699a736ff6250cb81446affd840a70379400af69ea190a72", func := "baton/batonlaw01.BitsAsks", spec := "bitsAsks", apart := false, narrowed := true }
def BitsAsksUptoSaid : Prop := bitsAsksUptoRow.holds Try.pinned (OpenSpec.upto bitsAsksSpec)

/-- 'batonlaw01.BitsSticks', WHERE WHAT IT READS IS OF BULK AT MOST 1048576: true; the input reads as it did. -/
def bitsSticksUptoRow : OpenClaim := { program := "ytmfigoffkopohaa", sum := "9e00bd3b661f91d5699a736ff6250cb81446affd840a70379400af69ea190a72", func := "baton/batonlaw01.BitsSticks", spec := "bitsSticks", apart := false, narrowed := true }
def BitsSticksUptoSaid : Prop := bitsSticksUptoRow.holds Try.pinned (OpenSpec.upto bitsSticksSpec)

end Rows
end Go.Proofs.Ytmfigoffkopohaa
