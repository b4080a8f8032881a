/- The walks of package bits, part 8: Reader's Text, End, New. -/
import Derived.Test.YtdclfffjiokenaaDoorReaderFour
namespace Go.Proofs.YtdclfffjiokenaaDoor
open Go.RowKit
set_option linter.unusedVariables false

theorem New_any (s : ByteArray) (w : World) :
    Calls Tryd.prog 28 #[.string s] w fun r w' => r = .returned (.pointer (some ⟨w.heap.size, 0, none⟩)) ∧ Rd w' w.heap.size s 0 0 ∧ Below w.heap.size w w' := by
  go_enter Tryd.func28, Tryd.ntmps28
  go_wp2
  go_ret
  refine ⟨rfl, ?_, ?_⟩
  · show (w.heap.push _)[w.heap.size]? = _
    simp
  · exact (Below.refl _ _).alloc (Nat.le_refl _) _
end Go.Proofs.YtdclfffjiokenaaDoor
