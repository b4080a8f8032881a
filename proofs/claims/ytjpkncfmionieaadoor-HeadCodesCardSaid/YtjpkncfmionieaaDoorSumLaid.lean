/- What a row's list of the table gives. -/
import Derived.Test.YtjpkncfmionieaaDoorSumAwake
import Derived.Test.YtjpkncfmionieaaDoorRows
import Derived.KernelRfl
import Derived.LaidLaws
import Derived.Lib.LaidTab
namespace Go.Proofs.YtjpkncfmionieaaDoor
theorem gTab : Tryd.prog.globalNamed "baton/sum.nibbles" = some 0 := by kernel_rfl
theorem gTabType : (Tryd.prog.globals[0]?).map (·.type) = some 120 := by kernel_rfl
theorem cellsTab : Tryd.prog.cellsOf 120 = 16 := by kernel_rfl
theorem cellsNum : Tryd.prog.cellsOf 104 = 1 := by kernel_rfl
theorem tab_of_laid {W : World} (h : laidMetH Tryd.prog [("baton/sum.nibbles", Rows.laid_baton_sum_nibbles)] W) : Tab W := by
  have hT : Lib.TabIs Tryd.prog W "baton/sum.nibbles" .u32 [0, 274646895, 549293790, 820201905, 1098587580, 1361435347, 1640403810, 1905808397, 2197175160, 2460548119, 2722870694, 2987750089, 3280807620, 3553878443, 3811616794, 4084100981] :=
    Lib.tabIs_of_head (rest := []) gTab gTabType Tryd.underlying120 Tryd.underlying104 cellsNum cellsTab h
  intro i hi
  have hc := hT.cell gTab i hi
  rw [hc, Crc.tab_16 i hi]
  have : i = 0 ∨ i = 1 ∨ i = 2 ∨ i = 3 ∨ i = 4 ∨ i = 5 ∨ i = 6 ∨ i = 7 ∨ i = 8 ∨ i = 9 ∨ i = 10 ∨ i = 11 ∨ i = 12 ∨ i = 13 ∨ i = 14 ∨ i = 15 := by omega
  rcases this with rfl | rfl | rfl | rfl | rfl | rfl | rfl | rfl | rfl | rfl | rfl | rfl | rfl | rfl | rfl | rfl <;> rfl
end Go.Proofs.YtjpkncfmionieaaDoor
