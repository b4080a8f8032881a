/- What a row's list of the table gives. -/
import Derived.Test.YtpfoekfbcpinlaaGreatDoorSum
import Derived.Test.YtpfoekfbcpinlaaGreatDoorRows
import Derived.KernelRfl
import Derived.LaidLaws
import Derived.Lib.LaidTab
namespace Go.Proofs.YtpfoekfbcpinlaaGreatDoor
theorem gTab : Tryz.prog.globalNamed "baton/sum.nibbles" = some 0 := by kernel_rfl
theorem gTabType : (Tryz.prog.globals[0]?).map (·.type) = some 152 := by kernel_rfl
theorem cellsTab : Tryz.prog.cellsOf 152 = 16 := by kernel_rfl
theorem cellsNum : Tryz.prog.cellsOf 76 = 1 := by kernel_rfl
theorem tab_of_laid {W : World} (h : laidMetH Tryz.prog [("baton/sum.nibbles", Rows.laid_baton_sum_nibbles)] W) : Tab W := by
  have hT : Lib.TabIs Tryz.prog W "baton/sum.nibbles" .u32 [0, 274646895, 549293790, 820201905, 1098587580, 1361435347, 1640403810, 1905808397, 2197175160, 2460548119, 2722870694, 2987750089, 3280807620, 3553878443, 3811616794, 4084100981] :=
    Lib.tabIs_of_head (rest := []) gTab gTabType Tryz.underlying152 Tryz.underlying76 cellsNum cellsTab h
  intro i hi
  have hc := hT.cell gTab i hi
  rw [hc, Crc.tab_16 i hi]
  have : i = 0 ∨ i = 1 ∨ i = 2 ∨ i = 3 ∨ i = 4 ∨ i = 5 ∨ i = 6 ∨ i = 7 ∨ i = 8 ∨ i = 9 ∨ i = 10 ∨ i = 11 ∨ i = 12 ∨ i = 13 ∨ i = 14 ∨ i = 15 := by omega
  rcases this with rfl | rfl | rfl | rfl | rfl | rfl | rfl | rfl | rfl | rfl | rfl | rfl | rfl | rfl | rfl | rfl <;> rfl
end Go.Proofs.YtpfoekfbcpinlaaGreatDoor
