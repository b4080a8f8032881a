/- string(make([]byte, n)) of a long length: its run, without its cells. -/
import Derived.Test.YtdclfffjiokenaaDoorProg
import Derived.WalkKit
import Derived.Laws.MakeOwn
import Derived.Laws.OwnMore
import Derived.Laws.BytesArg
import Derived.Laws.Rows
import Derived.OwnWalk
import Derived.KernelRfl
namespace Go.Proofs.YtdclfffjiokenaaDoor
open Go.RowKit
set_option linter.unusedVariables false

def bigObj (n : Nat) : Obj := .cells (madeCells #[.int .u8 0] n) 5 (0, 0)
def bigText (n : Nat) : ByteArray := strOfNums (List.replicate n 0)
theorem bigText_size (n : Nat) : (bigText n).size = n := by rw [bigText, strOfNums_size, List.length_replicate]
theorem infoU8 : (Tryd.prog.info? 5).map (fun i => (i.zero, i.size, i.bytes)) = some (some (.int .u8 0), 1, 1) := by kernel_rfl
theorem big_make (n : Nat) (hn : n ≤ 281474976710656) (w : World) : (Instr.makeSlice 39 (.int .i64 n) (.int .i64 n)).run Tryd.prog w = .ok (.slice (some ⟨w.heap.size, 0, none⟩) n n) (w.alloc (bigObj n)) := by
  obtain ⟨i0, hi, hz, hs, hb⟩ := info_parts infoU8
  have := run_make (P := Tryd.prog) w 39 5 i0 _ Tryd.underlying39 hi hz .i64 .i64 n n (by omega) (by omega) (by rw [hb]; omega) (by omega)
  rw [hs] at this
  simpa [bigObj, Value.cells] using this
theorem big_cell (n : Nat) (w : World) (i : Nat) (h : i < n) : (w.alloc (bigObj n)).cell? ⟨w.heap.size, i, none⟩ = some (.int .u8 0) := by
  have h1 : (w.alloc (bigObj n)).heap[w.heap.size]? = some (bigObj n) := heap_alloc_new w _
  have h2 : (madeCells #[.int .u8 0] n)[i]? = some (.int .u8 0) := by
    rw [← Array.getElem?_toList, toList_madeCells_one, List.getElem?_replicate, if_pos h]
  unfold World.cell?
  rw [h1]
  unfold bigObj
  simpa using h2
theorem big_text (n : Nat) (w : World) : (convert 39 9 (.slice (some ⟨w.heap.size, 0, none⟩) n n)).run Tryd.prog (w.alloc (bigObj n)) = .ok (.string (bigText n)) (w.alloc (bigObj n)) :=
  run_convert_bytes_arg (P := Tryd.prog) (w.alloc (bigObj n)) 39 5 Tryd.underlying39 Tryd.underlying5 w.heap.size 0 n n (List.replicate n 0) (List.length_replicate) (fun i hi => by
    rw [Nat.zero_add, big_cell n w i hi]
    simp [List.getD_eq_getElem?_getD, hi]) 9 Tryd.underlying9
/-- .. of a length that a literal names. -/
theorem big_lit (n : Nat) (N : Int) (hN : (n : Int) = N) (hn : n ≤ 281474976710656) : ∃ (O : Obj) (T : ByteArray), T.size = n ∧ (∀ w : World, (Instr.makeSlice 39 (.int .i64 N) (.int .i64 N)).run Tryd.prog w = .ok (.slice (some ⟨w.heap.size, 0, none⟩) n n) (w.alloc O)) ∧
    ∀ w : World, (convert 39 9 (.slice (some ⟨w.heap.size, 0, none⟩) n n)).run Tryd.prog (w.alloc O) = .ok (.string T) (w.alloc O) :=
  ⟨bigObj n, bigText n, bigText_size n, fun w => by rw [← hN]; exact big_make n hn w, fun w => big_text n w⟩
end Go.Proofs.YtdclfffjiokenaaDoor
