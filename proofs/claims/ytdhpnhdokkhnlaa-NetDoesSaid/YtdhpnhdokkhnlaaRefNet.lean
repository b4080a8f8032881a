/- The reference's Net as it lies in memory. -/
import Derived.Test.YtdhpnhdokkhnlaaNetLaw
namespace Go.Proofs.Ytdhpnhdokkhnlaa
open Go.RowKit
set_option linter.unusedVariables false

/-- The reference's Net lies in block g; its row of messages is v. -/
def RefAt (w : World) (g : Nat) (v : Value) (N : NetV) : Prop :=
  w.heap[g]? = some (.cells #[.int .i64 N.nodes, v, .int .i64 N.last, .int .i64 N.sent, .int .i64 N.doubled, .int .i64 N.taken, .int .i64 N.lost] 58 (0, 0)) ∧ RK 4 w v N.l.length (rows N.l) ∧ blk v ≠ some g
section
variable {w w' : World} {g : Nat} {v : Value} {N : NetV}
theorem RefAt.lt (h : RefAt w g v N) : g < w.heap.size := lt_of_block' h.1
theorem RefAt.c0 (h : RefAt w g v N) : w.cell? ⟨g, 0, none⟩ = some (.int .i64 N.nodes) := by simp [World.cell?, h.1]
theorem RefAt.c1 (h : RefAt w g v N) : w.cell? ⟨g, 1, none⟩ = some v := by simp [World.cell?, h.1]
theorem RefAt.c2 (h : RefAt w g v N) : w.cell? ⟨g, 2, none⟩ = some (.int .i64 N.last) := by simp [World.cell?, h.1]
theorem RefAt.c3 (h : RefAt w g v N) : w.cell? ⟨g, 3, none⟩ = some (.int .i64 N.sent) := by simp [World.cell?, h.1]
theorem RefAt.c4 (h : RefAt w g v N) : w.cell? ⟨g, 4, none⟩ = some (.int .i64 N.doubled) := by simp [World.cell?, h.1]
theorem RefAt.c5 (h : RefAt w g v N) : w.cell? ⟨g, 5, none⟩ = some (.int .i64 N.taken) := by simp [World.cell?, h.1]
theorem RefAt.c6 (h : RefAt w g v N) : w.cell? ⟨g, 6, none⟩ = some (.int .i64 N.lost) := by simp [World.cell?, h.1]
theorem RefAt.free (h : RefAt w g v N) (j : Nat) : w.frozen? ⟨g, j, none⟩ = false := by simp [World.frozen?, h.1]
theorem RefAt.drew (h : RefAt w g v N) : RefAt w.drew g v N := h
theorem RefAt.same (h : RefAt w g v N) (hz : w.heap.size ≤ w'.heap.size) (hg : w'.heap[g]? = w.heap[g]?) (hb : ∀ k, blk v = some k → w'.heap[k]? = w.heap[k]?) : RefAt w' g v N :=
  ⟨by rw [hg]; exact h.1, h.2.1.same hz hb, h.2.2⟩
theorem RefAt.below (h : RefAt w g v N) (hb : Below w.heap.size w w') : RefAt w' g v N := h.same hb.size (hb.block g h.lt) fun k hk => hb.block k (h.2.1.lt k hk)
theorem RefAt.alloc (h : RefAt w g v N) (o : Obj) : RefAt (w.alloc o) g v N := h.below ((Below.refl _ _).alloc (Nat.le_refl _) _)
theorem ref_cells (h : w.heap[g]? = some (.cells #[.int .i64 N.nodes, v, .int .i64 N.last, .int .i64 N.sent, .int .i64 N.doubled, .int .i64 N.taken, .int .i64 N.lost] 58 (0, 0))) (j : Nat) (u : Value) :
    (w.setCell ⟨g, j, none⟩ u).heap[g]? = some (.cells (#[.int .i64 N.nodes, v, .int .i64 N.last, .int .i64 N.sent, .int .i64 N.doubled, .int .i64 N.taken, .int .i64 N.lost].setIfInBounds j u) 58 (0, 0)) := by
  show (w.heap.modify g _)[g]? = _
  rw [Array.getElem?_modify]
  simp [h]
theorem RefAt.row (h : RefAt w g v N) (j : Nat) (u : Value) : RK 4 (w.setCell ⟨g, j, none⟩ u) v N.l.length (rows N.l) := h.2.1.set _ _ fun k hk e => h.2.2 (by rw [hk, e])
theorem RefAt.set2 (h : RefAt w g v N) (x : Int) : RefAt (w.setCell ⟨g, 2, none⟩ (.int .i64 x)) g v { N with last := x } := ⟨ref_cells h.1 2 _, h.row _ _, h.2.2⟩
theorem RefAt.set3 (h : RefAt w g v N) (x : Int) : RefAt (w.setCell ⟨g, 3, none⟩ (.int .i64 x)) g v { N with sent := x } := ⟨ref_cells h.1 3 _, h.row _ _, h.2.2⟩
theorem RefAt.set4 (h : RefAt w g v N) (x : Int) : RefAt (w.setCell ⟨g, 4, none⟩ (.int .i64 x)) g v { N with doubled := x } := ⟨ref_cells h.1 4 _, h.row _ _, h.2.2⟩
theorem RefAt.set5 (h : RefAt w g v N) (x : Int) : RefAt (w.setCell ⟨g, 5, none⟩ (.int .i64 x)) g v { N with taken := x } := ⟨ref_cells h.1 5 _, h.row _ _, h.2.2⟩
theorem RefAt.set6 (h : RefAt w g v N) (x : Int) : RefAt (w.setCell ⟨g, 6, none⟩ (.int .i64 x)) g v { N with lost := x } := ⟨ref_cells h.1 6 _, h.row _ _, h.2.2⟩
end
/-- The reference's row: a new one, stored. -/
theorem RefAt.put {w : World} {g : Nat} {v v' : Value} {N : NetV} {l : List MailV} (h : RefAt w g v N) (hr : RK 4 w v' l.length (rows l)) (hne : blk v' ≠ some g) : RefAt (w.setCell ⟨g, 1, none⟩ v') g v' { N with l := l } :=
  ⟨ref_cells h.1 1 v', hr.set _ _ (fun k hk e => hne (by rw [hk, e])), hne⟩
end Go.Proofs.Ytdhpnhdokkhnlaa
