/- A row of bytes that '[]byte(s)' made: its cells, stores, its text. -/
import Derived.Test.YtinbmoafdmccfaaDoorBytes
import Derived.Lib.ConvBytes
import Derived.Below
namespace Go.Proofs.YtinbmoafdmccfaaDoor
open Go.RowKit
set_option linter.unusedVariables false

/-- Block g holds the bytes l at its head, and none of them is marked. -/
def MRow (w : World) (g : Nat) (l : List UInt8) : Prop :=
  ∃ cs lo hi, w.heap[g]? = some (.cells cs 5 (lo, hi)) ∧ l.length ≤ lo ∧ l.length ≤ cs.size ∧ cs.toList.take l.length = by8 l
theorem MRow.cell {w : World} {g : Nat} {l : List UInt8} (h : MRow w g l) (j : Nat) (hj : j < l.length) : w.cell? ⟨g, j, none⟩ = some (.int .u8 ((l[j].toNat : Nat) : Int)) := by
  obtain ⟨cs, lo, hi, hb, h1, h2, h3⟩ := h
  have e : cs[j]? = some (.int .u8 ((l[j].toNat : Nat) : Int)) := by
    rw [← by8_get l j hj, ← h3, List.getElem?_take_of_lt hj, Array.getElem?_toList]
  simp [World.cell?, hb, e]
theorem MRow.free {w : World} {g : Nat} {l : List UInt8} (h : MRow w g l) (j : Nat) (hj : j < l.length) : w.frozen? ⟨g, j, none⟩ = false := by
  obtain ⟨cs, lo, hi, hb, h1, h2, h3⟩ := h
  simp [World.frozen?, hb]
  omega
theorem MRow.set {w : World} {g : Nat} {l : List UInt8} (h : MRow w g l) (j : Nat) (b : UInt8) : MRow (w.setCell ⟨g, j, none⟩ (.int .u8 (b.toNat : Int))) g (l.set j b) := by
  obtain ⟨cs, lo, hi, hb, h1, h2, h3⟩ := h
  refine ⟨cs.setIfInBounds j (.int .u8 (b.toNat : Int)), lo, hi, ?_, by simpa using h1, by simpa using h2, ?_⟩
  · simp [World.setCell, Array.getElem?_modify, hb]
  · rw [List.length_set, Array.toList_setIfInBounds, List.take_set, h3, by8_set]
theorem MRow.below {w w' : World} {g : Nat} {l : List UInt8} (h : MRow w g l) (hb : Below w.heap.size w w') : MRow w' g l := by
  obtain ⟨cs, lo, hi, h0, h1⟩ := h
  refine ⟨cs, lo, hi, ?_, h1⟩
  have hg : g < w.heap.size := by
    rcases Nat.lt_or_ge g w.heap.size with h | h
    · exact h
    · simp [Array.getElem?_eq_none h] at h0
  rw [hb.block g hg]; exact h0
theorem MRow.drew {w : World} {g : Nat} {l : List UInt8} (h : MRow w g l) : MRow w.drew g l := h
theorem MRow.string {w : World} {g : Nat} {l : List UInt8} (h : MRow w g l) (cap : Nat) (dst : TypeId) (hd : Tryd.prog.underlying dst = some .string) :
    (convert 28 dst (.slice (some ⟨g, 0, none⟩) l.length cap)).run Tryd.prog w = .ok (.string ⟨l.toArray⟩) w := by
  rw [run_convert_bytes_arg w 28 5 Tryd.underlying28 Tryd.underlying5 g 0 l.length cap (l.map fun b => (b.toNat : Int)) (by simp) (fun i hi => by
      rw [Nat.zero_add, h.cell i hi]
      simp [List.getD, List.getElem?_eq_getElem hi]) dst hd, str_of_nums]
theorem grownCap_of (w : World) (n e : Nat) : n ≤ grownCap w n 0 e := grownCap_ge w n 0 e
theorem MRow.made (w : World) (s : ByteArray) : MRow (Lib.bytesWorld w 5 s) w.heap.size s.data.toList := by
  refine ⟨_, _, _, Lib.bytesWorld_at_new w 5 s, ?_, ?_, ?_⟩
  · simp [Lib.bytesCells]
  · simp [Lib.bytesCells]
  · simp [Lib.bytesCells, by8]
theorem below_bytes (w : World) (s : ByteArray) : Below w.heap.size w (Lib.bytesWorld w 5 s) :=
  ⟨rfl, rfl, rfl, by rw [Lib.bytesWorld_size]; omega, fun k hk => Lib.bytesWorld_at_old w 5 s k hk⟩
end Go.Proofs.YtinbmoafdmccfaaDoor
