/- Rows of bytes that a call owns: what they hold as a list of bytes; their text. -/
import Derived.Test.YtpfoekfbcpinlaaGreatDoorProg
import Derived.WalkKit
import Derived.OwnWalk
import Derived.Laws.AppendOwn
import Derived.Laws.OwnMore
import Derived.Laws.BytesArg
import Derived.Maps.AppendAt
import Derived.KernelRfl
namespace Go.Proofs.YtpfoekfbcpinlaaGreatDoor
open Go.RowKit

/-- Bytes, as cells. -/
def by8 (l : List UInt8) : List Value := l.map fun b => .int .u8 (b.toNat : Int)
theorem by8_length (l : List UInt8) : (by8 l).length = l.length := by simp [by8]
theorem by8_append (l m : List UInt8) : by8 (l ++ m) = by8 l ++ by8 m := by simp [by8]
theorem by8_get (l : List UInt8) (j : Nat) (h : j < l.length) : (by8 l)[j]? = some (.int .u8 ((l[j].toNat : Nat) : Int)) := by
  simp [by8, List.getElem?_eq_getElem h]
theorem by8_set (l : List UInt8) (j : Nat) (b : UInt8) : (by8 l).set j (.int .u8 (b.toNat : Int)) = by8 (l.set j b) := by
  simp [by8, List.map_set]
theorem by8_one (l : List UInt8) : ∀ u ∈ by8 l, u.oneCell' = true := by
  intro u hu
  simp only [by8, List.mem_map] at hu
  obtain ⟨b, _, rfl⟩ := hu; rfl
theorem by8_replicate (n : Nat) (b : UInt8) : by8 (List.replicate n b) = List.replicate n (.int .u8 (b.toNat : Int)) := by simp [by8]
theorem str_of_nums (l : List UInt8) : strOfNums (l.map fun b => (b.toNat : Int)) = ⟨l.toArray⟩ := by
  unfold strOfNums
  congr 2
  rw [List.map_map]
  refine (List.map_congr_left fun b _ => ?_).trans (List.map_id l)
  simp
theorem infoByte : (Tryz.prog.info? 5).map (fun i => (i.zero, i.size, i.bytes)) = some (some (.int .u8 0), 1, 1) := by kernel_rfl
theorem own_cell {w : World} {base g n cap : Nat} {l : List UInt8} (h : w.ownsRow base 5 1 (.slice (some ⟨g, 0, none⟩) n cap) n (by8 l)) (j : Nat) (hj : j < l.length) :
    w.cell? ⟨g, j, none⟩ = some (.int .u8 ((l[j].toNat : Nat) : Int)) := by
  have hl : l.length = n := by have := h.1; rw [by8_length] at this; omega
  exact (h.cellAt j (by omega)).trans (by8_get l j hj)
theorem own_string {w : World} {base : Nat} {v : Value} {l : List UInt8} (h : w.ownsRow base 5 1 v l.length (by8 l)) (dst : TypeId) (hd : Tryz.prog.underlying dst = some .string) :
    (convert 109 dst v).run Tryz.prog w = .ok (.string ⟨l.toArray⟩) w := by
  rcases h.2 with ⟨rfl, h0⟩ | ⟨g, cap, cur, rfl, _, _⟩
  · have : l = [] := List.length_eq_zero_iff.1 h0
    subst this
    rw [run_convert_bytes_nil w 109 5 Tryz.underlying109 Tryz.underlying5 0 0 dst hd]
    rfl
  · rw [run_convert_bytes_arg w 109 5 Tryz.underlying109 Tryz.underlying5 g 0 l.length cap (l.map fun b => (b.toNat : Int)) (by simp) (fun i hi => by
      rw [Nat.zero_add, own_cell h i hi]
      simp [List.getD, List.getElem?_eq_getElem hi]) dst hd, str_of_nums]
theorem rep_set (k n : Nat) (c d : UInt8) (h : k < n) : (List.replicate k c ++ List.replicate (n - k) d).set k c = List.replicate (k + 1) c ++ List.replicate (n - (k + 1)) d := by
  rw [List.set_append, if_neg (by simp), List.length_replicate, Nat.sub_self, show n - k = (n - (k + 1)) + 1 from by omega, List.replicate_succ, List.set_cons_zero, List.replicate_succ' (n := k), List.append_assoc]; rfl
theorem made_bytes (n : Nat) : (madeCells (Value.int .u8 0).cells (n * 1)).toList = by8 (List.replicate n 0) := by
  rw [by8_replicate, Nat.mul_one]
  exact toList_madeCells_one (.int .u8 0) n
theorem own_stored {w : World} {base g n cap : Nat} {l : List UInt8} (h : w.ownsRow base 5 1 (.slice (some ⟨g, 0, none⟩) n cap) n (by8 l)) (j : Nat) (b : UInt8) :
    (w.setCell ⟨g, j, none⟩ (.int .u8 (b.toNat : Int))).ownsRow base 5 1 (.slice (some ⟨g, 0, none⟩) n cap) n (by8 (l.set j b)) := by
  rw [← by8_set]
  exact (h.stored j _).1
end Go.Proofs.YtpfoekfbcpinlaaGreatDoor
