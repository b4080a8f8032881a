/- Frames, put together, are scanned as they are: the plain law. -/
import Derived.Test.YtdclfffjiokenaaDoorFrameRefused
namespace Go.Proofs.YtdclfffjiokenaaDoor
open Go.RowKit
set_option linter.unusedVariables false

/-- A part: a kind and a payload. -/
structure PartV where
  k : Nat
  p : List UInt8
def PartV.ok (x : PartV) : Prop := 1 ≤ x.k ∧ x.k ≤ 3 ∧ x.p.length ≤ 262144
def PartV.b (x : PartV) : List UInt8 := Fr.fr (UInt8.ofNat x.k) x.p
theorem PartV.len (x : PartV) : x.b.length = x.p.length + 9 := Fr.fr_length _ _
/-- The frames of a row that begins at a place. -/
def framesAt (q : Nat) : List PartV → List FrV
  | [] => []
  | x :: r => ⟨x.k, x.p, q⟩ :: framesAt (q + 9 + x.p.length) r
def rowB (l : List PartV) : List UInt8 := l.flatMap PartV.b
theorem rowB_cons (x : PartV) (r : List PartV) : rowB (x :: r) = x.b ++ rowB r := by simp [rowB]
theorem scan_row (l : List PartV) (hl : ∀ x ∈ l, x.ok) (tail : List UInt8) (ht : (Fr.readL tail).1 ≠ 0) : ∀ pre : List UInt8, scanL (pre ++ rowB l ++ tail) pre.length = (framesAt pre.length l, pre.length + (rowB l).length) := by
  induction l with
  | nil =>
    intro pre
    have hd : (pre ++ rowB [] ++ tail).drop pre.length = tail := by simp [rowB]
    rw [scanL_end (by rw [hd]; exact ht)]
    simp [framesAt, rowB]
  | cons x r ih =>
    intro pre
    obtain ⟨h1, h2, h3⟩ := hl x (List.mem_cons_self ..)
    have hd : (pre ++ rowB (x :: r) ++ tail).drop pre.length = Fr.fr (UInt8.ofNat x.k) x.p ++ (rowB r ++ tail) := by
      rw [rowB_cons, List.append_assoc, List.drop_left' rfl, List.append_assoc]; rfl
    have hr := Fr.readL_fr (rowB r ++ tail) h1 h2 h3
    rw [← hd] at hr
    have hf : frAt (pre ++ rowB (x :: r) ++ tail) pre.length = ⟨x.k, x.p, pre.length⟩ := by unfold frAt; rw [hr]
    have e : pre ++ rowB (x :: r) ++ tail = (pre ++ x.b) ++ rowB r ++ tail := by rw [rowB_cons]; simp
    have hn : (⟨x.k, x.p, pre.length⟩ : FrV).next = (pre ++ x.b).length := by
      rw [List.length_append, PartV.len]; unfold FrV.next; simp only []; omega
    rw [scanL_ok (by rw [hr]), hf, hn, e, ih (fun y hy => hl y (List.mem_cons_of_mem _ hy)) (pre ++ x.b)]
    have hl2 : (pre ++ x.b).length = pre.length + 9 + x.p.length := by rw [List.length_append, PartV.len]; omega
    rw [hl2, rowB_cons]
    simp only [framesAt, List.length_append, PartV.len, Prod.mk.injEq, true_and]
    omega
end Go.Proofs.YtdclfffjiokenaaDoor
