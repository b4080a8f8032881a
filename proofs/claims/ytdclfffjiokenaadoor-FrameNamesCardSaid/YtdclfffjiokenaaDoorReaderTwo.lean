/- The walks of package bits, part 5: what a Reader reads. -/
import Derived.Test.YtdclfffjiokenaaDoorReader
namespace Go.Proofs.YtdclfffjiokenaaDoor
open Go.RowKit
set_option linter.unusedVariables false

namespace Var
/-- A reader's varint: the number, where it stands, its error. -/
def rVarint (l : List UInt8) (p e most : Nat) : Nat × Nat × Nat :=
  if e = 0 then (if (uvI l p).2.2 = 0 then (if most < (uvI l p).1 then (0, p, 40) else ((uvI l p).1, (uvI l p).2.1, 0)) else (0, p, (uvI l p).2.2)) else (0, p, e)
theorem uvI_facts (l : List UInt8) (p : Nat) (hp : p ≤ l.length) : (uvI l p).1 < 18446744073709551616 ∧ (uvI l p).2.1 ≤ l.length ∧ (uvI l p).2.2 ≤ 8 ∧ ((uvI l p).2.2 = 0 → p < (uvI l p).2.1) := by
  have h := uv_bounds (l := l.drop p) 0 0 (by omega) (by simp)
  obtain ⟨h1, h2, h3, h4, h5⟩ := h
  have e : uvI l p = ((go (l.drop p) 0 0).1, if (go (l.drop p) 0 0).2.2 = 0 then p + (go (l.drop p) 0 0).2.1 else 0, (go (l.drop p) 0 0).2.2) := by
    unfold uvI
    rw [if_neg (by simp; omega), Int.toNat_natCast]
    rfl
  rw [e]
  simp only [List.length_drop] at h2
  refine ⟨by simpa using h1, ?_, ?_, ?_⟩
  · show (if (go (l.drop p) 0 0).2.2 = 0 then p + (go (l.drop p) 0 0).2.1 else 0) ≤ l.length
    split <;> omega
  · show (go (l.drop p) 0 0).2.2 ≤ 8
    omega
  · show (go (l.drop p) 0 0).2.2 = 0 → p < (if (go (l.drop p) 0 0).2.2 = 0 then p + (go (l.drop p) 0 0).2.1 else 0)
    intro h
    rw [if_pos h]
    have := h5 h
    omega
end Var
theorem grown_trans' {w w1 w2 : World} {row : Option Nat} (h : w.grownBy w1 row) (h1 : w1.grownBy w2 row) : w.grownBy w2 row :=
  ⟨h1.os.trans h.os, h1.tape.trans h.tape, h1.output.trans h.output, Nat.le_trans h.size h1.size, fun k hk hne => by rw [h1.block k (Nat.lt_of_lt_of_le hk h.size) hne, h.block k hk hne]⟩
theorem grown_drew (w : World) (row : Option Nat) : w.grownBy w.drew row := ⟨rfl, rfl, rfl, Nat.le_refl _, fun _ _ _ => rfl⟩
end Go.Proofs.YtdclfffjiokenaaDoor
