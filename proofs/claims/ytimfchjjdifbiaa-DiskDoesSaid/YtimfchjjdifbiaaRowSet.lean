/- A cell of a row that a call may write, written. -/
import Derived.Test.YtimfchjjdifbiaaSrc
namespace Go.Proofs.Ytimfchjjdifbiaa
open Go.RowKit
set_option linter.unusedVariables false

theorem RK.put {z n g cap : Nat} {w : World} {cs : List Value} (h : RK z w (.slice (some ⟨g, 0, none⟩) n cap) n cs) (j : Nat) (u : Value) (hj : j < n * z) : RK z (w.setCell ⟨g, j, none⟩ u) (.slice (some ⟨g, 0, none⟩) n cap) n (cs.set j u) := by
  refine ⟨by rw [List.length_set]; exact h.1, ?_⟩
  rcases h.2 with ⟨h1, _⟩ | ⟨g', cap', h1, h2, h3, h4⟩
  · simp at h1
  · simp only [Value.slice.injEq, Option.some.injEq, Addr.mk.injEq, and_true, true_and] at h1
    obtain ⟨rfl, rfl⟩ := h1
    have hc : 0 < cap := by
      have hn : 0 < n := by
        rcases Nat.eq_zero_or_pos n with h' | h'
        · subst h'; simp at hj
        · exact h'
      omega
    obtain ⟨h5, h6, h7⟩ := h4 hc
    have hjc : j < cap * z := Nat.lt_of_lt_of_le hj (Nat.mul_le_mul_right _ h2)
    refine .inr ⟨g, cap, rfl, h2, h3, fun _ => ⟨by simpa using h5, fun i x hx => ?_, fun i hi => ?_⟩⟩
    · rw [List.getElem?_set] at hx
      by_cases he : j = i
      · subst he
        rw [if_pos rfl] at hx
        split at hx
        · obtain rfl := Option.some.inj hx
          exact World.cell?_setCell_same' w _ _ (h7 j hjc).1
        · cases hx
      · rw [if_neg he] at hx
        rw [World.cell?_setCell_other (w := w) (a := ⟨g, j, none⟩) (b := ⟨g, i, none⟩) (v := u) (fun e => he (Addr.mk.inj e).2.1)]
        exact h6 i x hx
    · rw [World.frozen?_setCell]
      refine ⟨?_, (h7 i hi).2⟩
      by_cases he : j = i
      · subst he
        rw [World.cell?_setCell_same' w _ _ (h7 j hjc).1]; rfl
      · rw [World.cell?_setCell_other (w := w) (a := ⟨g, j, none⟩) (b := ⟨g, i, none⟩) (v := u) (fun e => he (Addr.mk.inj e).2.1)]
        exact (h7 i hi).1
theorem RK.isCell {z n g cap : Nat} {w : World} {cs : List Value} (h : RK z w (.slice (some ⟨g, 0, none⟩) n cap) n cs) (j : Nat) (hj : j < n * z) : (w.cell? ⟨g, j, none⟩).isSome = true := by
  rw [h.cell j cs[j]! (by rw [List.getElem!_eq_getElem?_getD]; rw [List.getElem?_eq_getElem (by rw [h.1]; exact hj)]; rfl)]; rfl
/-- Two rows in two blocks: a store into the one leaves the other. -/
def Off (g : Nat) (v : Value) : Prop := ∀ k, blk v = some k → k ≠ g
theorem RK.off {z n g j : Nat} {w : World} {v u : Value} {cs : List Value} (h : RK z w v n cs) (ho : Off g v) : RK z (w.setCell ⟨g, j, none⟩ u) v n cs := h.set _ _ ho
end Go.Proofs.Ytimfchjjdifbiaa
