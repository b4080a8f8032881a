/- Plain law of nets: small counts; rows of sends; twins. -/
import Derived.Test.YtdhpnhdokkhnlaaNetAwake
namespace Go.Proofs.Ytdhpnhdokkhnlaa
open Go.RowKit
set_option linter.unusedVariables false

theorem lt_of_block' {w : World} {k : Nat} {o : Obj} (h : w.heap[k]? = some o) : k < w.heap.size := by
  rcases Nat.lt_or_ge k w.heap.size with h' | h'
  · exact h'
  · simp [Array.getElem?_eq_none h'] at h
theorem Sm.mono {N : NetV} {b c : Int} (h : Sm N b) (hc : b ≤ c) : Sm N c := by unfold Sm at *; omega
theorem Sm_new (n : Int) : Sm ⟨0, 0, 0, 0, n, 0, []⟩ 0 := by unfold Sm; simp
theorem Sm_send {N : NetV} {b : Int} (h : Sm N b) (f t : Int) (d : ByteArray) : Sm (sendV N f t d).2 (b + 1) := by
  unfold sendV
  split
  · exact h.mono (by omega)
  · split
    · exact h.mono (by omega)
    · split
      · unfold Sm at *; simp only []; omega
      · unfold Sm at *; simp only [List.length_append, List.length_singleton]; omega
theorem Sm_twice {N : NetV} {b : Int} (h : Sm N b) (i : Int) : Sm (twiceV N i).2 (b + 1) := by
  unfold twiceV
  split
  · exact h.mono (by omega)
  · split
    · exact h.mono (by omega)
    · unfold Sm at *; simp only [List.length_append, List.length_singleton]; omega
theorem outL_le (l : List MailV) (i : Nat) : (outL l i).length ≤ l.length := by
  unfold outL; simp; omega
theorem Sm_take {N : NetV} {b : Int} (h : Sm N b) (i : Int) : Sm (takeV N i).2 (b + 1) := by
  unfold takeV
  split
  · exact h.mono (by omega)
  · have := outL_le N.l i.toNat
    unfold Sm at *; simp only []; omega
theorem Sm_lose {N : NetV} {b : Int} (h : Sm N b) (i : Int) : Sm (loseV N i).2 (b + 1) := by
  unfold loseV
  split
  · exact h.mono (by omega)
  · have := outL_le N.l i.toNat
    unfold Sm at *; simp only []; omega
/-- The net behind the first k sends. -/
def sends (n : Int) (f : Nat → ActV) : Nat → NetV
  | 0 => ⟨0, 0, 0, 0, n, 0, []⟩
  | k + 1 => (sendV (sends n f k) (f k).frm (f k).to (f k).s).2
theorem Sm_sends (n : Int) (f : Nat → ActV) : ∀ k : Nat, Sm (sends n f k) k
  | 0 => Sm_new n
  | k + 1 => (Sm_send (Sm_sends n f k) _ _ _).mono (by omega)
theorem cell_below {w w' : World} {a : Addr} {v : Value} (h : w.cell? a = some v) (hb : Below w.heap.size w w') : w'.cell? a = some v := (hb.cell (World.block_lt_of_cell? w a h)).trans h
/-- A slice apart from a net. -/
def Sep (g : Nat) (v u : Value) : Prop := ∀ k, blk u = some k → k ≠ g ∧ blk v ≠ some k
theorem RK.upd {z n g : Nat} {w w' : World} {u v v' : Value} {cs : List Value} (h : RK z w u n cs) (hu : Upd w w' g v v') (hs : Sep g v u) : RK z w' u n cs ∧ Sep g v' u := by
  refine ⟨h.same hu.size fun k hk => hu.keep (h.lt k hk) (hs k hk).1 (hs k hk).2, fun k hk => ⟨(hs k hk).1, fun e => ?_⟩⟩
  rcases hu.2.2.2.2.2 k e with h1 | h1
  · exact (hs k hk).2 h1
  · have := h.lt k hk; omega
theorem Sep.fresh {g : Nat} {w : World} {v u : Value} {N : NetV} (h : NetAt w g v N) (hf : ∀ k, blk u = some k → w.heap.size ≤ k) : Sep g v u := fun k hk => by
  have h1 := hf k hk
  have h2 := h.lt
  exact ⟨by omega, fun e => by have := h.2.1.lt k e; omega⟩
/-- A block apart from a net. -/
theorem blk_upd {g k : Nat} {w w' : World} {v v' : Value} {o : Obj} (h : w.heap[k]? = some o) (hu : Upd w w' g v v') (hg : k ≠ g) (hv : blk v ≠ some k) : w'.heap[k]? = some o ∧ blk v' ≠ some k := by
  have hk := lt_of_block' h
  refine ⟨(hu.keep hk hg hv).trans h, fun e => ?_⟩
  rcases hu.2.2.2.2.2 k e with h1 | h1
  · exact hv h1
  · omega
theorem twice_cases (N : NetV) (i : Int) : (∃ e, (e = 5 ∨ e = 44) ∧ twiceV N i = ((0, e), N)) ∨ ∃ k : Nat, ∃ hk : k < N.l.length, i = k ∧ N.l.length < 256 ∧ twiceV N i = ((N.last + 1, 0), { N with doubled := N.doubled + 1, last := N.last + 1, l := N.l ++ [⟨N.last + 1, N.l[k].frm, N.l[k].to, N.l[k].data⟩] }) := by
  rcases place N i with hi | ⟨k, rfl, hk⟩
  · exact .inl ⟨5, .inl rfl, by unfold twiceV; rw [if_pos hi]⟩
  · by_cases h4 : 256 ≤ N.l.length
    · exact .inl ⟨44, .inr rfl, by unfold twiceV; rw [if_neg (by omega), if_pos h4]⟩
    · refine .inr ⟨k, hk, rfl, by omega, ?_⟩
      unfold twiceV
      rw [if_neg (by omega), if_neg h4]
      simp only [Int.toNat_natCast, List.getD_eq_getElem?_getD, List.getElem?_eq_getElem hk, Option.getD_some]
theorem take_ok (N : NetV) (k : Nat) (hk : k < N.l.length) : takeV N k = ((N.l.getD k zeroMail, 0), { N with taken := N.taken + 1, l := outL N.l k }) := by
  unfold takeV; rw [if_neg (by omega), Int.toNat_natCast]
/-- Twins: what is taken at a place, and then the last one. -/
theorem twins (l : List MailV) (x : MailV) (i : Nat) (h : i < l.length) : (outL (l ++ [x]) i).length = l.length ∧ (outL (l ++ [x]) i).getD (l.length - 1) zeroMail = x ∧ (l ++ [x]).getD i zeroMail = l[i] := by
  have h1 : (outL (l ++ [x]) i).length = l.length := by unfold outL; simp; omega
  refine ⟨h1, ?_, ?_⟩
  · have e : outL (l ++ [x]) i = (l.take i ++ l.drop (i + 1)) ++ [x] := by
      unfold outL
      rw [List.take_append_of_le_length (by omega), List.drop_append_of_le_length (by omega), List.append_assoc]
    rw [e, List.getD_eq_getElem?_getD, List.getElem?_append_right (by simp; omega)]
    have : l.length - 1 - (l.take i ++ l.drop (i + 1)).length = 0 := by simp; omega
    rw [this]; rfl
  · rw [List.getD_eq_getElem?_getD, List.getElem?_append_left h, List.getElem?_eq_getElem h]; rfl
end Go.Proofs.Ytdhpnhdokkhnlaa
