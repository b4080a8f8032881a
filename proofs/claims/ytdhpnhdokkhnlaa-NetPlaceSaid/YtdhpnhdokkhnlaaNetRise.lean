/- Plain law: numbers under way rise. -/
import Derived.Test.YtdhpnhdokkhnlaaNetLaw
namespace Go.Proofs.Ytdhpnhdokkhnlaa
open Go.RowKit
set_option linter.unusedVariables false

def Rise (l : List MailV) (last : Int) : Prop := (∀ m ∈ l, 1 ≤ m.id ∧ m.id ≤ last) ∧ l.Pairwise (fun a b => a.id < b.id)
theorem Rise.nil (n : Int) : Rise [] n := ⟨by simp, .nil⟩
theorem Rise.push {l : List MailV} {n : Int} (h : Rise l n) (h0 : 0 ≤ n) (f t : Int) (d : ByteArray) : Rise (l ++ [⟨n + 1, f, t, d⟩]) (n + 1) := by
  refine ⟨fun m hm => ?_, ?_⟩
  · rcases List.mem_append.mp hm with h1 | h1
    · have := h.1 m h1; omega
    · obtain rfl := List.mem_singleton.mp h1
      exact ⟨by show 1 ≤ n + 1; omega, Int.le_refl _⟩
  · rw [List.pairwise_append]
    refine ⟨h.2, List.pairwise_singleton _ _, fun a ha b hb => ?_⟩
    obtain rfl := List.mem_singleton.mp hb
    have := h.1 a ha
    show a.id < n + 1
    omega
theorem outL_sub (l : List MailV) (i : Nat) : (outL l i).Sublist l := by
  unfold outL
  rw [← List.eraseIdx_eq_take_drop_succ]
  exact List.eraseIdx_sublist l i
theorem Rise.out {l : List MailV} {n : Int} (h : Rise l n) (i : Nat) : Rise (outL l i) n :=
  ⟨fun m hm => h.1 m ((outL_sub l i).subset hm), h.2.sublist (outL_sub l i)⟩
/-- What comes of an act: the number that is given; whether one is; the net. -/
def Given (N M : NetV) (a e : Int) : Prop := (e = 0 ∧ a = N.last + 1 ∧ M.last = N.last + 1) ∨ (e ≠ 0 ∧ a = 0 ∧ M.last = N.last)
theorem send_given {N : NetV} {b : Int} (hs : Sm N b) (hr : Rise N.l N.last) (f t : Int) (d : ByteArray) : Given N (sendV N f t d).2 (sendV N f t d).1.1 (sendV N f t d).1.2 ∧ Rise (sendV N f t d).2.l (sendV N f t d).2.last := by
  unfold sendV
  split
  · exact ⟨.inr ⟨by simp, rfl, rfl⟩, hr⟩
  · split
    · exact ⟨.inr ⟨by simp, rfl, rfl⟩, hr⟩
    · split
      · exact ⟨.inr ⟨by simp, rfl, rfl⟩, hr⟩
      · exact ⟨.inl ⟨rfl, rfl, rfl⟩, hr.push hs.2.2.2.2.1.1 _ _ _⟩
theorem twice_given {N : NetV} {b : Int} (hs : Sm N b) (hr : Rise N.l N.last) (i : Int) : Given N (twiceV N i).2 (twiceV N i).1.1 (twiceV N i).1.2 ∧ Rise (twiceV N i).2.l (twiceV N i).2.last := by
  unfold twiceV
  split
  · exact ⟨.inr ⟨by simp, rfl, rfl⟩, hr⟩
  · split
    · exact ⟨.inr ⟨by simp, rfl, rfl⟩, hr⟩
    · exact ⟨.inl ⟨rfl, rfl, rfl⟩, hr.push hs.2.2.2.2.1.1 _ _ _⟩
theorem take_rise {N : NetV} (hr : Rise N.l N.last) (i : Int) : (takeV N i).2.last = N.last ∧ Rise (takeV N i).2.l (takeV N i).2.last := by
  unfold takeV
  split
  · exact ⟨rfl, hr⟩
  · exact ⟨rfl, hr.out _⟩
theorem lose_rise {N : NetV} (hr : Rise N.l N.last) (i : Int) : (loseV N i).2.last = N.last ∧ Rise (loseV N i).2.l (loseV N i).2.last := by
  unfold loseV
  split
  · exact ⟨rfl, hr⟩
  · exact ⟨rfl, hr.out _⟩
theorem Rise.at_ {l : List MailV} {n : Int} (h : Rise l n) (k : Nat) (hk : k < l.length) : 1 ≤ l[k].id ∧ l[k].id ≤ n := h.1 _ (List.getElem_mem hk)
theorem Rise.lt {l : List MailV} {n : Int} (h : Rise l n) (p k : Nat) (hk : k < l.length) (hp : p < k) : l[p].id < l[k].id :=
  (List.pairwise_iff_getElem.mp h.2) p k (by omega) hk hp
end Go.Proofs.Ytdhpnhdokkhnlaa
