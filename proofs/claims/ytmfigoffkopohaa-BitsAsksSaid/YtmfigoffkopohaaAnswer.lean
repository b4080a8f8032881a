/- Plain law: what a reader's answers are like. -/
import Derived.Test.YtmfigoffkopohaaLawAsk
namespace Go.Proofs.Ytmfigoffkopohaa
open Go.RowKit
set_option linter.unusedVariables false

/-- What holds of one answer. -/
def Fair (l : List UInt8) (p e : Nat) (n : Nat) (t : List UInt8) (p' e' : Nat) : Prop :=
  (e ≠ 0 → e' = e) ∧ (e' ≠ 0 → n = 0 ∧ t = [] ∧ p' = p) ∧ p ≤ p' ∧ p' ≤ l.length ∧ e' ≤ 40 ∧ n < 18446744073709551616
theorem fair_varint (l : List UInt8) (p e most : Nat) (hp : p ≤ l.length) (he : e ≤ 40) : Fair l p e (Var.rVarint l p e most).1 [] (Var.rVarint l p e most).2.1 (Var.rVarint l p e most).2.2 := by
  obtain ⟨h1, h2, h3, h4⟩ := Var.uvI_facts l p hp
  unfold Var.rVarint Fair
  by_cases h : e = 0
  · rw [if_pos h]
    split
    · split
      · simp; omega
      · simp; omega
    · simp; omega
  · rw [if_neg h]; simp; omega
theorem fair_zag (l : List UInt8) (p e : Nat) (a b : Int) (hp : p ≤ l.length) (he : e ≤ 40) : Fair l p e (IntKind.u64.wrap (Var.rZag l p e a b).1).toNat [] (Var.rZag l p e a b).2.1 (Var.rZag l p e a b).2.2 := by
  obtain ⟨h1, h2, h3, h4⟩ := Var.uvI_facts l p hp
  have hw : (IntKind.u64.wrap 0).toNat = 0 := by rw [IntKind.wrap_u64]; rfl
  unfold Var.rZag Fair
  by_cases h : e = 0
  · rw [if_pos h]
    split
    · split
      · simp [hw]; omega
      · simp [IntKind.wrap_u64]; omega
    · simp [hw]; omega
  · rw [if_neg h]; simp [hw]; omega
theorem fair_fixed (l : List UInt8) (p e : Nat) (z : Int) (hp : p ≤ l.length) (he : e ≤ 40) : Fair l p e (Var.rFixed l p e z).1 [] (Var.rFixed l p e z).2.1 (Var.rFixed l p e z).2.2 := by
  obtain ⟨h1, h2, h3, h4, h5⟩ := Var.fixI_facts l p z hp
  unfold Var.rFixed Fair
  by_cases h : e = 0
  · rw [if_pos h]
    split
    · rename_i h0
      refine ⟨by omega, fun h' => absurd h0 h', by have := h4 h0; omega, h2, by omega, h1⟩
    · simp; omega
  · rw [if_neg h]; simp; omega
theorem fair_raw (l : List UInt8) (p e : Nat) (n : Int) (hp : p ≤ l.length) (he : e ≤ 40) : Fair l p e 0 (Var.rRaw l p e n).1 (Var.rRaw l p e n).2.1 (Var.rRaw l p e n).2.2 ∧ ((Var.rRaw l p e n).2.2 = 0 → (Var.rRaw l p e n).1 = (l.drop p).take ((Var.rRaw l p e n).2.1 - p) ∧ ((Var.rRaw l p e n).1.length : Int) = n) := by
  unfold Var.rRaw Fair
  by_cases h : e = 0
  · rw [if_pos h]
    split
    · simp; omega
    · split
      · simp; omega
      · rename_i h1 h2
        refine ⟨⟨by omega, by simp, by simp, by simp; omega, by simp, by decide⟩, fun _ => ⟨by simp, by simp; omega⟩⟩
  · rw [if_neg h]; simp [h]; omega
theorem fair_text (l : List UInt8) (p e : Nat) (m : Int) (hp : p ≤ l.length) (he : e ≤ 40) : Fair l p e 0 (Var.rText l p e m).1 (Var.rText l p e m).2.1 (Var.rText l p e m).2.2 := by
  obtain ⟨h1, h2, h3, h4, h5⟩ := Var.rVarint_facts l p m.toNat hp
  have hf := fair_varint l p 0 m.toNat hp (by omega)
  unfold Var.rText
  by_cases h : e = 0
  · subst h
    rw [if_pos rfl]
    split
    · split
      · unfold Fair; simp; omega
      · rename_i h6 h7
        have hr := (fair_raw l (Var.rVarint l p 0 m.toNat).2.1 0 ((Var.rVarint l p 0 m.toNat).1 : Nat) h2 (by omega)).1
        have hz : (Var.rRaw l (Var.rVarint l p 0 m.toNat).2.1 0 ((Var.rVarint l p 0 m.toNat).1 : Nat)).2.2 = 0 := by
          unfold Var.rRaw
          rw [if_pos rfl, if_neg (by omega), if_neg (by omega)]
        obtain ⟨r1, r2, r3, r4, r5, r6⟩ := hr
        exact ⟨by omega, fun h => absurd hz h, by omega, r4, r5, r6⟩
    · rename_i h6
      obtain ⟨r1, r2, r3, r4, r5, r6⟩ := hf
      exact ⟨fun h => absurd rfl h, fun h => ⟨rfl, rfl, (r2 h).2.2⟩, h4, h2, by omega, by decide⟩
  · rw [if_neg h]; unfold Fair; simp; omega
theorem answer_fair (l : List UInt8) (p e : Nat) (q : AskV) (hp : p ≤ l.length) (he : e ≤ 40) : Fair l p e (answer l p e q).1 (answer l p e q).2.1 (answer l p e q).2.2.1 (answer l p e q).2.2.2 ∧
    (q.what = 4 → (answer l p e q).2.2.2 = 0 → (answer l p e q).2.1 = (l.drop p).take ((answer l p e q).2.2.1 - p) ∧ ((answer l p e q).2.1.length : Int) = q.a) := by
  unfold answer
  by_cases w0 : q.what = 0
  · rw [if_pos w0]; exact ⟨fair_varint l p e q.n hp he, by omega⟩
  rw [if_neg w0]
  by_cases w1 : q.what = 1
  · rw [if_pos w1]; exact ⟨fair_zag l p e q.a q.b hp he, by omega⟩
  rw [if_neg w1]
  by_cases w2 : q.what = 2
  · rw [if_pos w2]; exact ⟨fair_fixed l p e q.a hp he, by omega⟩
  rw [if_neg w2]
  by_cases w3 : q.what = 3
  · rw [if_pos w3]
    obtain ⟨⟨r1, r2, r3, r4, r5, r6⟩, _⟩ := fair_raw l p e 1 hp he
    refine ⟨⟨r1, fun h => ?_, r3, r4, r5, ?_⟩, by omega⟩
    · obtain ⟨_, t1, t2⟩ := r2 h
      refine ⟨?_, rfl, t2⟩
      show ((Var.rRaw l p e 1).1.headD 0).toNat = 0
      rw [t1]; rfl
    · have := UInt8.toNat_lt ((Var.rRaw l p e 1).1.headD 0)
      show ((Var.rRaw l p e 1).1.headD 0).toNat < _
      omega
  rw [if_neg w3]
  by_cases w4 : q.what = 4
  · rw [if_pos w4]
    have := fair_raw l p e q.a hp he
    exact ⟨this.1, fun _ => this.2⟩
  rw [if_neg w4]
  exact ⟨fair_text l p e q.a hp he, fun h => absurd h w4⟩
end Go.Proofs.Ytmfigoffkopohaa
