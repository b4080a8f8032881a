/- Plain law: what bytes are read as a head; of a head's bytes it is that head; of any others' the head's bytes are no more. -/
import Derived.Test.YtjpkncfmionieaaDoorHead
namespace Go.Proofs.YtjpkncfmionieaaDoor.Hd
open Go.Proofs.YtjpkncfmionieaaDoor.Var
set_option linter.unusedVariables false

def HV.zero : HV := ⟨0, 0, 0, []⟩
def decA (l : List UInt8) : Nat × Nat × Nat := rVarint l 0 0 1099511627776
def decB (l : List UInt8) : Nat × Nat × Nat := rVarint l (decA l).2.1 (decA l).2.2 1099511627776
def decC (l : List UInt8) : Nat × Nat × Nat := rVarint l (decB l).2.1 (decB l).2.2 31
def decD (l : List UInt8) : Nat × Nat × Nat := rVarint l (decC l).2.1 (decC l).2.2 31
def decQ (l : List UInt8) : List Int × Nat × Nat := readN l (decD l).1 (decD l).2.1 (decD l).2.2
def decE (l : List UInt8) : Nat := if (decQ l).2.2 = 0 ∧ (decQ l).2.1 < l.length then 4 else (decQ l).2.2
def decH (l : List UInt8) : HV := ⟨(decA l).1, (decB l).1, (decC l).1, (decQ l).1⟩
def decV (l : List UInt8) : HV × Nat := if decE l = 0 then (if (decH l).may = true then (decH l, 0) else (HV.zero, 4)) else (HV.zero, decE l)
theorem may_first {h : HV} (hm : h.may = true) : 1 ≤ h.gen ∧ h.gen ≤ 1099511627776 ∧ 0 ≤ h.base ∧ h.base ≤ 1099511627776 ∧ h.log ≠ [] ∧ ¬ (h.snap = 0 ∧ 0 < h.base) := by
  unfold HV.may HV.first at hm
  rw [Bool.and_eq_true, decide_eq_true_eq] at hm
  exact hm.1
theorem may_tapes {h : HV} (hm : h.may = true) : (0 ≤ h.snap ∧ h.snap < 32) ∧ ∀ t ∈ h.log, 2 ≤ t ∧ t < 32 := by
  unfold HV.may at hm
  rw [Bool.and_eq_true] at hm
  obtain ⟨h1, _⟩ := (mayT_iff _ _).1 hm.2
  unfold HV.tapes at h1
  by_cases h0 : h.snap = 0
  · rw [if_pos h0] at h1
    exact ⟨by omega, fun t ht => ⟨(h1 t ht).1, (h1 t ht).2.1⟩⟩
  · rw [if_neg h0] at h1
    have := h1 _ (List.mem_cons_self ..)
    exact ⟨by omega, fun t ht => ⟨(h1 t (List.mem_cons_of_mem _ ht)).1, (h1 t (List.mem_cons_of_mem _ ht)).2.1⟩⟩
theorem dec_enc {h : HV} (hm : h.may = true) : decV h.enc = (h, 0) := by
  obtain ⟨g1, g2, b1, b2, _, _⟩ := may_first hm
  obtain ⟨⟨s1, s2⟩, ht⟩ := may_tapes hm
  have hn := (HV.few hm).2
  have hA : decA h.enc = (h.gen.toNat, (vb h.gen.toNat).length, 0) := by
    have := rV_put [] (vb h.base.toNat ++ (vb h.snap.toNat ++ (vb h.log.length ++ logB h.log))) (n := h.gen.toNat) (most := 1099511627776) (by omega) (by decide)
    simpa [decA, HV.enc] using this
  have hB : decB h.enc = (h.base.toNat, (vb h.gen.toNat ++ vb h.base.toNat).length, 0) := by
    have := rV_put (vb h.gen.toNat) (vb h.snap.toNat ++ (vb h.log.length ++ logB h.log)) (n := h.base.toNat) (most := 1099511627776) (by omega) (by decide)
    unfold decB
    rw [hA]
    simpa [HV.enc] using this
  have hC : decC h.enc = (h.snap.toNat, (vb h.gen.toNat ++ vb h.base.toNat ++ vb h.snap.toNat).length, 0) := by
    have := rV_put (vb h.gen.toNat ++ vb h.base.toNat) (vb h.log.length ++ logB h.log) (n := h.snap.toNat) (most := 31) (by omega) (by decide)
    unfold decC
    rw [hB]
    simpa [HV.enc, Nat.add_assoc] using this
  have hD : decD h.enc = (h.log.length, (vb h.gen.toNat ++ vb h.base.toNat ++ vb h.snap.toNat ++ vb h.log.length).length, 0) := by
    have := rV_put (vb h.gen.toNat ++ vb h.base.toNat ++ vb h.snap.toNat) (logB h.log) (n := h.log.length) (most := 31) (by omega) (by decide)
    unfold decD
    rw [hC]
    simpa [HV.enc, Nat.add_assoc] using this
  have hQ : decQ h.enc = (h.log, h.enc.length, 0) := by
    have := readN_put [] h.log (vb h.gen.toNat ++ vb h.base.toNat ++ vb h.snap.toNat ++ vb h.log.length) (fun t hx => by have := ht t hx; omega)
    unfold decQ
    rw [hD]
    simpa [HV.enc, Nat.add_assoc] using this
  have hE : decE h.enc = 0 := by unfold decE; rw [hQ, if_neg (by simp)]
  have hH : decH h.enc = h := by
    obtain ⟨hg, hb, hs, hl⟩ := h
    unfold decH
    rw [hA, hB, hC, hQ]
    simp only [HV.mk.injEq, and_true]
    exact ⟨by simp only [] at g1; omega, by simp only [] at b1; omega, by simp only [] at s1; omega⟩
  unfold decV
  rw [if_pos hE, hH, if_pos hm]
theorem dec_may {l : List UInt8} {h : HV} (hd : decV l = (h, 0)) : h.may = true ∧ h.enc.length ≤ l.length := by
  unfold decV at hd
  by_cases hE : decE l = 0
  · rw [if_pos hE] at hd
    by_cases hm : (decH l).may = true
    · rw [if_pos hm] at hd
      obtain rfl := (Prod.mk.inj hd).1
      refine ⟨hm, ?_⟩
      unfold decE at hE
      have h0 : (decQ l).2.2 = 0 := by
        split at hE
        · omega
        · exact hE
      have lA : (decA l).2.1 ≤ l.length := rV_le l 0 0 _ (Nat.zero_le _)
      have lB : (decB l).2.1 ≤ l.length := rV_le l _ _ _ lA
      have lC : (decC l).2.1 ≤ l.length := rV_le l _ _ _ lB
      have lD : (decD l).2.1 ≤ l.length := rV_le l _ _ _ lC
      obtain ⟨q1, q2, q3⟩ := readN_least l _ _ _ lD h0
      obtain ⟨d1, d2, d3, _⟩ := rV_least l _ _ 31 lC q1
      obtain ⟨c1, c2, c3, _⟩ := rV_least l _ _ 31 lB d1
      obtain ⟨b1, b2, b3, _⟩ := rV_least l _ _ 1099511627776 lA c1
      obtain ⟨_, a2, a3, _⟩ := rV_least l 0 0 1099511627776 (Nat.zero_le _) b1
      have hl : (decQ l).1.length = (decD l).1 := readN_len l _ _ _
      change (decQ l).2.1 ≤ l.length at q3
      change _ + (logB (decQ l).1).length ≤ (decQ l).2.1 at q2
      change _ + (vb (decD l).1).length ≤ (decD l).2.1 at d3
      change _ + (vb (decC l).1).length ≤ (decC l).2.1 at c3
      change _ + (vb (decB l).1).length ≤ (decB l).2.1 at b3
      change _ + (vb (decA l).1).length ≤ (decA l).2.1 at a3
      unfold HV.enc decH
      simp only [List.length_append, Int.toNat_natCast, hl]
      omega
    · rw [if_neg hm] at hd
      simp at hd
  · rw [if_neg hE] at hd
    exact absurd (Prod.mk.inj hd).2 hE
theorem dec_no {l : List UInt8} {h : HV} {e : Nat} (hd : decV l = (h, e)) (he : e ≠ 0) : h = HV.zero := by
  unfold decV at hd
  split at hd
  · split at hd
    · exact absurd (Prod.mk.inj hd).2.symm he
    · exact (Prod.mk.inj hd).1.symm
  · exact (Prod.mk.inj hd).1.symm
end Go.Proofs.YtjpkncfmionieaaDoor.Hd
