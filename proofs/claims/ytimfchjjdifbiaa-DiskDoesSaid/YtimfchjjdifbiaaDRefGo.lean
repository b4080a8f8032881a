/- The reference's disk: wrong, turn, Used, Read, Fail. -/
import Derived.Test.YtimfchjjdifbiaaDRefAt
import Derived.BigRegion
namespace Go.Proofs.Ytimfchjjdifbiaa
open Go.RowKit
set_option linter.unusedVariables false

/-- What holds of the reference's disk, so that nothing wraps. -/
structure OkR (R : RefV) : Prop where
  most : ∀ k, k < 32 → (R.t k).1.size + (R.t k).2.size ≤ 1048576
  left : -1 ≤ R.left
  left2 : R.left ≤ 9223372036854775807
  cap : 0 ≤ R.cap
  cap2 : R.cap ≤ 9223372036854775807
theorem usedR_le {f : Nat → ByteArray × ByteArray} (h : ∀ k, k < 32 → (f k).1.size + (f k).2.size ≤ 1048576) : ∀ k, k ≤ 32 → usedR f k ≤ k * 1048576
  | 0, _ => by simp [usedR]
  | k + 1, hk => by
    have := usedR_le h k (by omega)
    have := h k (by omega)
    rw [usedR]; omega
theorem rwrong_any (g q cp : Nat) (R : RefV) (t : Int) (w : World) (h : RDAt w g q cp R) :
    Calls Try.prog 47 #[.pointer (some ⟨g, 0, none⟩), .int .i64 t] w fun e w' => e = .returned (.int .i64 (wrongR R t)) ∧ w = w' := by
  have k2 := h.c2
  by_cases hd : R.dark = true
  · have hV : Kp (wrongR R t = 45) := ⟨by unfold wrongR; rw [if_pos hd]⟩
    rw [hd] at k2
    clear h hd
    go_enter Try.func47, Try.ntmps47
    go_wp2
    go_ret
    exact ⟨by rw [hV.out] <;> rfl, rfl⟩
  · have hd' : R.dark = false := by simpa using hd
    rw [hd'] at k2
    by_cases h0 : t < 0
    · have hV : Kp (wrongR R t = 1) := ⟨by unfold wrongR; rw [if_neg hd, if_pos (.inl h0)]⟩
      have p1 : decide (t < 0) = true := by rw [decide_eq_true_eq]; exact h0
      clear h hd hd'
      go_enter Try.func47, Try.ntmps47
      go_wp2
      go_ret
      exact ⟨by rw [hV.out] <;> rfl, rfl⟩
    · have p1 : decide (t < 0) = false := by rw [decide_eq_false_iff_not]; exact h0
      by_cases h1 : (32 : Int) ≤ t
      · have hV : Kp (wrongR R t = 1) := ⟨by unfold wrongR; rw [if_neg hd, if_pos (.inr h1)]⟩
        have p2 : decide ((32 : Int) ≤ t) = true := by rw [decide_eq_true_eq]; exact h1
        clear h hd hd'
        go_enter Try.func47, Try.ntmps47
        go_wp2
        go_ret
        exact ⟨by rw [hV.out] <;> rfl, rfl⟩
      · have hV : Kp (wrongR R t = 0) := ⟨by unfold wrongR; rw [if_neg hd, if_neg (by omega)]⟩
        have p2 : decide ((32 : Int) ≤ t) = false := by rw [decide_eq_false_iff_not]; exact h1
        clear h hd hd'
        go_enter Try.func47, Try.ntmps47
        go_wp2
        go_ret
        exact ⟨by rw [hV.out] <;> rfl, rfl⟩
theorem rturn_any (g q cp : Nat) (R : RefV) (w : World) (h : RDAt w g q cp R) (ho : OkR R) :
    Calls Try.prog 48 #[.pointer (some ⟨g, 0, none⟩)] w fun e w' => e = .returned (.bool (turnR R).1) ∧ RDAt w' g q cp (turnR R).2 ∧ Chg2 w w' g q := by
  have k3 := h.c3
  have k2 := h.c2
  have l1 := ho.left
  have l2 := ho.left2
  have f2 := h.free 2
  have f3 := h.free 3
  by_cases h0 : R.left < 0
  · have hV : Kp (turnR R = (true, R)) := ⟨by unfold turnR; rw [if_pos h0]⟩
    have H := Kp.mk h
    have p1 : decide (R.left < 0) = true := by rw [decide_eq_true_eq]; exact h0
    clear h ho
    generalize R.left = l at *
    go_enter Try.func48, Try.ntmps48
    go_wp2
    go_ret
    exact ⟨by rw [hV.out] <;> rfl, by rw [hV.out]; exact H.out, Chg2.refl _ _ _⟩
  · have p1 : decide (R.left < 0) = false := by rw [decide_eq_false_iff_not]; exact h0
    by_cases h1 : R.left = 0
    · have hV : Kp (turnR R = (false, { R with dark := true })) := ⟨by unfold turnR; rw [if_neg h0, if_pos h1]⟩
      have H := Kp.mk (h.set_dark true)
      rw [h1] at k3
      clear h ho p1
      go_enter Try.func48, Try.ntmps48
      go_wp2
      go_ret
      exact ⟨by rw [hV.out] <;> rfl, by rw [hV.out]; exact H.out, Chg2.setg _ _ _ _ _⟩
    · have hV : Kp (turnR R = (true, { R with left := R.left - 1 })) := ⟨by unfold turnR; rw [if_neg h0, if_neg h1]⟩
      have p2 : (R.left == 0) = false := by rw [beq_eq_false_iff_ne]; exact h1
      have H := Kp.mk (h.set_left (R.left - 1))
      clear h ho
      generalize R.left = l at *
      have n1 : IntKind.i64.wrap (l - 1) = l - 1 := by rw [IntKind.wrap_i64]; omega
      go_enter Try.func48, Try.ntmps48
      go_wp2
      go_ret
      exact ⟨by rw [hV.out] <;> rfl, by rw [hV.out]; exact H.out, Chg2.setg _ _ _ _ _⟩
theorem rFail_any (g q cp : Nat) (R : RefV) (n : Int) (w : World) (h : RDAt w g q cp R) :
    Calls Try.prog 34 #[.pointer (some ⟨g, 0, none⟩), .int .i64 n] w fun e w' => e = .returned (.int .i64 (failR R n).1) ∧ RDAt w' g q cp (failR R n).2 ∧ Chg2 w w' g q := by
  have k2 := h.c2
  have k3 := h.c3
  have f3 := h.free 3
  by_cases hd : R.dark = true
  · have hV : Kp (failR R n = (45, R)) := ⟨by unfold failR; rw [if_pos hd]⟩
    rw [hd] at k2
    have H := Kp.mk h
    clear h hd
    go_enter Try.func34, Try.ntmps34
    go_wp2
    go_ret
    exact ⟨by rw [hV.out] <;> rfl, by rw [hV.out]; exact H.out, Chg2.refl _ _ _⟩
  · have hd' : R.dark = false := by simpa using hd
    rw [hd'] at k2
    by_cases h0 : n < 0
    · have hV : Kp (failR R n = (1, R)) := ⟨by unfold failR; rw [if_neg hd, if_pos h0]⟩
      have p1 : decide (n < 0) = true := by rw [decide_eq_true_eq]; exact h0
      have H := Kp.mk h
      clear h hd hd'
      go_enter Try.func34, Try.ntmps34
      go_wp2
      go_ret
      exact ⟨by rw [hV.out] <;> rfl, by rw [hV.out]; exact H.out, Chg2.refl _ _ _⟩
    · have hV : Kp (failR R n = (0, { R with left := n })) := ⟨by unfold failR; rw [if_neg hd, if_neg h0]⟩
      have p1 : decide (n < 0) = false := by rw [decide_eq_false_iff_not]; exact h0
      have H := Kp.mk (h.set_left n)
      clear h hd hd'
      go_enter Try.func34, Try.ntmps34
      go_wp2
      go_ret
      exact ⟨by rw [hV.out] <;> rfl, by rw [hV.out]; exact H.out, Chg2.setg _ _ _ _ _⟩
set_option maxRecDepth 20000 in
theorem rUsed_any (g q cp : Nat) (R : RefV) (w : World) (h : RDAt w g q cp R) (hm : ∀ k, k < 32 → (R.t k).1.size + (R.t k).2.size ≤ 1048576) :
    Calls Try.prog 14 #[.pointer (some ⟨g, 0, none⟩)] w fun e w' => e = .returned (.int .i64 (usedR R.t 32)) ∧ ∃ n, w' = w.drewN n := by
  have k0 := h.c0
  have HA := Kp.mk h.a1
  have HB := Kp.mk h.a2
  have HM := Kp.mk hm
  have HU := Kp.mk (usedR_le hm)
  clear hm h
  go_enter Try.func14, Try.ntmps14
  go_wp2
  go_loopw [3, 4] (fun n i wr => ∃ (k m : Nat), i = .int .i64 k ∧ k ≤ 32 ∧ n = .int .i64 (usedR R.t k) ∧ wr = w.drewN m) (fun _ i _ => 32 - (intOf i).toNat)
  case atStart => exact ⟨0, 0, rfl, by omega, rfl, rfl⟩
  case round =>
    obtain ⟨k, m, rfl, hk, rfl, rfl⟩ := hrel
    by_cases hk2 : k < 32
    · have h1 := HU.out k hk
      have h2 := HM.out k hk2
      have h3 : Kp (usedR R.t (k + 1) = usedR R.t k + (R.t k).1.size + (R.t k).2.size) := ⟨rfl⟩
      have a1 := HA.out k hk2
      have a2 := HB.out k hk2
      generalize R.t k = p at h2 h3 a1 a2
      obtain ⟨x, y⟩ := p
      simp only [] at h2 h3 a1 a2
      have i1 : (0 : Int) ≤ (k : Int) := by omega
      have i2 : (k : Int) < 32 := by omega
      generalize usedR R.t k = U at h1 h3 ⊢
      have n1 : IntKind.i64.wrap ((U : Int) + (x.size : Int)) = ((U + x.size : Nat) : Int) := by rw [IntKind.wrap_i64]; omega
      have n2 : IntKind.i64.wrap (((U + x.size : Nat) : Int) + (y.size : Int)) = ((U + x.size + y.size : Nat) : Int) := by rw [IntKind.wrap_i64]; omega
      go_wp2_with fail
      go_quiet (fail)
      clear n1 n2
      go_wp2
      go_roundw
      case rel => exact ⟨k + 1, _, by go_num, by omega, by rw [h3.out]; go_num, rfl⟩
      case measure => simp [intOf]; omega
    · obtain rfl : k = 32 := by omega
      go_wp2
      go_ret
      exact ⟨rfl, _, rfl⟩
theorem wrongR_cases (R : RefV) (t : Int) : wrongR R t = 0 ∨ wrongR R t = 1 ∨ wrongR R t = 45 := by
  unfold wrongR
  split
  · exact .inr (.inr rfl)
  · split
    · exact .inr (.inl rfl)
    · exact .inl rfl
set_option maxRecDepth 20000 in
theorem rRead_any (g q cp : Nat) (R : RefV) (t : Int) (w : World) (h : RDAt w g q cp R) (ho : OkR R) :
    Calls Try.prog 33 #[.pointer (some ⟨g, 0, none⟩), .int .i64 t] w fun e w' => e = .returned (.tuple #[.string (readR R t).1, .int .i64 (readR R t).2]) ∧ ∃ n, w' = w.drewN n := by
  have HW := Kp.mk (rwrong_any g q cp R t w h)
  by_cases hw : wrongR R t = 0
  · have hV : Kp (readR R t = (bothR R t, 0)) := ⟨by unfold readR; rw [if_pos hw]⟩
    obtain ⟨k, rfl, hk⟩ := wrongR_in hw
    have HB : Kp (bothR R k = (R.t k).1 ++ (R.t k).2) := ⟨by unfold bothR; rw [Int.toNat_natCast]⟩
    have k0 := h.c0
    have a1 := h.a1 k hk
    have a2 := h.a2 k hk
    have hm := ho.most k hk
    rw [hw] at HW
    generalize R.t k = p at hm HB a1 a2
    obtain ⟨x, y⟩ := p
    simp only [] at hm HB a1 a2
    have i1 : (0 : Int) ≤ (k : Int) := by omega
    have i2 : (k : Int) < 32 := by omega
    have hcat : ¬ 9223372036854775807 < x.size + y.size := by omega
    clear h ho hw
    go_enter Try.func33, Try.ntmps33
    go_wp2_with fail
    refine HW.out.mono ?_
    rintro e w1 ⟨rfl, rfl⟩
    go_wp2_with fail
    go_quiet (fail)
    go_wp2
    go_ret2
    exact ⟨by rw [hV.out, HB.out] <;> rfl, _, rfl⟩
  · have hV : Kp (readR R t = (⟨#[]⟩, wrongR R t)) := ⟨by unfold readR; rw [if_neg hw]⟩
    have p1 : (wrongR R t == 0) = false := by rw [beq_eq_false_iff_ne]; exact hw
    clear h ho hw
    generalize wrongR R t = e1 at *
    go_enter Try.func33, Try.ntmps33
    go_wp2_with fail
    refine HW.out.mono ?_
    rintro e w1 ⟨rfl, rfl⟩
    go_wp2
    go_ret2
    exact ⟨by rw [hV.out] <;> rfl, 0, rfl⟩
end Go.Proofs.Ytimfchjjdifbiaa
