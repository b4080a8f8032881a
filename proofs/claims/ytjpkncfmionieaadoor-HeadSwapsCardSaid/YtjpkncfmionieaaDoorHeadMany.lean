/- The walk of many: tapes that are few enough. -/
import Derived.Test.YtjpkncfmionieaaDoorHeadOpen
namespace Go.Proofs.YtjpkncfmionieaaDoor
open Go.RowKit
set_option linter.unusedVariables false

def costM (f : Nat → ByteArray × ByteArray) : Nat → Nat
  | 0 => 0
  | k + 1 => costM f k + (10 + min (f k).1.size 10000 + min (f k).2.size 10000)
theorem costM_mono (f : Nat → ByteArray × ByteArray) {a b : Nat} (h : a ≤ b) : costM f a ≤ costM f b := by
  induction b with
  | zero => obtain rfl : a = 0 := by omega
            exact Nat.le_refl _
  | succ b ih =>
    by_cases e : a = b + 1
    · subst e; exact Nat.le_refl _
    · have := ih (by omega)
      show _ ≤ costM f b + _
      omega
theorem small_tapeM (f : Nat → ByteArray × ByteArray) (n i : Nat) (h : costM f n < 10000) (hi : i < n) : (f i).1.size < 10000 ∧ (f i).2.size < 10000 := by
  have h1 := costM_mono f (show i + 1 ≤ n by omega)
  have h2 : costM f (i + 1) = costM f i + (10 + min (f i).1.size 10000 + min (f i).2.size 10000) := rfl
  omega
theorem TapesAt.smallM {w : World} {ao : Option Addr} {len : Nat} {f : Nat → ByteArray × ByteArray} (h : TapesAt w ao len f) (hc : costM f len < 10000) : TapesIn w ao len f := fun W hW i hi => by
  obtain ⟨a, h1, h2, h3, h4, h5⟩ := h W hW i hi
  have := small_tapeM f len i hc hi
  exact ⟨a, h1, by omega, by omega, h4, h5⟩
set_option maxRecDepth 20000 in
set_option maxHeartbeats 2000000 in
theorem many_any (ao : Option Addr) (len cap : Nat) (f : Nat → ByteArray × ByteArray) (w : World) (hl : len ≤ maxLen) (hf : TapesAt w ao len f) :
    Calls Tryd.prog 22 #[.slice ao len cap] w fun e w' => e = .returned (.bool (decide (10000 ≤ costM f len))) ∧ ∃ m, w' = w.drewN m := by
  unfold maxLen at hl
  have HF := Kp.mk (hf w (Below.refl _ _))
  clear hf
  go_enter Tryd.func22, Tryd.ntmps22
  go_wp2
  go_loopw [3, 4] (fun n i wr => ∃ j m : Nat, j ≤ len ∧ i = .int .i64 j ∧ n = .int .i64 (costM f j) ∧ costM f j < 30100 ∧ wr = w.drewN m) (fun _ i _ => len - (intOf i).toNat)
  case atStart => exact ⟨0, 0, by omega, rfl, rfl, (by show (0 : Nat) < 30100; decide), rfl⟩
  case round =>
    obtain ⟨j, me, hj, rfl, rfl, hc2, rfl⟩ := hrel
    by_cases hgo2 : j < len ∧ costM f j < 10000
    · obtain ⟨hjl, h6⟩ := hgo2
      obtain ⟨a, rfl, hs, ht, c0, c1⟩ := HF.out j hjl
      unfold maxLen at hs ht
      have HC2 : Kp (costM f (j + 1) = costM f j + (10 + min (f j).1.size 10000 + min (f j).2.size 10000)) := ⟨rfl⟩
      have t1 : decide ((costM f j : Int) < 10000) = true := by rw [decide_eq_true_eq]; omega
      have t1' : decide (costM f j < 10000) = true := by rw [decide_eq_true_eq]; omega
      generalize f j = q at c0 c1 hs ht HC2
      obtain ⟨qs, ql⟩ := q
      simp only [] at c0 c1 hs ht HC2
      generalize costM f j = E at h6 hc2 HC2 t1 t1' ⊢
      obtain ⟨m1, hm1⟩ : ∃ m, min qs.size 10000 = m := ⟨_, rfl⟩
      obtain ⟨m2, hm2⟩ : ∃ m, min ql.size 10000 = m := ⟨_, rfl⟩
      have hmin1 : min (qs.size : Int) 10000 = (m1 : Int) := by omega
      have hmin2 : min (ql.size : Int) 10000 = (m2 : Int) := by omega
      have hb1 : m1 ≤ 10000 := by omega
      have hb2 : m2 ≤ 10000 := by omega
      have HM : Kp (∀ z m : Nat, min z 10000 = m → (if (10000 : Int) < (z : Int) then (10000 : Int) else (z : Int)) = (m : Int)) := ⟨fun z m e => by split <;> omega⟩
      have HM1 := Kp.mk (HM.out _ m1 hm1)
      have HM2 := Kp.mk (HM.out _ m2 hm2)
      rw [hm1, hm2] at HC2
      clear hm1 hm2 HM
      have hk0 : (0 : Int) ≤ (j : Int) := by omega
      have hk1 : (j : Int) < (len : Int) := by omega
      have n1 : IntKind.i64.wrap ((E : Int) + 10) = ((E + 10 : Nat) : Int) := by rw [IntKind.wrap_i64]; omega
      have n5 : IntKind.i64.wrap (((E + 10 : Nat) : Int) + (m1 : Int)) = ((E + 10 + m1 : Nat) : Int) := by rw [IntKind.wrap_i64]; omega
      have n6 : IntKind.i64.wrap (((E + 10 + m1 : Nat) : Int) + (m2 : Int)) = ((E + 10 + m1 + m2 : Nat) : Int) := by rw [IntKind.wrap_i64]; omega
      go_wp2_with fail
      go_quiet (fail)
      clear n1 n5 n6
      go_wp2
      go_roundw
      case rel => exact ⟨j + 1, _, by omega, by go_num, by rw [HC2.out, HM1.out, HM2.out]; go_num, by rw [HC2.out]; omega, rfl⟩
      case measure => simp [intOf]; omega
    · by_cases hjl : j < len
      · have h6 : ¬ costM f j < 10000 := fun h => hgo2 ⟨hjl, h⟩
        have t1 : decide ((costM f j : Int) < 10000) = false := by rw [decide_eq_false_iff_not]; omega
        have t1' : decide (costM f j < 10000) = false := by rw [decide_eq_false_iff_not]; omega
        have t2 : decide ((10000 : Int) ≤ (costM f j : Int)) = true := by rw [decide_eq_true_eq]; omega
        have t2' : decide (10000 ≤ costM f j) = true := by rw [decide_eq_true_eq]; omega
        have HV : Kp (decide (10000 ≤ costM f len) = true) := ⟨decide_eq_true (by have := costM_mono f hj; omega)⟩
        go_wp2
        go_ret
        exact ⟨ret_bool HV.out.symm, _, rfl⟩
      · obtain rfl : j = len := by omega
        have HV : Kp (decide (10000 ≤ costM f j) = decide ((10000 : Int) ≤ (costM f j : Int))) := ⟨by rw [Bool.eq_iff_iff, decide_eq_true_eq, decide_eq_true_eq]; omega⟩
        go_wp2
        go_ret
        exact ⟨ret_bool (by first | exact HV.out.symm | rfl | simp), _, rfl⟩
end Go.Proofs.YtjpkncfmionieaaDoor
