/- One, the reference's Make, Scan, One; the laws' same, made. -/
import Derived.Test.YtdclfffjiokenaaDoorScan
import Derived.Test.YtdclfffjiokenaaDoorFrameRef
namespace Go.Proofs.YtdclfffjiokenaaDoor
open Go.RowKit
set_option linter.unusedVariables false

set_option maxRecDepth 20000 in
theorem refMake_any (k : Nat) (s : ByteArray) (w : World) (hk : k < 256) (hs : s.size ≤ 140737488351000) :
    Calls Tryd.prog 18 #[.int .u8 k, .string s] w fun e w' => e = makeE k s ∧ Below w.heap.size w w' := by
  by_cases h0 : k < 1 ∨ 3 < k
  · have HV : Kp (makeE k s = .returned (.tuple #[.string ⟨#[]⟩, .int .i64 (1 : Nat)])) := ⟨by unfold makeE makeV; rw [if_pos h0]⟩
    by_cases h1 : k < 1
    · have t1 : decide ((k : Int) < 1) = true := by rw [decide_eq_true_eq]; omega
      go_enter Tryd.func18, Tryd.ntmps18
      go_wp2
      go_ret2
      exact ⟨HV.out.symm, Below.refl _ _⟩
    · have t1 : decide ((k : Int) < 1) = false := by rw [decide_eq_false_iff_not]; omega
      have t2 : decide (3 < (k : Int)) = true := by rw [decide_eq_true_eq]; omega
      go_enter Tryd.func18, Tryd.ntmps18
      go_wp2
      go_ret2
      exact ⟨HV.out.symm, Below.refl _ _⟩
  · have t1 : decide ((k : Int) < 1) = false := by rw [decide_eq_false_iff_not]; omega
    have t2 : decide (3 < (k : Int)) = false := by rw [decide_eq_false_iff_not]; omega
    by_cases hb : 262144 < s.size
    · have HV : Kp (makeE k s = .returned (.tuple #[.string ⟨#[]⟩, .int .i64 (40 : Nat)])) := ⟨by unfold makeE makeV; rw [if_neg h0, if_pos hb]⟩
      go_enter Tryd.func18, Tryd.ntmps18
      go_wp2
      go_ret2
      exact ⟨HV.out.symm, Below.refl _ _⟩
    · have HV : Kp (makeE k s = .returned (.tuple #[.string (B (Fr.fr (UInt8.ofNat k) s.data.toList)), .int .i64 (0 : Nat)])) := ⟨by unfold makeE makeV; rw [if_neg h0, if_neg hb]⟩
      have HKB : Kp ((k : Int) = ((UInt8.ofNat k).toNat : Int)) := ⟨by rw [Fr.toNat_ofNat' hk]⟩
      have HFR : Kp (Fr.fr (UInt8.ofNat k) s.data.toList = (Var.fb 4 s.size ++ Var.fb 4 (Fr.sumL (UInt8.ofNat k :: s.data.toList))) ++ (UInt8.ofNat k :: s.data.toList)) := ⟨by simp [Fr.fr]⟩
      rw [HKB.out] at t1 t2
      generalize UInt8.ofNat k = b at HV HKB HFR t1 t2
      have hconv := one_text w b
      have HO := Kp.mk (fun w => refOf_any (⟨#[b]⟩ ++ s) w (by rw [ByteArray.size_append]; show 1 + s.size ≤ _; omega))
      rw [cons_text, B_list] at HO
      have hcl : Crc.crc (b :: s.data.toList) < 4294967296 := Crc.crc_lt (b :: s.data.toList)
      have HM : Kp (∀ w, Calls Tryd.prog 39 #[.int .u32 (Crc.crc (b :: s.data.toList) : Nat)] w fun e w' => e = .returned (.int .u32 (Fr.sumL (b :: s.data.toList) : Nat)) ∧ w = w') := ⟨fun w => refMask_any _ w hcl⟩
      have hml := Fr.sumL_lt (b :: s.data.toList)
      have hcat := cons_text b s
      have hB : Kp ((B (b :: s.data.toList)).data.toList = b :: s.data.toList) := ⟨B_list _⟩
      have hS : Kp ((B (b :: s.data.toList)).size = s.size + 1) := ⟨by rw [B_size]; simp⟩
      have HF1 := Kp.mk (fun w => refFixed_any s.size 4 w (by omega) (by decide))
      have HF2 := Kp.mk (fun w => refFixed_any (Fr.sumL (b :: s.data.toList)) 4 w (by omega) (by decide))
      have HB3 : Kp (B (Var.fb 4 s.size) ++ B (Var.fb 4 (Fr.sumL (b :: s.data.toList))) ++ B (b :: s.data.toList) = B (Fr.fr b s.data.toList)) := ⟨by
        rw [HFR.out, B_append, B_append]⟩
      have hz1 : (B (Var.fb 4 s.size)).size = 4 := by rw [B_size, Var.fb_length]
      have hz2 : (B (Var.fb 4 (Fr.sumL (b :: s.data.toList)))).size = 4 := by rw [B_size, Var.fb_length]
      generalize Crc.crc (b :: s.data.toList) = c at HO HM hcl
      generalize B (Var.fb 4 s.size) = A1 at HF1 HB3 hz1
      generalize B (Var.fb 4 (Fr.sumL (b :: s.data.toList))) = A2 at HF2 HB3 hz2
      generalize Fr.sumL (b :: s.data.toList) = m at HM hml HF2 HFR
      generalize B (b :: s.data.toList) = body at HO hcat hB hS HB3
      clear HFR
      have hsz := hS.out
      rw [HKB.out]
      go_enter Tryd.func18, Tryd.ntmps18
      go_wp2_with fail
      refine (HF1.out _).mono ?_
      rintro e w1 ⟨rfl, b1⟩
      have B1 := Kp.mk (((Below.refl _ w).alloc (Nat.le_refl _) _).trans (b1.mono (by simp)))
      clear b1
      go_wp2_with fail
      refine (HO.out _).mono ?_
      rintro e w' ⟨rfl, rfl⟩
      go_wp2_with fail
      refine (HM.out _).mono ?_
      rintro e w' ⟨rfl, rfl⟩
      go_wp2_with fail
      refine (HF2.out _).mono ?_
      rintro e w2 ⟨rfl, b2⟩
      have B2 := Kp.mk (B1.out.trans (b2.mono B1.out.size))
      clear b2
      go_wp2_with fail
      go_ret2
      exact ⟨by rw [HV.out, ← HB3.out]; rfl, B2.out⟩
theorem same_of (k : Nat) (p : List UInt8) (a : Int) (k' : Nat) (p' : List UInt8) (a' : Int) (w : World) (hk : k < 256) (hk' : k' < 256) :
    Calls Tryd.prog 22 #[.agg #[.int .u8 k, .string (B p), .int .i64 a], .agg #[.int .u8 k', .string (B p'), .int .i64 a']] w fun e w' => e = .returned (.bool (decide (k = k') && (decide (p = p') && decide (a = a')))) ∧ Below w.heap.size w w' := by
  by_cases e1 : k = k'
  · subst e1
    by_cases e2 : p = p'
    · subst e2
      go_enter Tryd.func22, Tryd.ntmps22
      go_wp2
      go_ret
      exact ⟨by simp <;> rfl, ((Below.refl _ w).alloc (Nat.le_refl _) _).alloc (by simp) _⟩
    · have b2 : ((B p).toList == (B p').toList) = false := by rw [bytes_toList, bytes_toList, B_list, B_list]; simp [e2]
      have b4 : decide (p = p') = false := by simp [e2]
      go_enter Tryd.func22, Tryd.ntmps22
      go_wp2
      go_ret
      exact ⟨by simp [e2], ((Below.refl _ w).alloc (Nat.le_refl _) _).alloc (by simp) _⟩
  · have b1 : ((k : Int) == (k' : Int)) = false := by simp <;> omega
    have b3 : decide (k = k') = false := by simp [e1]
    go_enter Tryd.func22, Tryd.ntmps22
    go_wp2
    go_ret
    exact ⟨by simp [e1], ((Below.refl _ w).alloc (Nat.le_refl _) _).alloc (by simp) _⟩
theorem made_any (k : Nat) (s : ByteArray) (w : World) (hk : k < 256) (hs : s.size ≤ 140737488351000) (ht : Tab w) :
    Calls Tryd.prog 26 #[.int .u8 k, .string s] w fun e w' => e = .returned (.string (makeV k s).1) ∧ Below w.heap.size w w' := by
  have HM := Kp.mk (Make_any k s w hk hs ht)
  unfold makeE at HM
  generalize makeV k s = r at HM
  obtain ⟨r1, r2⟩ := r
  go_enter Tryd.func26, Tryd.ntmps26
  go_wp2_with fail
  refine HM.out.mono ?_
  rintro e w1 ⟨rfl, hb⟩
  have HB := Kp.mk hb
  clear hb
  go_wp2
  go_ret
  exact ⟨rfl, HB.out⟩
end Go.Proofs.YtdclfffjiokenaaDoor
