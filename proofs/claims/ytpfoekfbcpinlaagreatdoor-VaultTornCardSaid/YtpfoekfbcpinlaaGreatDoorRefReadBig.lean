/- The reference's Read, of a text as long as may be. -/
import Derived.Test.YtpfoekfbcpinlaaGreatDoorVaultLarge
import Derived.Deep.RegionWith
namespace Go.Proofs.YtpfoekfbcpinlaaGreatDoor
open Go.RowKit
set_option linter.unusedVariables false

set_option maxRecDepth 20000 in
theorem numberB_any (s : ByteArray) (a : Nat) (w : World) (hs : s.size ≤ 9223372036854775807) (h : a + 4 ≤ s.size) :
    Calls Tryz.prog 41 #[.string s, .int .i64 a] w fun e w' => e = .returned (.int .u64 (Var.fv ((s.data.toList.drop a).take 4) : Nat)) ∧ w = w' := by
  have hq := quad_len s a h
  have hg := quad_get s a
  generalize (s.data.toList.drop a).take 4 = q at hq hg
  go_enter Tryz.func41, Tryz.ntmps41
  go_wp2
  go_loop [5, 6] (fun n i => ∃ k : Nat, k ≤ 4 ∧ i = .int .i64 ((k : Int) - 1) ∧ n = .int .u64 (Var.fv (q.drop k) : Nat)) (fun _ i => (intOf i + 1).toNat)
  case atStart => exact ⟨4, by omega, by go_num, by rw [List.drop_eq_nil_of_le (by omega)]; rfl⟩
  case round =>
    obtain ⟨k, hk, rfl, rfl⟩ := hrel
    cases k with
    | zero =>
      go_wp2
      go_ret
      exact ⟨rfl, rfl⟩
    | succ k =>
      have hcast : ((k + 1 : Nat) : Int) - 1 = (k : Int) := by omega
      have hf := Var.fv_lt (q.drop (k + 1))
      have hgk : q[k]'(by omega) = s[a + k]'(by omega) := by
        have := hg k h (by omega)
        rw [List.getElem?_eq_getElem (by omega)] at this
        exact Option.some.inj this
      have HV : Kp (Var.fv (q.drop k) = (s[a + k]'(by omega)).toNat + 256 * Var.fv (q.drop (k + 1))) := ⟨by
        rw [List.drop_eq_getElem_cons (show k < q.length by omega), Var.fv, hgk]⟩
      have hlen : (q.drop (k + 1)).length ≤ 3 := by simp; omega
      have hb : Var.fv (q.drop (k + 1)) * 256 < 4294967296 := by
        have := Nat.pow_le_pow_right (show 0 < 256 by decide) hlen
        omega
      generalize Var.fv (q.drop (k + 1)) = f at hf hb HV
      have hc := UInt8.toNat_lt (s[a + k]'(by omega))
      have i1 : (0 : Int) ≤ (a : Int) + (k : Int) := by omega
      have i2 : (a : Int) + (k : Int) < (s.size : Int) := by omega
      have i3 : ((a : Int) + (k : Int)).toNat = a + k := by omega
      have i4 : a + k < s.size := by omega
      clear hf hlen hgk hg
      rw [hcast]
      go_wp2
      exact ⟨⟨k, by omega, rfl, by rw [HV.out]; go_num⟩, by simp [intOf]⟩

set_option maxHeartbeats 2000000 in
set_option maxRecDepth 20000 in
theorem refReadB_out (s : ByteArray) (a : Int) (w : World) (hs : s.size ≤ 9223372036854775807) (h1 : -9223372036854775808 ≤ a) (h2 : a ≤ 9223372036854775807) (h0 : a < 0 ∨ (s.size : Int) < a) :
    Calls Tryz.prog 8 #[.string s, .int .i64 a] w fun e w' => e = Fr.readE s a ∧ Below w.heap.size w w' := by
  have HV : Kp (Fr.readE s a = Fr.badE 1) := ⟨Fr.readE_bad (by decide) (readV_out h0)⟩
  by_cases h00 : a < 0
  · have t1 : decide (a < 0) = true := by rw [decide_eq_true_eq]; exact h00
    go_enter Tryz.func8, Tryz.ntmps8
    go_wp2
    refine bodyPost_ret (v := .tuple #[.agg #[.int .u8 0, .string ⟨#[]⟩, .int .i64 0], .int .i64 0, .int .i64 1]) (by simp [results, Tryz.results8, go_sem]) rfl ?_
    exact ⟨HV.out.symm, (Below.refl _ w).alloc (Nat.le_refl _) _⟩
  · have t1 : decide (a < 0) = false := by rw [decide_eq_false_iff_not]; exact h00
    have t2 : decide ((s.size : Int) < a) = true := by rw [decide_eq_true_eq]; omega
    go_enter Tryz.func8, Tryz.ntmps8
    go_wp2
    refine bodyPost_ret (v := .tuple #[.agg #[.int .u8 0, .string ⟨#[]⟩, .int .i64 0], .int .i64 0, .int .i64 1]) (by simp [results, Tryz.results8, go_sem]) rfl ?_
    exact ⟨HV.out.symm, (Below.refl _ w).alloc (Nat.le_refl _) _⟩
set_option maxHeartbeats 2000000 in
set_option maxRecDepth 20000 in
theorem refReadB_small (s : ByteArray) (a : Int) (w : World) (hs : s.size ≤ 9223372036854775807) (h1 : -9223372036854775808 ≤ a) (h2 : a ≤ 9223372036854775807) (h0 : ¬ (a < 0 ∨ (s.size : Int) < a)) (h9 : (s.extract a.toNat s.size).data.toList.length < 9) :
    Calls Tryz.prog 8 #[.string s, .int .i64 a] w fun e w' => e = Fr.readE s a ∧ Below w.heap.size w w' := by
  have hlen : (s.extract a.toNat s.size).data.toList.length = s.size - a.toNat := by rw [data_len]; simp
  have t1 : decide (a < 0) = false := by rw [decide_eq_false_iff_not]; omega
  have t2 : decide ((s.size : Int) < a) = false := by rw [decide_eq_false_iff_not]; omega
  have HV : Kp (Fr.readE s a = Fr.badE 8) := ⟨Fr.readE_bad (by decide) (by rw [readV_in h0]; unfold Fr.readL; rw [if_pos h9])⟩
  have t3 : (s.size : Int) - a < 9 := by omega
  go_enter Tryz.func8, Tryz.ntmps8
  go_wp2
  refine bodyPost_ret (v := .tuple #[.agg #[.int .u8 0, .string ⟨#[]⟩, .int .i64 0], .int .i64 0, .int .i64 8]) (by simp [results, Tryz.results8, go_sem]) rfl ?_
  exact ⟨HV.out.symm, (Below.refl _ w).alloc (Nat.le_refl _) _⟩
set_option maxHeartbeats 2000000 in
set_option maxRecDepth 20000 in
theorem refReadB_in (s : ByteArray) (a : Int) (w : World) (hs : s.size ≤ 9223372036854775807) (h1 : -9223372036854775808 ≤ a) (h2 : a ≤ 9223372036854775807) (n : Nat) (ha : a = (n : Int)) (h0 : n + 9 ≤ s.size) :
    Calls Tryz.prog 8 #[.string s, .int .i64 a] w fun e w' => e = Fr.readE s a ∧ Below w.heap.size w w' := by
  subst ha
  have hRV : Fr.readV s n = Fr.readL (s.data.toList.drop n) := by rw [readV_in (by omega), Int.toNat_natCast, tail_list s n (by omega)]
  have hlen : (s.data.toList.drop n).length = s.size - n := by rw [List.length_drop, data_len]
  have h9 : ¬ (s.data.toList.drop n).length < 9 := by omega
  have t1 : decide ((n : Int) < 0) = false := by rw [decide_eq_false_iff_not]; omega
  have t2 : decide ((s.size : Int) < (n : Int)) = false := by rw [decide_eq_false_iff_not]; omega
  have t2' : decide (s.size < n) = false := by rw [decide_eq_false_iff_not]; omega
  have t3 : ¬ (s.size : Int) - (n : Int) < 9 := by omega
  have HN := Kp.mk (fun w => numberB_any s n w hs (by omega))
  have HN4 := Kp.mk (fun w => numberB_any s (n + 4) w hs (by omega))
  have hnl := Fr.num_lt (s.data.toList.drop n)
  have hml := Fr.msk_lt (s.data.toList.drop n)
  have HBT := Kp.mk (body_text s n h0)
  have HPT := Kp.mk (pay_text s n h0)
  have HKT := Kp.mk (kind_text s n h0)
  have HN : Kp (∀ w, Calls Tryz.prog 41 #[.string s, .int .i64 n] w fun e w' => e = .returned (.int .u64 (Fr.num (s.data.toList.drop n) : Nat)) ∧ w = w') := ⟨HN.out⟩
  have HN4 : Kp (∀ w, Calls Tryz.prog 41 #[.string s, .int .i64 ((n : Int) + 4)] w fun e w' => e = .returned (.int .u64 (Fr.msk (s.data.toList.drop n) : Nat)) ∧ w = w') := ⟨fun w => by
    have := HN4.out w
    rw [show s.data.toList.drop (n + 4) = (s.data.toList.drop n).drop 4 from by rw [List.drop_drop]] at this
    exact this⟩
  generalize s.data.toList.drop n = l at *

  go_enter Tryz.func8, Tryz.ntmps8
  go_wp2_with fail
  refine (HN.out _).mono ?_
  rintro e w' ⟨rfl, rfl⟩
  by_cases c1 : 262144 < Fr.num l
  · have HV : Kp (Fr.readE s n = Fr.badE 40) := ⟨Fr.readE_bad (by decide) (by rw [hRV]; unfold Fr.readL; rw [if_neg h9, if_pos c1])⟩
    go_wp2
    refine bodyPost_ret (v := .tuple #[.agg #[.int .u8 0, .string ⟨#[]⟩, .int .i64 0], .int .i64 0, .int .i64 40]) (by simp [results, Tryz.results8, go_sem]) rfl ?_
    exact ⟨HV.out.symm, (Below.refl _ w).alloc (Nat.le_refl _) _⟩
  by_cases c2 : l.length ≤ Fr.num l + 8
  · have HV : Kp (Fr.readE s n = Fr.badE 8) := ⟨Fr.readE_bad (by decide) (by rw [hRV]; unfold Fr.readL; rw [if_neg h9, if_neg c1, if_pos c2])⟩
    have t4 : (s.size : Int) - n - 9 < Fr.num l := by omega
    have t5 : IntKind.u64.wrap ((s.size : Int) - n - 9) = (s.size : Int) - n - 9 := by unfold IntKind.wrap; simp [IntKind.bits, IntKind.signed]; omega
    go_wp2
    refine bodyPost_ret (v := .tuple #[.agg #[.int .u8 0, .string ⟨#[]⟩, .int .i64 0], .int .i64 0, .int .i64 8]) (by simp [results, Tryz.results8, go_sem]) rfl ?_
    exact ⟨HV.out.symm, (Below.refl _ w).alloc (Nat.le_refl _) _⟩
  have t4 : ¬ (s.size : Int) - n - 9 < Fr.num l := by omega
  have t5 : IntKind.u64.wrap ((s.size : Int) - n - 9) = (s.size : Int) - n - 9 := by unfold IntKind.wrap; simp [IntKind.bits, IntKind.signed]; omega
  have hcl : Crc.crc (Fr.body l) < 4294967296 := Crc.crc_lt _
  have HO := Kp.mk (fun w => refOf_any (B (Fr.body l)) w (by rw [B_size, body_len c2]; omega))
  rw [B_list] at HO
  have HM : Kp (∀ w, Calls Tryz.prog 42 #[.int .u32 (Crc.crc (Fr.body l) : Nat)] w fun e w' => e = .returned (.int .u32 (Fr.sumL (Fr.body l) : Nat)) ∧ w = w') := ⟨fun w => refMask_any _ w hcl⟩
  have hsl := Fr.sumL_lt (Fr.body l)
  have hbt := HBT.out
  have hpt := HPT.out
  have hkt := HKT.out
  have hpl : ((l.drop 9).take (Fr.num l)).length = Fr.num l := by rw [List.length_take, List.length_drop]; omega
  have hOk : ¬ Fr.sumL (Fr.body l) = Fr.msk l → Kp (Fr.readE s n = Fr.badE 42) := fun c3 => ⟨Fr.readE_bad (by decide) (by rw [hRV]; unfold Fr.readL; rw [if_neg h9, if_neg c1, if_neg c2, if_pos c3])⟩
  have hFm : Fr.sumL (Fr.body l) = Fr.msk l → ((Fr.kind l).toNat < 1 ∨ 3 < (Fr.kind l).toNat) → Kp (Fr.readE s n = Fr.badE 4) := fun c3 c4 => ⟨Fr.readE_bad (by decide) (by rw [hRV]; unfold Fr.readL; rw [if_neg h9, if_neg c1, if_neg c2, if_neg (fun h => h c3), if_pos c4])⟩
  have hOkk : Fr.sumL (Fr.body l) = Fr.msk l → ¬ ((Fr.kind l).toNat < 1 ∨ 3 < (Fr.kind l).toNat) → Kp (Fr.readE s n = .returned (.tuple #[.agg #[.int .u8 (Fr.kind l).toNat, .string (B ((l.drop 9).take (Fr.num l))), .int .i64 n], .int .i64 ((n : Int) + (9 + Fr.num l : Nat)), .int .i64 (0 : Nat)])) := fun c3 c4 => ⟨by
    have := Fr.readE_ok (s := s) (a := n) (k := (Fr.kind l).toNat) (p := (l.drop 9).take (Fr.num l)) (by rw [hRV]; unfold Fr.readL; rw [if_neg h9, if_neg c1, if_neg c2, if_neg (fun h => h c3), if_neg c4])
    rwa [hpl] at this⟩
  obtain ⟨bd, hbd⟩ : ∃ bd, B (Fr.body l) = bd := ⟨_, rfl⟩
  obtain ⟨pd, hpd⟩ : ∃ pd, B ((l.drop 9).take (Fr.num l)) = pd := ⟨_, rfl⟩
  rw [hbd] at hbt HO
  rw [hpd] at hpt
  simp only [hpd] at hOkk
  have hend : n + 9 + Fr.num l ≤ s.size := by omega
  obtain ⟨kd, hkd⟩ : ∃ kd, Fr.kind l = kd := ⟨_, rfl⟩
  rw [hkd] at hkt
  simp only [hkd] at hFm hOkk
  have hk8 := UInt8.toNat_lt kd
  obtain ⟨N, hN⟩ : ∃ N, Fr.num l = N := ⟨_, rfl⟩
  obtain ⟨S, hS⟩ : ∃ S, Fr.sumL (Fr.body l) = S := ⟨_, rfl⟩
  obtain ⟨M, hM⟩ : ∃ M, Fr.msk l = M := ⟨_, rfl⟩
  simp only [hN, hS, hM] at *
  have i1 : ((n : Int) + 8).toNat = n + 8 := by omega
  have i2 : ((n : Int) + 9 + (N : Int)).toNat = n + 9 + N := by omega
  have i3 : ((n : Int) + 9).toNat = n + 9 := by omega
  have j1 : (0 : Int) ≤ (n : Int) + 8 := by omega
  have j2 : (n : Int) + 8 ≤ (n : Int) + 9 + (N : Int) := by omega
  have j3 : (n : Int) + 9 + (N : Int) ≤ (s.size : Int) := by omega
  have j4 : (n : Int) + 8 < (s.size : Int) := by omega
  have j5 : (n : Int) + 9 ≤ (n : Int) + 9 + (N : Int) := by omega
  have j6 : (0 : Int) ≤ (n : Int) + 9 := by omega
  have j7 : n + 8 < s.size := by omega
  have q4 : IntKind.i64.wrap ((n : Int) + 4) = (n : Int) + 4 := by rw [IntKind.wrap_i64]; omega
  have q8 : IntKind.i64.wrap ((n : Int) + 8) = (n : Int) + 8 := by rw [IntKind.wrap_i64]; omega
  have q9 : IntKind.i64.wrap ((n : Int) + 9) = (n : Int) + 9 := by rw [IntKind.wrap_i64]; omega
  go_wp2_with fail
  go_quiet (first | (go_at_call 41; exact Calls.quiet_of_same ((HN4.out _).mono (fun e w' h => ⟨h.1, h.2.symm⟩))) | (go_at_call 43; exact Calls.quiet_of_same ((HO.out _).mono (fun e w' h => ⟨h.1, h.2.symm⟩))) | (go_at_call 42; exact Calls.quiet_of_same ((HM.out _).mono (fun e w' h => ⟨h.1, h.2.symm⟩))))
  by_cases c3 : S = M
  · have e1 : ((M : Int) != (S : Int)) = false := by simp [c3]
    by_cases c4 : kd.toNat < 1 ∨ 3 < kd.toNat
    · have HV := hFm c3 c4
      clear hFm hOkk hOk
      by_cases c5 : kd.toNat < 1
      · have e2 : decide ((kd.toNat : Int) < 1) = true := by rw [decide_eq_true_eq]; omega
        go_wp2
        obtain ⟨⟨m0, m1, m2⟩, m3⟩ := cells3 (w := (w.alloc (.cells #[.int .u8 0, .string ⟨#[]⟩, .int .i64 0] 24)).drewN (nq)) (k := w.heap.size) (heap_alloc_new w _)
        refine bodyPost_ret (v := .tuple #[.agg #[.int .u8 0, .string ⟨#[]⟩, .int .i64 0], .int .i64 0, .int .i64 4]) (by simp [results, Tryz.results8, go_sem, m0, m1, m2]) rfl ⟨HV.out.symm, (((((Below.refl _ w).alloc (Nat.le_refl _) _).trans (belowN _ _ (nq))).setCell (p := ⟨w.heap.size, 0, none⟩) (Nat.le_refl _) _).setCell (p := ⟨w.heap.size, 1, none⟩) (Nat.le_refl _) _).setCell (p := ⟨w.heap.size, 2, none⟩) (Nat.le_refl _) _⟩
      · have e2 : decide ((kd.toNat : Int) < 1) = false := by rw [decide_eq_false_iff_not]; omega
        have e3 : decide (3 < (kd.toNat : Int)) = true := by rw [decide_eq_true_eq]; omega
        go_wp2
        obtain ⟨⟨m0, m1, m2⟩, m3⟩ := cells3 (w := (w.alloc (.cells #[.int .u8 0, .string ⟨#[]⟩, .int .i64 0] 24)).drewN (nq)) (k := w.heap.size) (heap_alloc_new w _)
        refine bodyPost_ret (v := .tuple #[.agg #[.int .u8 0, .string ⟨#[]⟩, .int .i64 0], .int .i64 0, .int .i64 4]) (by simp [results, Tryz.results8, go_sem, m0, m1, m2]) rfl ⟨HV.out.symm, (((((Below.refl _ w).alloc (Nat.le_refl _) _).trans (belowN _ _ (nq))).setCell (p := ⟨w.heap.size, 0, none⟩) (Nat.le_refl _) _).setCell (p := ⟨w.heap.size, 1, none⟩) (Nat.le_refl _) _).setCell (p := ⟨w.heap.size, 2, none⟩) (Nat.le_refl _) _⟩
    · have HV := hOkk c3 c4
      clear hFm hOkk hOk
      have e2 : decide ((kd.toNat : Int) < 1) = false := by rw [decide_eq_false_iff_not]; omega
      have e3 : decide (3 < (kd.toNat : Int)) = false := by rw [decide_eq_false_iff_not]; omega
      go_wp2
      go_region
      go_wp2
      obtain ⟨⟨m0, m1, m2⟩, m3⟩ := cells3 (w := (w.alloc (.cells #[.int .u8 0, .string ⟨#[]⟩, .int .i64 0] 24)).drewN (nq + 1)) (k := w.heap.size) (heap_alloc_new w _)
      refine bodyPost_ret (v := .tuple #[.agg #[.int .u8 (kd.toNat : Nat), .string pd, .int .i64 n], .int .i64 ((n : Int) + 9 + (N : Int)), .int .i64 0]) (by simp [results, Tryz.results8, go_sem, m0, m1, m2]) rfl ⟨by rw [HV.out, show (n : Int) + 9 + (N : Int) = (n : Int) + ((9 + N : Nat) : Int) from by omega]; rfl, (((((Below.refl _ w).alloc (Nat.le_refl _) _).trans (belowN _ _ (nq + 1))).setCell (p := ⟨w.heap.size, 0, none⟩) (Nat.le_refl _) _).setCell (p := ⟨w.heap.size, 1, none⟩) (Nat.le_refl _) _).setCell (p := ⟨w.heap.size, 2, none⟩) (Nat.le_refl _) _⟩
  · have e1 : ((M : Int) != (S : Int)) = true := by simp; omega
    have HV := hOk c3
    clear hFm hOkk hOk
    go_wp2
    obtain ⟨⟨m0, m1, m2⟩, m3⟩ := cells3 (w := (w.alloc (.cells #[.int .u8 0, .string ⟨#[]⟩, .int .i64 0] 24)).drewN (nq)) (k := w.heap.size) (heap_alloc_new w _)
    refine bodyPost_ret (v := .tuple #[.agg #[.int .u8 0, .string ⟨#[]⟩, .int .i64 0], .int .i64 0, .int .i64 42]) (by simp [results, Tryz.results8, go_sem, m0, m1, m2]) rfl ⟨HV.out.symm, (((((Below.refl _ w).alloc (Nat.le_refl _) _).trans (belowN _ _ (nq))).setCell (p := ⟨w.heap.size, 0, none⟩) (Nat.le_refl _) _).setCell (p := ⟨w.heap.size, 1, none⟩) (Nat.le_refl _) _).setCell (p := ⟨w.heap.size, 2, none⟩) (Nat.le_refl _) _⟩
theorem refReadB_any (s : ByteArray) (a : Int) (w : World) (hs : s.size ≤ 9223372036854775807) (h1 : -9223372036854775808 ≤ a) (h2 : a ≤ 9223372036854775807) :
    Calls Tryz.prog 8 #[.string s, .int .i64 a] w fun e w' => e = Fr.readE s a ∧ Below w.heap.size w w' := by
  by_cases h0 : a < 0 ∨ (s.size : Int) < a
  · exact refReadB_out s a w hs h1 h2 h0
  · by_cases h9 : (s.extract a.toNat s.size).data.toList.length < 9
    · exact refReadB_small s a w hs h1 h2 h0 h9
    · have hlen : (s.extract a.toNat s.size).data.toList.length = s.size - a.toNat := by rw [data_len]; simp
      exact refReadB_in s a w hs h1 h2 a.toNat (by omega) (by omega)
end Go.Proofs.YtpfoekfbcpinlaaGreatDoor
