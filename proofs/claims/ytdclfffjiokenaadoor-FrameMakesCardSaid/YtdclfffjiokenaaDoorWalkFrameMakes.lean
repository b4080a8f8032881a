/- The walk of FrameMakes. -/
import Derived.Test.YtdclfffjiokenaaDoorFrameAwake
namespace Go.Proofs.YtdclfffjiokenaaDoor
open Go.RowKit
set_option linter.unusedVariables false

theorem makes_size (k : Nat) (s : ByteArray) (h : (makeV k s).2 = 0) : ((makeV k s).1.size : Int) = sizeV s.size := by
  unfold makeV at h ⊢
  split at h
  · simp at h
  · rename_i h1
    split at h
    · simp at h
    · rename_i h2
      rw [if_neg h1, if_neg h2, B_size, Fr.fr_length, data_len]
      unfold sizeV
      rw [if_neg (by omega)]
      omega
set_option maxRecDepth 100000 in
set_option maxHeartbeats 2000000 in
theorem makes_small (k : Nat) (s : ByteArray) (n : Int) (w : World) (hk : k < 256) (hs : s.size ≤ 20000) (h1 : -9223372036854775808 ≤ n) (h2 : n ≤ 9223372036854775807) (ht : Tab w) :
    Calls Tryd.prog 5 #[.int .u8 k, .string s, .int .i64 n] w fun e w' => e = .returned (.bool true) ∧ Below w.heap.size w w' := by
  have HA := Kp.mk awake_any
  have HM := Kp.mk (Make_any k s w hk (by omega) ht)
  have HR := Kp.mk (fun w => refMake_any k s w hk (by omega))
  have HZ := Kp.mk (fun w => Size_any n w h1 h2)
  have HZr := Kp.mk (fun w => refSize_any n w h1 h2)
  have HZs := Kp.mk (fun w => Size_any (s.size : Nat) w (by omega) (by omega))
  have hms := makes_size k s
  unfold makeE at HM HR
  generalize makeV k s = r at *
  obtain ⟨t, e0⟩ := r
  simp only [] at HM HR hms
  generalize sizeV n = z at HZ HZr
  generalize sizeV s.size = zs at HZs hms
  have HT := Kp.mk ht
  clear ht
  by_cases he : e0 = 0
  · have HMS := Kp.mk (hms he)
    clear hms
    subst he
    go_enter Tryd.func5, Tryd.ntmps5
    go_wp2_with fail
    refine HM.out.mono ?_
    rintro e w1 ⟨rfl, b1⟩
    have B1 := Kp.mk b1
    clear b1
    go_wp2_with fail
    refine (HR.out _).mono ?_
    rintro e w2 ⟨rfl, b2⟩
    have B2 := Kp.mk (B1.out.trans (b2.mono B1.out.size))
    clear b2
    go_wp2_with fail
    refine (HZ.out _).mono ?_
    rintro e w' ⟨rfl, rfl⟩
    go_wp2_with fail
    refine (HZr.out _).mono ?_
    rintro e w' ⟨rfl, rfl⟩
    go_wp2_with fail
    refine (HZs.out _).mono ?_
    rintro e w' ⟨rfl, rfl⟩
    have t9 : ((t.size : Int) == zs) = true := by rw [HMS.out]; simp
    go_wp2_with fail
    refine (HA.out _ (HT.out.below B2.out)).mono ?_
    rintro e w3 ⟨rfl, b3⟩
    have B3 := Kp.mk (B2.out.trans (b3.mono B2.out.size))
    clear b3
    go_wp2
    go_ret
    exact ⟨rfl, B3.out⟩
  · have t0 : ((e0 : Int) != 0) = true := by simp; omega
    clear hms
    go_enter Tryd.func5, Tryd.ntmps5
    go_wp2_with fail
    refine HM.out.mono ?_
    rintro e w1 ⟨rfl, b1⟩
    have B1 := Kp.mk b1
    clear b1
    go_wp2_with fail
    refine (HR.out _).mono ?_
    rintro e w2 ⟨rfl, b2⟩
    have B2 := Kp.mk (B1.out.trans (b2.mono B1.out.size))
    clear b2
    go_wp2_with fail
    refine (HZ.out _).mono ?_
    rintro e w' ⟨rfl, rfl⟩
    go_wp2_with fail
    refine (HZr.out _).mono ?_
    rintro e w' ⟨rfl, rfl⟩
    go_wp2_with fail
    refine (HA.out _ (HT.out.below B2.out)).mono ?_
    rintro e w3 ⟨rfl, b3⟩
    have B3 := Kp.mk (B2.out.trans (b3.mono B2.out.size))
    clear b3
    go_wp2
    go_ret
    exact ⟨rfl, B3.out⟩
theorem makes_long (k : Nat) (s : ByteArray) (n : Int) (w : World) (hs : 20000 < s.size) (hm : s.size ≤ maxLen) (ht : Tab w) :
    Calls Tryd.prog 5 #[.int .u8 k, .string s, .int .i64 n] w fun e w' => e = .returned (.bool true) ∧ Below w.heap.size w w' := by
  have HA := Kp.mk (awake_any w ht)
  have h1 : decide (20000 < (s.size : Int)) = true := by rw [decide_eq_true_eq]; omega
  go_enter Tryd.func5, Tryd.ntmps5
  go_wp2_with fail
  refine HA.out.mono ?_
  rintro e w1 ⟨rfl, b1⟩
  have B1 := Kp.mk b1
  clear b1
  go_wp2
  go_ret
  exact ⟨rfl, B1.out⟩
theorem walkFrameMakes (w : World) (k : Int) (hk : (Lit.int .u8 k).wf = true) (s : ByteArray) (hs : s.size ≤ maxLen) (n : Int) (hn : (Lit.int .i64 n).wf = true) (hL : Tab w) :
    Calls Tryd.prog 5 #[.int .u8 k, .string s, .int .i64 n] w fun e w' => e = .returned (.bool true) ∧ Below w.heap.size w w' := by
  obtain ⟨k, rfl, h1⟩ := u8_nat hk
  by_cases h : 20000 < s.size
  · exact makes_long k s n w h hs hL
  · exact makes_small k s n w h1 (by omega) (i64_int hn).1 (i64_int hn).2 hL
end Go.Proofs.YtdclfffjiokenaaDoor
