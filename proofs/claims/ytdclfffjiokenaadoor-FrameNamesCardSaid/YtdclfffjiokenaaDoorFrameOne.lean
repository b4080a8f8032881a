/- The reference's Scan at any place; both Ones. Printed by tools/oneg.py. -/
import Derived.Test.YtdclfffjiokenaaDoorRefScan
namespace Go.Proofs.YtdclfffjiokenaaDoor
open Go.RowKit
set_option linter.unusedVariables false

theorem refScan_any (s : ByteArray) (a : Int) (w : World) (hs : s.size ≤ 1000000000000) (h1 : -9223372036854775808 ≤ a) (h2 : a ≤ 9223372036854775807) :
    Calls Tryd.prog 23 #[.string s, .int .i64 a] w fun e w' => ∃ v, e = .returned (.tuple #[v, .int .i64 (scanV s a).2]) ∧ RK 3 w' v (scanV s a).1.length ((scanV s a).1.flatMap FrV.cells) ∧ (∀ k, blk v = some k → w.heap.size ≤ k) ∧ Below w.heap.size w w' := by
  unfold scanV
  by_cases h0 : a < 0 ∨ (s.size : Int) < a
  · rw [if_pos h0]
    refine (refScan_out s a w h0 hs h1 h2).mono ?_
    rintro e w' ⟨rfl, hb⟩
    exact ⟨_, rfl, RK.nil _ _, fun k hk => by simp [blk] at hk, hb⟩
  · rw [if_neg h0]
    have := refScan_in s a.toNat w hs (by omega)
    rwa [show ((a.toNat : Nat) : Int) = a from by omega] at this
/-- One's answer. -/
def oneV (s : ByteArray) (kd : Nat) : ByteArray × Bool :=
  if (Fr.readL s.data.toList).1 = 0 ∧ (Fr.readL s.data.toList).2.2.length + 9 = s.size ∧ (Fr.readL s.data.toList).2.1 = kd then (B (Fr.readL s.data.toList).2.2, true) else (⟨#[]⟩, false)
theorem readE_zero (s : ByteArray) : Fr.readE s 0 = .returned (.tuple #[.agg #[.int .u8 (Fr.readL s.data.toList).2.1, .string (B (Fr.readL s.data.toList).2.2), .int .i64 0], .int .i64 (Fr.nxt (Fr.readL s.data.toList) 0), .int .i64 (Fr.readL s.data.toList).1]) := by
  unfold Fr.readE Fr.frv
  rw [show Fr.readV s 0 = Fr.readL s.data.toList from by have := readV_at (s := s) (p := 0) (Nat.zero_le _); simpa using this]
  simp
set_option maxRecDepth 20000 in
theorem One_any (s : ByteArray) (kd : Nat) (w : World) (hs : s.size ≤ 1000000000000) (hk : kd < 256) (ht : Tab w) :
    Calls Tryd.prog 24 #[.string s, .int .u8 kd] w fun e w' => e = .returned (.tuple #[.string (oneV s kd).1, .bool (oneV s kd).2]) ∧ Below w.heap.size w w' := by
  have HR := Kp.mk (Read_any s 0 w (by omega) (by omega) (by omega) ht)
  rw [readE_zero] at HR
  have hk1 := Fr.readL_kind s.data.toList
  have he := Fr.readL_err s.data.toList
  have HV : Kp (oneV s kd = if (Fr.readL s.data.toList).1 = 0 ∧ (Fr.readL s.data.toList).2.2.length + 9 = s.size ∧ (Fr.readL s.data.toList).2.1 = kd then (B (Fr.readL s.data.toList).2.2, true) else (⟨#[]⟩, false)) := ⟨rfl⟩
  have hn : (Fr.readL s.data.toList).1 = 0 → Fr.nxt (Fr.readL s.data.toList) 0 = (((Fr.readL s.data.toList).2.2.length + 9 : Nat) : Int) := fun h => by
    unfold Fr.nxt; rw [if_pos h]; omega
  generalize Fr.readL s.data.toList = r at *
  obtain ⟨e0, k, y⟩ := r
  simp only [] at *
  generalize Fr.nxt (e0, k, y) 0 = N at *
  by_cases c0 : e0 = 0
  · have hn' := hn c0
    clear hn
    subst c0
    by_cases c1 : y.length + 9 = s.size
    · rw [c1] at hn'
      subst hn'
      by_cases c2 : k = kd
      · subst c2
        rw [if_pos ⟨rfl, c1, rfl⟩] at HV
        go_enter Tryd.func24, Tryd.ntmps24
        go_wp2_with fail
        refine HR.out.mono ?_
        rintro e w1 ⟨rfl, hb⟩
        have HB := Kp.mk (hb.alloc hb.size (.cells #[.int .u8 k, .string (B y), .int .i64 0] 26))
        clear hb
        go_wp2
        go_ret2
        exact ⟨by rw [HV.out]; rfl, HB.out⟩
      · rw [if_neg (fun h => c2 h.2.2)] at HV
        have t1 : ((k : Int) != (kd : Int)) = true := by simp; omega
        go_enter Tryd.func24, Tryd.ntmps24
        go_wp2_with fail
        refine HR.out.mono ?_
        rintro e w1 ⟨rfl, hb⟩
        have HB := Kp.mk (hb.alloc hb.size (.cells #[.int .u8 k, .string (B y), .int .i64 0] 26))
        clear hb
        go_wp2
        go_ret2
        exact ⟨by rw [HV.out]; rfl, HB.out⟩
    · rw [if_neg (fun h => c1 h.2.1)] at HV
      have t1 : (N != (s.size : Int)) = true := by simp; omega
      go_enter Tryd.func24, Tryd.ntmps24
      go_wp2_with fail
      refine HR.out.mono ?_
      rintro e w1 ⟨rfl, hb⟩
      have HB := Kp.mk (hb.alloc hb.size (.cells #[.int .u8 k, .string (B y), .int .i64 0] 26))
      clear hb
      go_wp2
      go_ret2
      exact ⟨by rw [HV.out]; rfl, HB.out⟩
  · rw [if_neg (fun h => c0 h.1)] at HV
    have t1 : ((e0 : Int) != 0) = true := by simp; omega
    go_enter Tryd.func24, Tryd.ntmps24
    go_wp2_with fail
    refine HR.out.mono ?_
    rintro e w1 ⟨rfl, hb⟩
    have HB := Kp.mk (hb.alloc hb.size (.cells #[.int .u8 k, .string (B y), .int .i64 0] 26))
    clear hb
    go_wp2
    go_ret2
    exact ⟨by rw [HV.out]; rfl, HB.out⟩
set_option maxRecDepth 20000 in
theorem refOne_any (s : ByteArray) (kd : Nat) (w : World) (hs : s.size ≤ 1000000000000) (hk : kd < 256) :
    Calls Tryd.prog 25 #[.string s, .int .u8 kd] w fun e w' => e = .returned (.tuple #[.string (oneV s kd).1, .bool (oneV s kd).2]) ∧ Below w.heap.size w w' := by
  have HR := Kp.mk (refRead_any s 0 w (by omega) (by omega) (by omega))
  rw [readE_zero] at HR
  have hk1 := Fr.readL_kind s.data.toList
  have he := Fr.readL_err s.data.toList
  have HV : Kp (oneV s kd = if (Fr.readL s.data.toList).1 = 0 ∧ (Fr.readL s.data.toList).2.2.length + 9 = s.size ∧ (Fr.readL s.data.toList).2.1 = kd then (B (Fr.readL s.data.toList).2.2, true) else (⟨#[]⟩, false)) := ⟨rfl⟩
  have hn : (Fr.readL s.data.toList).1 = 0 → Fr.nxt (Fr.readL s.data.toList) 0 = (((Fr.readL s.data.toList).2.2.length + 9 : Nat) : Int) := fun h => by
    unfold Fr.nxt; rw [if_pos h]; omega
  generalize Fr.readL s.data.toList = r at *
  obtain ⟨e0, k, y⟩ := r
  simp only [] at *
  generalize Fr.nxt (e0, k, y) 0 = N at *
  by_cases c0 : e0 = 0
  · have hn' := hn c0
    clear hn
    subst c0
    by_cases c1 : y.length + 9 = s.size
    · rw [c1] at hn'
      subst hn'
      by_cases c2 : k = kd
      · subst c2
        rw [if_pos ⟨rfl, c1, rfl⟩] at HV
        go_enter Tryd.func25, Tryd.ntmps25
        go_wp2_with fail
        refine HR.out.mono ?_
        rintro e w1 ⟨rfl, hb⟩
        have HB := Kp.mk (hb.alloc hb.size (.cells #[.int .u8 k, .string (B y), .int .i64 0] 40))
        clear hb
        go_wp2
        go_ret2
        exact ⟨by rw [HV.out]; rfl, HB.out⟩
      · rw [if_neg (fun h => c2 h.2.2)] at HV
        have t1 : ((k : Int) != (kd : Int)) = true := by simp; omega
        go_enter Tryd.func25, Tryd.ntmps25
        go_wp2_with fail
        refine HR.out.mono ?_
        rintro e w1 ⟨rfl, hb⟩
        have HB := Kp.mk (hb.alloc hb.size (.cells #[.int .u8 k, .string (B y), .int .i64 0] 40))
        clear hb
        go_wp2
        go_ret2
        exact ⟨by rw [HV.out]; rfl, HB.out⟩
    · rw [if_neg (fun h => c1 h.2.1)] at HV
      have t1 : (N != (s.size : Int)) = true := by simp; omega
      go_enter Tryd.func25, Tryd.ntmps25
      go_wp2_with fail
      refine HR.out.mono ?_
      rintro e w1 ⟨rfl, hb⟩
      have HB := Kp.mk (hb.alloc hb.size (.cells #[.int .u8 k, .string (B y), .int .i64 0] 40))
      clear hb
      go_wp2
      go_ret2
      exact ⟨by rw [HV.out]; rfl, HB.out⟩
  · rw [if_neg (fun h => c0 h.1)] at HV
    have t1 : ((e0 : Int) != 0) = true := by simp; omega
    go_enter Tryd.func25, Tryd.ntmps25
    go_wp2_with fail
    refine HR.out.mono ?_
    rintro e w1 ⟨rfl, hb⟩
    have HB := Kp.mk (hb.alloc hb.size (.cells #[.int .u8 k, .string (B y), .int .i64 0] 40))
    clear hb
    go_wp2
    go_ret2
    exact ⟨by rw [HV.out]; rfl, HB.out⟩
end Go.Proofs.YtdclfffjiokenaaDoor
