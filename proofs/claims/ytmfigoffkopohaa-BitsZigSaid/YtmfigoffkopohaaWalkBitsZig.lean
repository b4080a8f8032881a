/- The walk of BitsZig: it returns true, and leaves what was there. -/
import Derived.Test.YtmfigoffkopohaaBitsAwake
namespace Go.Proofs.Ytmfigoffkopohaa
open Go.RowKit
set_option linter.unusedVariables false

theorem u64_nat {a : Int} (h : (Lit.int .u64 a).wf = true) : ∃ n : Nat, a = n ∧ n < 18446744073709551616 := by
  have h' : 0 ≤ a ∧ a < 18446744073709551616 := by
    simp [Lit.wf, IntKind.min, IntKind.max, IntKind.signed, IntKind.bits] at h
    omega
  exact ⟨a.toNat, by omega, by omega⟩
theorem i64_int {a : Int} (h : (Lit.int .i64 a).wf = true) : -9223372036854775808 ≤ a ∧ a ≤ 9223372036854775807 := by
  simp [Lit.wf, IntKind.min, IntKind.max, IntKind.signed, IntKind.bits] at h
  omega
theorem Var.zig_le {a b : Int} (h : 0 ≤ a ∧ 0 ≤ b ∧ a ≤ b ∨ a < 0 ∧ b < 0 ∧ b ≤ a) : Var.zig a ≤ Var.zig b := by
  unfold Var.zig
  rcases h with h | h
  · rw [if_pos h.1, if_pos h.2.1]; omega
  · rw [if_neg (by omega), if_neg (by omega)]; omega
theorem Var.zig_neg {a : Int} (h : 1 ≤ a) : Var.zig (-a) + 1 = Var.zig a := by
  unfold Var.zig
  rw [if_neg (by omega), if_pos (by omega)]; omega
set_option maxRecDepth 20000 in
theorem zigWalk_p1 (w : World) (n A B C : Nat) (a b : Int) (hn : n < 18446744073709551616) (hA : A < 18446744073709551616) (a1 : -9223372036854775808 ≤ a) (a2 : a ≤ 9223372036854775807) (b1 : -9223372036854775808 ≤ b) (b2 : b ≤ 9223372036854775807)
    (HZ : Kp (Var.zig (Var.zag n) = n)) (HA : Kp (Var.zag A = a)) (HR : Kp (-9223372036854775808 ≤ Var.zag n ∧ Var.zag n ≤ 9223372036854775807)) (KA : Kp ((Var.zig a : Int) = A)) (KB : Kp ((Var.zig b : Int) = B)) (KC : Kp ((Var.zig (-a) : Int) = C))
    (h1 : 0 ≤ a) (h2 : 0 ≤ b) (h3 : a ≤ b) (h4 : 1 ≤ a) (hAB : A ≤ B) (hAC : A = C + 1) :
    Calls Try.prog 5 #[.int .u64 n, .int .i64 a, .int .i64 b] w fun e w' => e = .returned (.bool true) ∧ Below w.heap.size w w' := by
  subst hAC
  have ta0 : decide (0 ≤ a) = true := by simp; omega
  have tb0 : decide (0 ≤ b) = true := by simp; omega
  have tab : decide (a ≤ b) = true := by simp; omega
  have tal : decide (a < 0) = false := by simp; omega
  have ta1 : decide (a < 1) = false := by simp; omega
  have tAB : decide (B < (C + 1)) = false := by simp; omega
  go_enter Try.func5, Try.ntmps5
  go_wp2_with fail
  refine (awake_any _).mono ?_
  rintro e w1 ⟨rfl, hb1⟩
  have HB1 := Kp.mk hb1
  clear hb1
  go_wp2_with fail
  refine (Zag_any _ _ hn).mono ?_
  rintro e w' ⟨rfl, rfl⟩
  go_wp2_with fail
  refine (Zig_any _ _ HR.out.1 HR.out.2).mono ?_
  rw [HZ.out]
  rintro e w' ⟨rfl, rfl⟩
  go_wp2_with fail
  refine (Zig_at a _ _ a1 a2 KA.out).mono ?_
  rintro e w' ⟨rfl, rfl⟩
  go_wp2_with fail
  refine (Zag_any _ _ hA).mono ?_
  rw [HA.out]
  rintro e w' ⟨rfl, rfl⟩
  go_wp2_with fail
  refine (Zig_at a _ _ a1 a2 KA.out).mono ?_
  rintro e w' ⟨rfl, rfl⟩
  go_wp2_with fail
  refine (Zig_at b _ _ b1 b2 KB.out).mono ?_
  rintro e w' ⟨rfl, rfl⟩
  go_wp2_with fail
  refine (Zig_at (-a) _ _ (by omega) (by omega) KC.out).mono ?_
  rintro e w' ⟨rfl, rfl⟩
  go_wp2_with fail
  refine (Zig_at a _ _ a1 a2 KA.out).mono ?_
  rintro e w' ⟨rfl, rfl⟩
  go_wp2
  go_ret
  exact ⟨by trivial, HB1.out⟩
set_option maxRecDepth 20000 in
theorem zigWalk_p0 (w : World) (n A B C : Nat) (a b : Int) (hn : n < 18446744073709551616) (hA : A < 18446744073709551616) (a1 : -9223372036854775808 ≤ a) (a2 : a ≤ 9223372036854775807) (b1 : -9223372036854775808 ≤ b) (b2 : b ≤ 9223372036854775807)
    (HZ : Kp (Var.zig (Var.zag n) = n)) (HA : Kp (Var.zag A = a)) (HR : Kp (-9223372036854775808 ≤ Var.zag n ∧ Var.zag n ≤ 9223372036854775807)) (KA : Kp ((Var.zig a : Int) = A)) (KB : Kp ((Var.zig b : Int) = B)) (KC : Kp ((Var.zig (-a) : Int) = C))
    (h1 : 0 ≤ a) (h2 : 0 ≤ b) (h3 : a ≤ b) (h4 : a < 1) (hAB : A ≤ B) :
    Calls Try.prog 5 #[.int .u64 n, .int .i64 a, .int .i64 b] w fun e w' => e = .returned (.bool true) ∧ Below w.heap.size w w' := by
  have ta0 : decide (0 ≤ a) = true := by simp; omega
  have tb0 : decide (0 ≤ b) = true := by simp; omega
  have tab : decide (a ≤ b) = true := by simp; omega
  have tal : decide (a < 0) = false := by simp; omega
  have ta1 : decide (a < 1) = true := by simp; omega
  have tAB : decide (B < A) = false := by simp; omega
  go_enter Try.func5, Try.ntmps5
  go_wp2_with fail
  refine (awake_any _).mono ?_
  rintro e w1 ⟨rfl, hb1⟩
  have HB1 := Kp.mk hb1
  clear hb1
  go_wp2_with fail
  refine (Zag_any _ _ hn).mono ?_
  rintro e w' ⟨rfl, rfl⟩
  go_wp2_with fail
  refine (Zig_any _ _ HR.out.1 HR.out.2).mono ?_
  rw [HZ.out]
  rintro e w' ⟨rfl, rfl⟩
  go_wp2_with fail
  refine (Zig_at a _ _ a1 a2 KA.out).mono ?_
  rintro e w' ⟨rfl, rfl⟩
  go_wp2_with fail
  refine (Zag_any _ _ hA).mono ?_
  rw [HA.out]
  rintro e w' ⟨rfl, rfl⟩
  go_wp2_with fail
  refine (Zig_at a _ _ a1 a2 KA.out).mono ?_
  rintro e w' ⟨rfl, rfl⟩
  go_wp2_with fail
  refine (Zig_at b _ _ b1 b2 KB.out).mono ?_
  rintro e w' ⟨rfl, rfl⟩
  go_wp2
  go_ret
  exact ⟨by trivial, HB1.out⟩
set_option maxRecDepth 20000 in
theorem zigWalk_p2 (w : World) (n A B C : Nat) (a b : Int) (hn : n < 18446744073709551616) (hA : A < 18446744073709551616) (a1 : -9223372036854775808 ≤ a) (a2 : a ≤ 9223372036854775807) (b1 : -9223372036854775808 ≤ b) (b2 : b ≤ 9223372036854775807)
    (HZ : Kp (Var.zig (Var.zag n) = n)) (HA : Kp (Var.zag A = a)) (HR : Kp (-9223372036854775808 ≤ Var.zag n ∧ Var.zag n ≤ 9223372036854775807)) (KA : Kp ((Var.zig a : Int) = A)) (KB : Kp ((Var.zig b : Int) = B)) (KC : Kp ((Var.zig (-a) : Int) = C))
    (h1 : 0 ≤ a) (h2 : 0 ≤ b) (h3 : b < a) (h4 : 1 ≤ a) (hAC : A = C + 1) :
    Calls Try.prog 5 #[.int .u64 n, .int .i64 a, .int .i64 b] w fun e w' => e = .returned (.bool true) ∧ Below w.heap.size w w' := by
  subst hAC
  have ta0 : decide (0 ≤ a) = true := by simp; omega
  have tb0 : decide (0 ≤ b) = true := by simp; omega
  have tab : decide (a ≤ b) = false := by simp; omega
  have tal : decide (a < 0) = false := by simp; omega
  have ta1 : decide (a < 1) = false := by simp; omega
  go_enter Try.func5, Try.ntmps5
  go_wp2_with fail
  refine (awake_any _).mono ?_
  rintro e w1 ⟨rfl, hb1⟩
  have HB1 := Kp.mk hb1
  clear hb1
  go_wp2_with fail
  refine (Zag_any _ _ hn).mono ?_
  rintro e w' ⟨rfl, rfl⟩
  go_wp2_with fail
  refine (Zig_any _ _ HR.out.1 HR.out.2).mono ?_
  rw [HZ.out]
  rintro e w' ⟨rfl, rfl⟩
  go_wp2_with fail
  refine (Zig_at a _ _ a1 a2 KA.out).mono ?_
  rintro e w' ⟨rfl, rfl⟩
  go_wp2_with fail
  refine (Zag_any _ _ hA).mono ?_
  rw [HA.out]
  rintro e w' ⟨rfl, rfl⟩
  go_wp2_with fail
  refine (Zig_at (-a) _ _ (by omega) (by omega) KC.out).mono ?_
  rintro e w' ⟨rfl, rfl⟩
  go_wp2_with fail
  refine (Zig_at a _ _ a1 a2 KA.out).mono ?_
  rintro e w' ⟨rfl, rfl⟩
  go_wp2
  go_ret
  exact ⟨by trivial, HB1.out⟩
set_option maxRecDepth 20000 in
theorem zigWalk_m1 (w : World) (n A B C : Nat) (a b : Int) (hn : n < 18446744073709551616) (hA : A < 18446744073709551616) (a1 : -9223372036854775808 ≤ a) (a2 : a ≤ 9223372036854775807) (b1 : -9223372036854775808 ≤ b) (b2 : b ≤ 9223372036854775807)
    (HZ : Kp (Var.zig (Var.zag n) = n)) (HA : Kp (Var.zag A = a)) (HR : Kp (-9223372036854775808 ≤ Var.zag n ∧ Var.zag n ≤ 9223372036854775807)) (KA : Kp ((Var.zig a : Int) = A)) (KB : Kp ((Var.zig b : Int) = B)) (KC : Kp ((Var.zig (-a) : Int) = C))
    (h1 : 0 ≤ a) (h2 : b < 0) (h3 : b < a) (h4 : 1 ≤ a) (hAC : A = C + 1) :
    Calls Try.prog 5 #[.int .u64 n, .int .i64 a, .int .i64 b] w fun e w' => e = .returned (.bool true) ∧ Below w.heap.size w w' := by
  subst hAC
  have ta0 : decide (0 ≤ a) = true := by simp; omega
  have tb0 : decide (0 ≤ b) = false := by simp; omega
  have tal : decide (a < 0) = false := by simp; omega
  have ta1 : decide (a < 1) = false := by simp; omega
  go_enter Try.func5, Try.ntmps5
  go_wp2_with fail
  refine (awake_any _).mono ?_
  rintro e w1 ⟨rfl, hb1⟩
  have HB1 := Kp.mk hb1
  clear hb1
  go_wp2_with fail
  refine (Zag_any _ _ hn).mono ?_
  rintro e w' ⟨rfl, rfl⟩
  go_wp2_with fail
  refine (Zig_any _ _ HR.out.1 HR.out.2).mono ?_
  rw [HZ.out]
  rintro e w' ⟨rfl, rfl⟩
  go_wp2_with fail
  refine (Zig_at a _ _ a1 a2 KA.out).mono ?_
  rintro e w' ⟨rfl, rfl⟩
  go_wp2_with fail
  refine (Zag_any _ _ hA).mono ?_
  rw [HA.out]
  rintro e w' ⟨rfl, rfl⟩
  go_wp2_with fail
  refine (Zig_at (-a) _ _ (by omega) (by omega) KC.out).mono ?_
  rintro e w' ⟨rfl, rfl⟩
  go_wp2_with fail
  refine (Zig_at a _ _ a1 a2 KA.out).mono ?_
  rintro e w' ⟨rfl, rfl⟩
  go_wp2
  go_ret
  exact ⟨by trivial, HB1.out⟩
set_option maxRecDepth 20000 in
theorem zigWalk_m0 (w : World) (n A B C : Nat) (a b : Int) (hn : n < 18446744073709551616) (hA : A < 18446744073709551616) (a1 : -9223372036854775808 ≤ a) (a2 : a ≤ 9223372036854775807) (b1 : -9223372036854775808 ≤ b) (b2 : b ≤ 9223372036854775807)
    (HZ : Kp (Var.zig (Var.zag n) = n)) (HA : Kp (Var.zag A = a)) (HR : Kp (-9223372036854775808 ≤ Var.zag n ∧ Var.zag n ≤ 9223372036854775807)) (KA : Kp ((Var.zig a : Int) = A)) (KB : Kp ((Var.zig b : Int) = B)) (KC : Kp ((Var.zig (-a) : Int) = C))
    (h1 : 0 ≤ a) (h2 : b < 0) (h3 : b < a) (h4 : a < 1) :
    Calls Try.prog 5 #[.int .u64 n, .int .i64 a, .int .i64 b] w fun e w' => e = .returned (.bool true) ∧ Below w.heap.size w w' := by
  have ta0 : decide (0 ≤ a) = true := by simp; omega
  have tb0 : decide (0 ≤ b) = false := by simp; omega
  have tal : decide (a < 0) = false := by simp; omega
  have ta1 : decide (a < 1) = true := by simp; omega
  go_enter Try.func5, Try.ntmps5
  go_wp2_with fail
  refine (awake_any _).mono ?_
  rintro e w1 ⟨rfl, hb1⟩
  have HB1 := Kp.mk hb1
  clear hb1
  go_wp2_with fail
  refine (Zag_any _ _ hn).mono ?_
  rintro e w' ⟨rfl, rfl⟩
  go_wp2_with fail
  refine (Zig_any _ _ HR.out.1 HR.out.2).mono ?_
  rw [HZ.out]
  rintro e w' ⟨rfl, rfl⟩
  go_wp2_with fail
  refine (Zig_at a _ _ a1 a2 KA.out).mono ?_
  rintro e w' ⟨rfl, rfl⟩
  go_wp2_with fail
  refine (Zag_any _ _ hA).mono ?_
  rw [HA.out]
  rintro e w' ⟨rfl, rfl⟩
  go_wp2
  go_ret
  exact ⟨by trivial, HB1.out⟩
set_option maxRecDepth 20000 in
theorem zigWalk_n0 (w : World) (n A B C : Nat) (a b : Int) (hn : n < 18446744073709551616) (hA : A < 18446744073709551616) (a1 : -9223372036854775808 ≤ a) (a2 : a ≤ 9223372036854775807) (b1 : -9223372036854775808 ≤ b) (b2 : b ≤ 9223372036854775807)
    (HZ : Kp (Var.zig (Var.zag n) = n)) (HA : Kp (Var.zag A = a)) (HR : Kp (-9223372036854775808 ≤ Var.zag n ∧ Var.zag n ≤ 9223372036854775807)) (KA : Kp ((Var.zig a : Int) = A)) (KB : Kp ((Var.zig b : Int) = B)) (KC : Kp ((Var.zig (-a) : Int) = C))
    (h1 : a < 0) (h2 : 0 ≤ b) (h3 : a < b) (h4 : a < 1) :
    Calls Try.prog 5 #[.int .u64 n, .int .i64 a, .int .i64 b] w fun e w' => e = .returned (.bool true) ∧ Below w.heap.size w w' := by
  have ta0 : decide (0 ≤ a) = false := by simp; omega
  have tal : decide (a < 0) = true := by simp; omega
  have tbl : decide (b < 0) = false := by simp; omega
  have ta1 : decide (a < 1) = true := by simp; omega
  go_enter Try.func5, Try.ntmps5
  go_wp2_with fail
  refine (awake_any _).mono ?_
  rintro e w1 ⟨rfl, hb1⟩
  have HB1 := Kp.mk hb1
  clear hb1
  go_wp2_with fail
  refine (Zag_any _ _ hn).mono ?_
  rintro e w' ⟨rfl, rfl⟩
  go_wp2_with fail
  refine (Zig_any _ _ HR.out.1 HR.out.2).mono ?_
  rw [HZ.out]
  rintro e w' ⟨rfl, rfl⟩
  go_wp2_with fail
  refine (Zig_at a _ _ a1 a2 KA.out).mono ?_
  rintro e w' ⟨rfl, rfl⟩
  go_wp2_with fail
  refine (Zag_any _ _ hA).mono ?_
  rw [HA.out]
  rintro e w' ⟨rfl, rfl⟩
  go_wp2
  go_ret
  exact ⟨by trivial, HB1.out⟩
set_option maxRecDepth 20000 in
theorem zigWalk_n1 (w : World) (n A B C : Nat) (a b : Int) (hn : n < 18446744073709551616) (hA : A < 18446744073709551616) (a1 : -9223372036854775808 ≤ a) (a2 : a ≤ 9223372036854775807) (b1 : -9223372036854775808 ≤ b) (b2 : b ≤ 9223372036854775807)
    (HZ : Kp (Var.zig (Var.zag n) = n)) (HA : Kp (Var.zag A = a)) (HR : Kp (-9223372036854775808 ≤ Var.zag n ∧ Var.zag n ≤ 9223372036854775807)) (KA : Kp ((Var.zig a : Int) = A)) (KB : Kp ((Var.zig b : Int) = B)) (KC : Kp ((Var.zig (-a) : Int) = C))
    (h1 : a < 0) (h2 : b < 0) (h3 : b ≤ a) (h4 : a < 1) (hAB : A ≤ B) :
    Calls Try.prog 5 #[.int .u64 n, .int .i64 a, .int .i64 b] w fun e w' => e = .returned (.bool true) ∧ Below w.heap.size w w' := by
  have ta0 : decide (0 ≤ a) = false := by simp; omega
  have tal : decide (a < 0) = true := by simp; omega
  have tbl : decide (b < 0) = true := by simp; omega
  have tba : decide (b ≤ a) = true := by simp; omega
  have ta1 : decide (a < 1) = true := by simp; omega
  have tAB : decide (B < A) = false := by simp; omega
  go_enter Try.func5, Try.ntmps5
  go_wp2_with fail
  refine (awake_any _).mono ?_
  rintro e w1 ⟨rfl, hb1⟩
  have HB1 := Kp.mk hb1
  clear hb1
  go_wp2_with fail
  refine (Zag_any _ _ hn).mono ?_
  rintro e w' ⟨rfl, rfl⟩
  go_wp2_with fail
  refine (Zig_any _ _ HR.out.1 HR.out.2).mono ?_
  rw [HZ.out]
  rintro e w' ⟨rfl, rfl⟩
  go_wp2_with fail
  refine (Zig_at a _ _ a1 a2 KA.out).mono ?_
  rintro e w' ⟨rfl, rfl⟩
  go_wp2_with fail
  refine (Zag_any _ _ hA).mono ?_
  rw [HA.out]
  rintro e w' ⟨rfl, rfl⟩
  go_wp2_with fail
  refine (Zig_at a _ _ a1 a2 KA.out).mono ?_
  rintro e w' ⟨rfl, rfl⟩
  go_wp2_with fail
  refine (Zig_at b _ _ b1 b2 KB.out).mono ?_
  rintro e w' ⟨rfl, rfl⟩
  go_wp2
  go_ret
  exact ⟨by trivial, HB1.out⟩
set_option maxRecDepth 20000 in
theorem zigWalk_n2 (w : World) (n A B C : Nat) (a b : Int) (hn : n < 18446744073709551616) (hA : A < 18446744073709551616) (a1 : -9223372036854775808 ≤ a) (a2 : a ≤ 9223372036854775807) (b1 : -9223372036854775808 ≤ b) (b2 : b ≤ 9223372036854775807)
    (HZ : Kp (Var.zig (Var.zag n) = n)) (HA : Kp (Var.zag A = a)) (HR : Kp (-9223372036854775808 ≤ Var.zag n ∧ Var.zag n ≤ 9223372036854775807)) (KA : Kp ((Var.zig a : Int) = A)) (KB : Kp ((Var.zig b : Int) = B)) (KC : Kp ((Var.zig (-a) : Int) = C))
    (h1 : a < 0) (h2 : b < 0) (h3 : a < b) (h4 : a < 1) :
    Calls Try.prog 5 #[.int .u64 n, .int .i64 a, .int .i64 b] w fun e w' => e = .returned (.bool true) ∧ Below w.heap.size w w' := by
  have ta0 : decide (0 ≤ a) = false := by simp; omega
  have tal : decide (a < 0) = true := by simp; omega
  have tbl : decide (b < 0) = true := by simp; omega
  have tba : decide (b ≤ a) = false := by simp; omega
  have ta1 : decide (a < 1) = true := by simp; omega
  go_enter Try.func5, Try.ntmps5
  go_wp2_with fail
  refine (awake_any _).mono ?_
  rintro e w1 ⟨rfl, hb1⟩
  have HB1 := Kp.mk hb1
  clear hb1
  go_wp2_with fail
  refine (Zag_any _ _ hn).mono ?_
  rintro e w' ⟨rfl, rfl⟩
  go_wp2_with fail
  refine (Zig_any _ _ HR.out.1 HR.out.2).mono ?_
  rw [HZ.out]
  rintro e w' ⟨rfl, rfl⟩
  go_wp2_with fail
  refine (Zig_at a _ _ a1 a2 KA.out).mono ?_
  rintro e w' ⟨rfl, rfl⟩
  go_wp2_with fail
  refine (Zag_any _ _ hA).mono ?_
  rw [HA.out]
  rintro e w' ⟨rfl, rfl⟩
  go_wp2
  go_ret
  exact ⟨by trivial, HB1.out⟩
theorem walkBitsZig (w : World) (n : Int) (hn : (Lit.int .u64 n).wf = true) (a : Int) (ha : (Lit.int .i64 a).wf = true) (b : Int) (hb : (Lit.int .i64 b).wf = true) :
    Calls Try.prog 5 #[.int .u64 n, .int .i64 a, .int .i64 b] w fun e w' => e = .returned (.bool true) ∧ Below w.heap.size w w' := by
  obtain ⟨n, rfl, hn0⟩ := u64_nat hn
  obtain ⟨a1, a2⟩ := i64_int ha
  obtain ⟨b1, b2⟩ := i64_int hb
  clear ha hb hn
  have HZ := Kp.mk (Var.zig_zag n)
  have HA := Kp.mk (Var.zag_zig a)
  have HR := Kp.mk (Var.zag_range hn0)
  have HL := Var.zig_lt a1 a2
  rcases (show (0 ≤ a ∧ 0 ≤ b ∧ a ≤ b ∧ 1 ≤ a) ∨ (0 ≤ a ∧ 0 ≤ b ∧ a ≤ b ∧ a < 1) ∨ (0 ≤ a ∧ 0 ≤ b ∧ b < a) ∨ (0 ≤ a ∧ b < 0 ∧ 1 ≤ a) ∨ (0 ≤ a ∧ b < 0 ∧ a < 1) ∨ (a < 0 ∧ 0 ≤ b) ∨ (a < 0 ∧ b < 0 ∧ b ≤ a) ∨ (a < 0 ∧ b < 0 ∧ a < b) by omega) with h | h | h | h | h | h | h | h
  · exact zigWalk_p1 w n _ _ _ a b hn0 HL a1 a2 b1 b2 HZ HA HR ⟨rfl⟩ ⟨rfl⟩ ⟨rfl⟩ (by omega) (by omega) (by omega) (by omega) (Var.zig_le (by omega)) (Var.zig_neg (by omega)).symm
  · exact zigWalk_p0 w n _ _ _ a b hn0 HL a1 a2 b1 b2 HZ HA HR ⟨rfl⟩ ⟨rfl⟩ ⟨rfl⟩ (by omega) (by omega) (by omega) (by omega) (Var.zig_le (by omega))
  · exact zigWalk_p2 w n _ _ _ a b hn0 HL a1 a2 b1 b2 HZ HA HR ⟨rfl⟩ ⟨rfl⟩ ⟨rfl⟩ (by omega) (by omega) (by omega) (by omega) (Var.zig_neg (by omega)).symm
  · exact zigWalk_m1 w n _ _ _ a b hn0 HL a1 a2 b1 b2 HZ HA HR ⟨rfl⟩ ⟨rfl⟩ ⟨rfl⟩ (by omega) (by omega) (by omega) (by omega) (Var.zig_neg (by omega)).symm
  · exact zigWalk_m0 w n _ _ _ a b hn0 HL a1 a2 b1 b2 HZ HA HR ⟨rfl⟩ ⟨rfl⟩ ⟨rfl⟩ (by omega) (by omega) (by omega) (by omega)
  · exact zigWalk_n0 w n _ _ _ a b hn0 HL a1 a2 b1 b2 HZ HA HR ⟨rfl⟩ ⟨rfl⟩ ⟨rfl⟩ (by omega) (by omega) (by omega) (by omega)
  · exact zigWalk_n1 w n _ _ _ a b hn0 HL a1 a2 b1 b2 HZ HA HR ⟨rfl⟩ ⟨rfl⟩ ⟨rfl⟩ (by omega) (by omega) (by omega) (by omega) (Var.zig_le (by omega))
  · exact zigWalk_n2 w n _ _ _ a b hn0 HL a1 a2 b1 b2 HZ HA HR ⟨rfl⟩ ⟨rfl⟩ ⟨rfl⟩ (by omega) (by omega) (by omega) (by omega)
end Go.Proofs.Ytmfigoffkopohaa
