/- The examples that each statement of chapter 1 asks. -/
import Derived.Test.YtmfigoffkopohaaBitsTwo
import Derived.Test.YtmfigoffkopohaaBitsRead
namespace Go.Proofs.Ytmfigoffkopohaa
open Go.RowKit
set_option linter.unusedVariables false

theorem bytes_toList (s : ByteArray) : s.toList = s.data.toList := by
  obtain ⟨⟨l⟩⟩ := s
  show (⟨l.toArray⟩ : ByteArray).toList = l
  simp
theorem ret_bool {a b : Bool} (h : a = b) : Ending.returned (.bool a) = .returned (.bool b) := by rw [h]
theorem Uvarint_at (s : ByteArray) (p : Int) (w : World) (a b c : Int) (hs : s.size ≤ 140737488351232) (h1 : -9223372036854775808 ≤ p) (h2 : p ≤ 9223372036854775807) (r : Nat × Nat × Nat) (hr : Var.uvI s.data.toList p = r) (ha : (r.1 : Int) = a) (hb : (r.2.1 : Int) = b) (hc : (r.2.2 : Int) = c) :
    Calls Try.prog 14 #[.string s, .int .i64 p] w fun e w' => e = .returned (.tuple #[.int .u64 a, .int .i64 b, .int .i64 c]) ∧ w = w' :=
  (Uvarint_any s p w hs h1 h2).mono fun e w' ⟨he, hw⟩ => ⟨by rw [he, hr, ← ha, ← hb, ← hc]; rfl, hw⟩
theorem law01put_at (n : Int) (w : World) (t : ByteArray) (h0 : 0 ≤ n) (h : n < 18446744073709551616) (ht : (⟨(Var.vb n.toNat).toArray⟩ : ByteArray) = t) :
    Calls Try.prog 12 #[.int .u64 n] w fun e w' => e = .returned (.string t) ∧ Below w.heap.size w w' := by
  obtain ⟨n, rfl⟩ := Int.eq_ofNat_of_zero_le h0
  rw [Int.toNat_natCast] at ht
  exact (law01put_any n w (by omega)).mono fun e w' ⟨he, hw⟩ => ⟨by rw [he, ht], hw⟩
theorem Len_at (n v : Int) (w : World) (h0 : 0 ≤ n) (h : n < 18446744073709551616) (hv : ((Var.vb n.toNat).length : Int) = v) :
    Calls Try.prog 13 #[.int .u64 n] w fun e w' => e = .returned (.int .i64 v) ∧ w = w' := by
  obtain ⟨n, rfl⟩ := Int.eq_ofNat_of_zero_le h0
  rw [Int.toNat_natCast] at hv
  exact (Len_any n w (by omega)).mono fun e w' ⟨he, hw⟩ => ⟨by rw [he, hv], hw⟩
theorem Zig_at (n v : Int) (w : World) (h1 : -9223372036854775808 ≤ n) (h2 : n ≤ 9223372036854775807) (hv : (Var.zig n : Int) = v) :
    Calls Try.prog 16 #[.int .i64 n] w fun e w' => e = .returned (.int .u64 v) ∧ w = w' :=
  (Zig_any n w h1 h2).mono fun e w' ⟨he, hw⟩ => ⟨by rw [he, hv], hw⟩
theorem vb300 : Var.vb 300 = [172, 2] := by rw [Var.vb_ge (by decide), Var.vb_lt (by decide)]; decide
/-- A new row's text, put by PutFixed. -/
theorem awake_any (w : World) : Calls Try.prog 15 #[] w fun e w' => e = .returned (.bool true) ∧ Below w.heap.size w w' := by
  go_enter Try.func15, Try.ntmps15
  go_wp2_with fail
  refine (Uvarint_at _ _ _ 300 3 0 (by decide) (by decide) (by decide) _ (by decide +kernel : _ = (300, 3, 0)) rfl rfl rfl).mono ?_
  rintro e w' ⟨rfl, rfl⟩
  go_wp2_with fail
  refine (law01put_at 300 _ ⟨#[172, 2]⟩ (by decide) (by decide) (by rw [show (300 : Int).toNat = 300 from rfl, vb300])).mono ?_
  rintro e w1 ⟨rfl, hb1⟩
  have HB1 := Kp.mk hb1
  clear hb1
  go_wp2_with fail
  refine (Len_at 300 2 _ (by decide) (by decide) (by rw [show (300 : Int).toNat = 300 from rfl, vb300]; rfl)).mono ?_
  rintro e w' ⟨rfl, rfl⟩
  go_wp2_with fail
  refine (Zig_at (-1) 1 _ (by decide) (by decide) (by decide)).mono ?_
  rintro e w' ⟨rfl, rfl⟩
  go_wp2_with fail
  refine (Zig_at 1 2 _ (by decide) (by decide) (by decide)).mono ?_
  rintro e w' ⟨rfl, rfl⟩
  go_wp2_with fail
  refine (Zig_at (-9223372036854775808) 18446744073709551615 _ (by decide) (by decide) (by decide +kernel)).mono ?_
  rintro e w' ⟨rfl, rfl⟩
  go_wp2_with fail
  refine (PutFixed_any _ w1.heap.size [] 258 4 w1 (BRow.nil _ _) (Nat.le_refl _) (by decide) (by decide)).mono ?_
  rintro e w2 ⟨v2, rfl, h1, h2, h3⟩
  have hc := h1.string 9 Try.underlying9
  have e2 : (⟨([] ++ fixedOf 258 4 : List UInt8).toArray⟩ : ByteArray) = ⟨#[2, 1, 0, 0]⟩ := by decide +kernel
  rw [e2] at hc
  have HB2 : Kp (Below w1.heap.size w1 w2) := ⟨(Below.refl _ _).grown h2 (Nat.le_refl _) (fun k hk => by cases hk)⟩
  clear h1 h2 h3 e2
  go_wp2
  go_ret
  exact ⟨rfl, HB1.out.trans (HB2.out.mono HB1.out.size)⟩
theorem u64_nat {a : Int} (h : (Lit.int .u64 a).wf = true) : ∃ n : Nat, a = n ∧ n < 18446744073709551616 := by
  have h' : 0 ≤ a ∧ a < 18446744073709551616 := by
    simp [Lit.wf, IntKind.min, IntKind.max, IntKind.signed, IntKind.bits] at h
    omega
  exact ⟨a.toNat, by omega, by omega⟩
theorem u8_nat {a : Int} (h : (Lit.int .u8 a).wf = true) : ∃ n : Nat, a = n ∧ n < 256 := by
  have h' : 0 ≤ a ∧ a < 256 := by
    simp [Lit.wf, IntKind.min, IntKind.max, IntKind.signed, IntKind.bits] at h
    omega
  exact ⟨a.toNat, by omega, by omega⟩
theorem i64_int {a : Int} (h : (Lit.int .i64 a).wf = true) : -9223372036854775808 ≤ a ∧ a ≤ 9223372036854775807 := by
  simp [Lit.wf, IntKind.min, IntKind.max, IntKind.signed, IntKind.bits] at h
  omega
def B (l : List UInt8) : ByteArray := ⟨l.toArray⟩
theorem B_list (l : List UInt8) : (B l).data.toList = l := by simp [B]
theorem B_size (l : List UInt8) : (B l).size = l.length := by simp [B, ByteArray.size]
theorem B_append (l m : List UInt8) : B l ++ B m = B (l ++ m) := by
  simp [B, ByteArray.ext_iff]
end Go.Proofs.Ytmfigoffkopohaa
