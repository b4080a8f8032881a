/- The examples that each statement of chapter 2 asks. -/
import Derived.Test.YtinbmoafdmccfaaDoorSumTwo
namespace Go.Proofs.YtinbmoafdmccfaaDoor
open Go.RowKit

theorem u32_nat {a : Int} (h : (Lit.int .u32 a).wf = true) : ∃ n : Nat, a = n ∧ n < 4294967296 := by
  have h' : 0 ≤ a ∧ a < 4294967296 := by
    simp [Lit.wf, IntKind.min, IntKind.max, IntKind.signed, IntKind.bits] at h
    omega
  exact ⟨a.toNat, by omega, by omega⟩
theorem of_at (s : ByteArray) (v : Int) (w : World) (hs : s.size ≤ 140737488351232) (hv : ((Crc.crc s.data.toList : Nat) : Int) = v) (ht : Tab w) :
    Calls Tryd.prog 11 #[.string s] w fun e w' => e = .returned (.int .u32 v) ∧ w = w' :=
  (of_any s w hs ht).mono fun e w' ⟨he, hw⟩ => ⟨by rw [he, hv], hw⟩
theorem add_at (c : Int) (s : ByteArray) (v : Int) (w : World) (h0 : 0 ≤ c) (h1 : c < 4294967296) (hs : s.size ≤ 140737488351232) (hv : ((Crc.add c.toNat s.data.toList : Nat) : Int) = v) (ht : Tab w) :
    Calls Tryd.prog 13 #[.int .u32 c, .string s] w fun e w' => e = .returned (.int .u32 v) ∧ w = w' := by
  obtain ⟨n, rfl⟩ := Int.eq_ofNat_of_zero_le h0
  rw [Int.toNat_natCast] at hv
  exact (add_any n s w (by omega) hs ht).mono fun e w' ⟨he, hw⟩ => ⟨by rw [he, hv], hw⟩
theorem join_at (a b n : Int) (v : Int) (w : World) (ha0 : 0 ≤ a) (ha : a < 4294967296) (hb0 : 0 ≤ b) (hb : b < 4294967296) (hn : n ≤ 9223372036854775807) (hv : ((Crc.join a.toNat b.toNat n : Nat) : Int) = v) :
    Calls Tryd.prog 12 #[.int .u32 a, .int .u32 b, .int .i64 n] w fun e w' => e = .returned (.int .u32 v) ∧ Below w.heap.size w w' := by
  obtain ⟨a, rfl⟩ := Int.eq_ofNat_of_zero_le ha0
  obtain ⟨b, rfl⟩ := Int.eq_ofNat_of_zero_le hb0
  rw [Int.toNat_natCast, Int.toNat_natCast] at hv
  exact (join_any a b n w (by omega) (by omega) hn).mono fun e w' ⟨he, hw⟩ => ⟨by rw [he, hv], hw⟩
theorem mask_at (c : Int) (v : Int) (w : World) (h0 : 0 ≤ c) (h1 : c < 4294967296) (hv : ((Crc.mask c.toNat : Nat) : Int) = v) :
    Calls Tryd.prog 15 #[.int .u32 c] w fun e w' => e = .returned (.int .u32 v) ∧ w = w' := by
  obtain ⟨n, rfl⟩ := Int.eq_ofNat_of_zero_le h0
  rw [Int.toNat_natCast] at hv
  exact (mask_any n w (by omega)).mono fun e w' ⟨he, hw⟩ => ⟨by rw [he, hv], hw⟩
theorem plain_at (c : Int) (v : Int) (w : World) (h0 : 0 ≤ c) (h1 : c < 4294967296) (hv : ((Crc.plain c.toNat : Nat) : Int) = v) :
    Calls Tryd.prog 16 #[.int .u32 c] w fun e w' => e = .returned (.int .u32 v) ∧ w = w' := by
  obtain ⟨n, rfl⟩ := Int.eq_ofNat_of_zero_le h0
  rw [Int.toNat_natCast] at hv
  exact (plain_any n w (by omega)).mono fun e w' ⟨he, hw⟩ => ⟨by rw [he, hv], hw⟩

theorem awake_any (w : World) (ht : Tab w) : Calls Tryd.prog 10 #[] w fun e w' => e = .returned (.bool true) ∧ Below w.heap.size w w' := by
  have HT := Lib.hid ht
  clear ht
  go_enter Tryd.func10, Tryd.ntmps10
  go_wp2_with fail
  refine (of_at _ 0 _ (by decide) (by decide +kernel) HT.out).mono ?_
  rintro e w' ⟨rfl, rfl⟩
  go_wp2_with fail
  refine (of_at _ 3251651376 _ (by decide) (by decide +kernel) HT.out).mono ?_
  rintro e w' ⟨rfl, rfl⟩
  go_wp2_with fail
  refine (of_at _ 3808858755 _ (by decide) (by decide +kernel) HT.out).mono ?_
  rintro e w' ⟨rfl, rfl⟩
  go_wp2_with fail
  refine (mask_at 0 2726488792 _ (by decide) (by decide) (by decide +kernel)).mono ?_
  rintro e w' ⟨rfl, rfl⟩
  go_wp2_with fail
  refine (join_at 1 2 0 3 _ (by decide) (by decide) (by decide) (by decide) (by decide) (by decide +kernel)).mono ?_
  rintro e w1 ⟨rfl, hb1⟩
  have HB1 := Lib.hid hb1
  clear hb1
  go_wp2_with fail
  refine (join_at 1 0 1 4067132163 _ (by decide) (by decide) (by decide) (by decide) (by decide) (by decide +kernel)).mono ?_
  rintro e w2 ⟨rfl, hb2⟩
  have HB2 := Lib.hid hb2
  clear hb2
  go_wp2_with fail
  go_ret
  exact ⟨rfl, HB1.out.trans (HB2.out.mono HB1.out.size)⟩
end Go.Proofs.YtinbmoafdmccfaaDoor
