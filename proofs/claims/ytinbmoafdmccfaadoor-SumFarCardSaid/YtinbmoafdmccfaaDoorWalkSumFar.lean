/- The walk of SumFar: it returns true, and leaves what was there. -/
import Derived.Test.YtinbmoafdmccfaaDoorSumAwake
namespace Go.Proofs.YtinbmoafdmccfaaDoor
open Go.RowKit

theorem i64_range {a : Int} (h : (Lit.int .i64 a).wf = true) : -9223372036854775808 ≤ a ∧ a ≤ 9223372036854775807 := by
  simp [Lit.wf, IntKind.min, IntKind.max, IntKind.signed, IntKind.bits] at h
  omega
theorem rest60 (n : Int) : ∃ x : Int, wrap64 ((IntKind.u64.wrap n).tmod 1152921504606846976) = x ∧ 0 ≤ x ∧ x < 1152921504606846976 := by
  refine ⟨_, rfl, ?_⟩
  have h0 : 0 ≤ IntKind.u64.wrap n := by rw [IntKind.wrap_u64]; omega
  rw [Int.tmod_eq_emod_of_nonneg h0]
  unfold wrap64
  omega
theorem join_join (a b : Nat) (x y : Int) (hx : 0 ≤ x) (hy : 0 ≤ y) : Crc.join (Crc.join a 0 x) b y = Crc.join a b (x + y) := by
  unfold Crc.join
  rw [Nat.xor_zero, Crc.carry_carry, Int.toNat_add hx hy]
theorem join_both (a b : Nat) (x : Int) : Crc.join (a ^^^ b) 0 x = Crc.join a (Crc.join b 0 x) x := by
  unfold Crc.join
  rw [Nat.xor_zero, Nat.xor_zero, Crc.carry_xor]
theorem join_neg (a b : Nat) (x : Int) (hx : 0 ≤ x) : Crc.join a b (-x) = a ^^^ b := by
  unfold Crc.join
  rw [show (-x).toNat = 0 from by omega]; rfl
theorem walkSumFar (w : World) (a : Int) (ha : (Lit.int .u32 a).wf = true) (b : Int) (hb : (Lit.int .u32 b).wf = true) (n : Int) (_hn : (Lit.int .i64 n).wf = true) (m : Int) (_hm : (Lit.int .i64 m).wf = true) (hL : Tab w) :
    Calls Tryd.prog 5 #[.int .u32 a, .int .u32 b, .int .i64 n, .int .i64 m] w fun e w' => e = .returned (.bool true) ∧ Below w.heap.size w w' := by
  obtain ⟨a, rfl, h1⟩ := u32_nat ha
  obtain ⟨b, rfl, h2⟩ := u32_nat hb
  clear ha hb
  have HT := Lib.hid hL
  clear hL
  obtain ⟨x, ex, hx0, hx⟩ := rest60 n
  obtain ⟨y, ey, hy0, hy⟩ := rest60 m
  have J1 := Lib.hid (join_join a b x y hx0 hy0)
  have J2 := Lib.hid (join_both a b x)
  have J3 := Lib.hid (join_neg a b x hx0)
  have hx3 := x32 h1 h2
  have H3 : Hid (a ^^^ b < 4294967296) := Lib.hid (Nat.xor_lt_two_pow (n := 32) h1 h2)
  have H4 := Lib.hid (Crc.join_lt x h1 (show 0 < 4294967296 by decide))
  have H5 := Lib.hid (Crc.join_lt x h2 (show 0 < 4294967296 by decide))
  go_enter Tryd.func5, Tryd.ntmps5
  go_wp2_with fail
  refine (awake_any _ HT.out).mono ?_
  rintro e w1 ⟨rfl, hb1⟩
  have HB := Lib.hid hb1
  clear hb1
  go_wp2_with fail
  refine (join_any a 0 x _ h1 (by decide) (by omega)).mono ?_
  rintro e w2 ⟨rfl, hb2⟩
  replace HB := Lib.hid (HB.out.trans (hb2.mono HB.out.size))
  clear hb2
  go_wp2_with fail
  refine (join_any (Crc.join a 0 x) b y _ H4.out h2 (by omega)).mono ?_
  rw [J1.out]
  rintro e w3 ⟨rfl, hb2⟩
  replace HB := Lib.hid (HB.out.trans (hb2.mono HB.out.size))
  clear hb2
  go_wp2_with fail
  refine (join_any a b (x + y) _ h1 h2 (by omega)).mono ?_
  rintro e w4 ⟨rfl, hb2⟩
  replace HB := Lib.hid (HB.out.trans (hb2.mono HB.out.size))
  clear hb2
  go_wp2_with fail
  refine (join_any (a ^^^ b) 0 x _ H3.out (by decide) (by omega)).mono ?_
  rw [J2.out]
  rintro e w5 ⟨rfl, hb2⟩
  replace HB := Lib.hid (HB.out.trans (hb2.mono HB.out.size))
  clear hb2
  go_wp2_with fail
  refine (join_any b 0 x _ h2 (by decide) (by omega)).mono ?_
  rintro e w6 ⟨rfl, hb2⟩
  replace HB := Lib.hid (HB.out.trans (hb2.mono HB.out.size))
  clear hb2
  go_wp2_with fail
  refine (join_any a (Crc.join b 0 x) x _ h1 H5.out (by omega)).mono ?_
  rintro e w7 ⟨rfl, hb2⟩
  replace HB := Lib.hid (HB.out.trans (hb2.mono HB.out.size))
  clear hb2
  go_wp2_with fail
  refine (join_any a b (-x) _ h1 h2 (by omega)).mono ?_
  rw [J3.out]
  rintro e w8 ⟨rfl, hb2⟩
  replace HB := Lib.hid (HB.out.trans (hb2.mono HB.out.size))
  clear hb2
  go_wp2_with fail
  go_ret
  exact ⟨ret_bool (by simp), HB.out⟩
end Go.Proofs.YtinbmoafdmccfaaDoor
