/- The walk of SumTells: it returns true, and leaves what was there. -/
import Derived.Test.YtinbmoafdmccfaaDoorSumAwake
import Derived.Test.YtinbmoafdmccfaaDoorSumRefThree
namespace Go.Proofs.YtinbmoafdmccfaaDoor
open Go.RowKit

set_option maxRecDepth 100000 in
set_option maxHeartbeats 2000000 in
theorem sumTells_small (s t : ByteArray) (a b : Nat) (n : Int) (w : World) (hs : s.size ≤ 20000) (h2 : t.size ≤ 20000) (ha : a < 4294967296) (hb : b < 4294967296) (hn : n ≤ 9223372036854775807) (ht : Tab w) :
    Calls Tryd.prog 8 #[.string s, .string t, .int .u32 a, .int .u32 b, .int .i64 n] w fun e w' => e = .returned (.bool true) ∧ Below w.heap.size w w' := by
  have HT : Kp (Tab w) := ⟨ht⟩
  have H1 : Kp (Crc.crc s.data.toList < 4294967296) := ⟨Crc.crc_lt s.data.toList⟩
  have H2 : Kp (Crc.crc t.data.toList < 4294967296) := ⟨Crc.crc_lt t.data.toList⟩
  have HSA : Kp (decide (Crc.mask (Crc.crc s.data.toList) = a) = ((a : Int) == ((Crc.mask (Crc.crc s.data.toList) : Nat) : Int))) := ⟨by
    rw [beq_nat, Bool.eq_iff_iff]; simp only [decide_eq_true_eq]; exact ⟨Eq.symm, Eq.symm⟩⟩
  have HST : Kp (decide (Crc.mask (Crc.crc t.data.toList) = Crc.mask (Crc.crc s.data.toList)) = (((Crc.crc t.data.toList : Nat) : Int) == ((Crc.crc s.data.toList : Nat) : Int))) := ⟨by
    rw [beq_nat, Bool.eq_iff_iff]; simp only [decide_eq_true_eq]; exact ⟨fun h => Crc.mask_inj H2.out H1.out h, fun h => by rw [h]⟩⟩
  clear ht
  go_enter Tryd.func8, Tryd.ntmps8
  go_wp2_with fail
  refine (refOf_any s _ (by omega)).mono ?_
  rintro e w' ⟨rfl, rfl⟩
  go_wp2_with fail
  refine (refMask_any _ _ H1.out).mono ?_
  rintro e w' ⟨rfl, rfl⟩
  go_wp2_with fail
  refine (awake_any _ HT.out).mono ?_
  rintro e w1 ⟨rfl, hb1⟩
  replace HT : Kp (Tab w1) := ⟨HT.out.below hb1⟩
  have HB : Kp (Below w.heap.size w w1) := ⟨hb1⟩
  clear hb1
  go_wp2_with fail
  refine (of_any s _ (by omega) HT.out).mono ?_
  rintro e w' ⟨rfl, rfl⟩
  go_wp2_with fail
  refine (refOf_any s _ (by omega)).mono ?_
  rintro e w' ⟨rfl, rfl⟩
  go_wp2_with fail
  refine (add_any a t _ ha (by omega) HT.out).mono ?_
  rintro e w' ⟨rfl, rfl⟩
  go_wp2_with fail
  refine (refAdd_any a t _ ha (by omega)).mono ?_
  rintro e w' ⟨rfl, rfl⟩
  go_wp2_with fail
  refine (mask_any a _ ha).mono ?_
  rintro e w' ⟨rfl, rfl⟩
  go_wp2_with fail
  refine (refMask_any a _ ha).mono ?_
  rintro e w' ⟨rfl, rfl⟩
  go_wp2_with fail
  refine (plain_any a _ ha).mono ?_
  rintro e w' ⟨rfl, rfl⟩
  go_wp2_with fail
  refine (refPlain_any a _ ha).mono ?_
  rintro e w' ⟨rfl, rfl⟩
  go_wp2_with fail
  refine (join_any a b n _ ha hb hn).mono ?_
  rintro e w2 ⟨rfl, hb2⟩
  replace HT : Kp (Tab w2) := ⟨HT.out.below hb2⟩
  replace HB : Kp (Below w.heap.size w w2) := ⟨HB.out.trans (hb2.mono HB.out.size)⟩
  clear hb2
  go_wp2_with fail
  refine (refJoin_any a b n _ ha hb hn).mono ?_
  rintro e w3 ⟨rfl, hb3⟩
  replace HT : Kp (Tab w3) := ⟨HT.out.below hb3⟩
  replace HB : Kp (Below w.heap.size w w3) := ⟨HB.out.trans (hb3.mono HB.out.size)⟩
  clear hb3
  go_wp2_with fail
  refine (same_any s _ _ (by omega) HT.out).mono ?_
  rw [show decide (Crc.mask (Crc.crc s.data.toList) = Crc.mask (Crc.crc s.data.toList)) = true from by simp]
  rintro e w' ⟨rfl, rfl⟩
  go_wp2_with fail
  refine (same_any s a _ (by omega) HT.out).mono ?_
  rw [HSA.out]
  rintro e w' ⟨rfl, rfl⟩
  go_wp2_with fail
  refine (same_any t _ _ (by omega) HT.out).mono ?_
  rw [HST.out]
  rintro e w' ⟨rfl, rfl⟩
  go_wp2_with fail
  refine (refOf_any t _ (by omega)).mono ?_
  rintro e w' ⟨rfl, rfl⟩
  go_wp2_with fail
  refine (refOf_any s _ (by omega)).mono ?_
  rintro e w' ⟨rfl, rfl⟩
  go_wp2_with fail
  go_ret
  exact ⟨ret_bool (by simp), HB.out⟩
set_option maxRecDepth 100000 in
set_option maxHeartbeats 2000000 in
theorem sumTells_long (s t : ByteArray) (a b n : Int) (w : World) (hl : s.size ≤ maxLen) (hl2 : t.size ≤ maxLen) (hs : 20000 < s.size ∨ 20000 < t.size) (ht : Tab w) :
    Calls Tryd.prog 8 #[.string s, .string t, .int .u32 a, .int .u32 b, .int .i64 n] w fun e w' => e = .returned (.bool true) ∧ Below w.heap.size w w' := by
  have HT : Kp (Tab w) := ⟨ht⟩
  unfold maxLen at hl hl2
  clear ht
  by_cases h1 : 20000 < s.size
  · clear hs
    go_enter Tryd.func8, Tryd.ntmps8
    go_wp2_with (refine (awake_any _ HT.out).mono ?_; rintro e w1 ⟨rfl, hb1⟩)
    go_ret
    exact ⟨rfl, hb1⟩
  · have h2 : 20000 < t.size := by omega
    clear hs
    go_enter Tryd.func8, Tryd.ntmps8
    go_wp2_with (refine (awake_any _ HT.out).mono ?_; rintro e w1 ⟨rfl, hb1⟩)
    go_ret
    exact ⟨rfl, hb1⟩
theorem i64_range {a : Int} (h : (Lit.int .i64 a).wf = true) : -9223372036854775808 ≤ a ∧ a ≤ 9223372036854775807 := by
  simp [Lit.wf, IntKind.min, IntKind.max, IntKind.signed, IntKind.bits] at h
  omega
theorem walkSumTells (w : World) (s : ByteArray) (hs : s.size ≤ maxLen) (t : ByteArray) (h2 : t.size ≤ maxLen) (a : Int) (ha : (Lit.int .u32 a).wf = true) (b : Int) (hb : (Lit.int .u32 b).wf = true) (n : Int) (hn : (Lit.int .i64 n).wf = true) (hL : Tab w) :
    Calls Tryd.prog 8 #[.string s, .string t, .int .u32 a, .int .u32 b, .int .i64 n] w fun e w' => e = .returned (.bool true) ∧ Below w.heap.size w w' := by
  obtain ⟨a, rfl, h1⟩ := u32_nat ha
  obtain ⟨b, rfl, h3⟩ := u32_nat hb
  by_cases h : 20000 < s.size ∨ 20000 < t.size
  · exact sumTells_long s t a b n w hs h2 h hL
  · exact sumTells_small s t a b n w (by omega) (by omega) h1 h3 (i64_range hn).2 hL
end Go.Proofs.YtinbmoafdmccfaaDoor
