/- The walk of SumJoined: it returns true, and leaves what was there. -/
import Derived.Test.YtinbmoafdmccfaaDoorSumAwake
import Derived.LaidLaws
namespace Go.Proofs.YtinbmoafdmccfaaDoor
open Go.RowKit

theorem data_append (s t : ByteArray) : (s ++ t).data.toList = s.data.toList ++ t.data.toList := by simp
theorem sumJoined_small (s t : ByteArray) (w : World) (hs : s.size ≤ 20000) (h2 : t.size ≤ 20000) (ht : Tab w) :
    Calls Tryd.prog 3 #[.string s, .string t] w fun e w' => e = .returned (.bool true) ∧ Below w.heap.size w w' := by
  have HT := Lib.hid ht
  have HS : Hid ((s ++ t).size ≤ 140737488351232) := Lib.hid (by simp; omega)
  have H1 := Lib.hid (Crc.crc_lt s.data.toList)
  have H2 := Lib.hid (Crc.crc_lt t.data.toList)
  have H3 := Lib.hid (Crc.crc_lt (s ++ t).data.toList)
  have HJ : Hid (Crc.join (Crc.crc s.data.toList) (Crc.crc t.data.toList) (t.size : Int) = Crc.crc (s ++ t).data.toList) := Lib.hid (by
    unfold Crc.join
    rw [Int.toNat_natCast, data_append, ← Crc.join_crc]
    simp)
  have HA : Hid (Crc.add (Crc.crc s.data.toList) t.data.toList = Crc.crc (s ++ t).data.toList) := Lib.hid (by
    unfold Crc.crc
    rw [data_append, Crc.add_append])
  have HN : Hid (Crc.add (Crc.crc (s ++ t).data.toList) [] = Crc.crc (s ++ t).data.toList) := Lib.hid (Crc.add_nil _)
  have HZ : Hid (Crc.join (Crc.crc (s ++ t).data.toList) 0 0 = Crc.crc (s ++ t).data.toList) := Lib.hid (by
    unfold Crc.join Crc.carry
    rw [Nat.xor_zero]; rfl)
  clear ht
  go_enter Tryd.func3, Tryd.ntmps3
  go_wp2_with fail
  refine (of_any _ _ HS.out HT.out).mono ?_
  rintro e w' ⟨rfl, rfl⟩
  go_wp2_with fail
  refine (awake_any _ HT.out).mono ?_
  rintro e w1 ⟨rfl, hb1⟩
  have HT1 := Lib.hid (HT.out.below hb1)
  have HB1 := Lib.hid hb1
  clear hb1
  go_wp2_with fail
  refine (of_any s _ (by omega) HT1.out).mono ?_
  rintro e w' ⟨rfl, rfl⟩
  go_wp2_with fail
  refine (of_any t _ (by omega) HT1.out).mono ?_
  rintro e w' ⟨rfl, rfl⟩
  go_wp2_with fail
  refine (join_any _ _ _ _ H1.out H2.out (by omega)).mono ?_
  rw [HJ.out]
  rintro e w2 ⟨rfl, hb2⟩
  have HT2 := Lib.hid (HT1.out.below hb2)
  have HB2 := Lib.hid (HB1.out.trans (hb2.mono HB1.out.size))
  clear hb2
  go_wp2_with fail
  refine (of_any s _ (by omega) HT2.out).mono ?_
  rintro e w' ⟨rfl, rfl⟩
  go_wp2_with fail
  refine (add_any _ t _ H1.out (by omega) HT2.out).mono ?_
  rw [HA.out]
  rintro e w' ⟨rfl, rfl⟩
  go_wp2_with fail
  refine (add_any _ ⟨#[]⟩ _ H3.out (by decide) HT2.out).mono ?_
  rw [show (⟨#[]⟩ : ByteArray).data.toList = [] from rfl, HN.out]
  rintro e w' ⟨rfl, rfl⟩
  go_wp2_with fail
  refine (join_any _ 0 0 _ H3.out (by decide) (by decide)).mono ?_
  rw [HZ.out]
  rintro e w3 ⟨rfl, hb3⟩
  have HB3 := Lib.hid (HB2.out.trans (hb3.mono HB2.out.size))
  clear hb3
  go_wp2_with fail
  go_ret
  exact ⟨rfl, HB3.out⟩
theorem sumJoined_long (s t : ByteArray) (w : World) (hl : s.size ≤ maxLen) (hl2 : t.size ≤ maxLen) (hs : 20000 < s.size ∨ 20000 < t.size) (ht : Tab w) :
    Calls Tryd.prog 3 #[.string s, .string t] w fun e w' => e = .returned (.bool true) ∧ Below w.heap.size w w' := by
  have HT := Lib.hid ht
  unfold maxLen at hl hl2
  clear ht
  by_cases h1 : 20000 < s.size
  · clear hs
    go_enter Tryd.func3, Tryd.ntmps3
    go_wp2_with (refine (awake_any _ HT.out).mono ?_; rintro e w1 ⟨rfl, hb1⟩)
    go_ret
    exact ⟨rfl, hb1⟩
  · have h2 : 20000 < t.size := by omega
    clear hs
    go_enter Tryd.func3, Tryd.ntmps3
    go_wp2_with (refine (awake_any _ HT.out).mono ?_; rintro e w1 ⟨rfl, hb1⟩)
    go_ret
    exact ⟨rfl, hb1⟩

theorem walkSumJoined (w : World) (s : ByteArray) (hs : s.size ≤ maxLen) (t : ByteArray) (h2 : t.size ≤ maxLen) (hL : Tab w) :
    Calls Tryd.prog 3 #[.string s, .string t] w fun e w' => e = .returned (.bool true) ∧ Below w.heap.size w w' := by
  by_cases h : 20000 < s.size ∨ 20000 < t.size
  · exact sumJoined_long s t w hs h2 h hL
  · exact sumJoined_small s t w (by omega) (by omega) hL
end Go.Proofs.YtinbmoafdmccfaaDoor
