/- The walk of SumBurst: it returns true, and leaves what was there. -/
import Derived.Test.YtinbmoafdmccfaaDoorSumAwake
import Derived.Test.YtinbmoafdmccfaaDoorMRow
import Derived.OneCell
import Derived.RegionTactic
import Derived.BigRegion
import Derived.ChangeAlike
import Derived.Deep.RegionHeld3
import Derived.WalkSpells
import Derived.Laws.Shifts
import Derived.Laws.ShiftsVarLaws
namespace Go.Proofs.YtinbmoafdmccfaaDoor
open Go.RowKit
set_option linter.unusedVariables false

structure Kp (p : Prop) : Prop where
  out : p
theorem bytes_toList (s : ByteArray) : s.toList = s.data.toList := by
  obtain ⟨⟨l⟩⟩ := s
  show (⟨l.toArray⟩ : ByteArray).toList = l
  simp
theorem xor8 (a b : UInt8) : bits .xor .u8 (a.toNat : Int) (b.toNat : Int) = ((a ^^^ b).toNat : Int) := by
  rw [u8_xor_nat _ _ (UInt8.toNat_lt a) (UInt8.toNat_lt b), Crc.u8_xor_toNat]
theorem burst_store {wr : World} {g : Nat} {l : List UInt8} {bs f k : Nat} (h : MRow wr g (Crc.burst l bs f k)) (hp : f + k < 8 * l.length) (hb : bs / 2 ^ k % 2 = 1) (hj : (f + k) / 8 < (Crc.burst l bs f k).length) :
    MRow (wr.setCell ⟨g, (f + k) / 8, none⟩ (.int .u8 (bits .xor .u8 (((Crc.burst l bs f k)[(f + k) / 8].toNat : Nat) : Int) (2 ^ ((f + k) % 8) % 256)))) g (Crc.burst l bs f (k + 1)) := by
  have e1 : ((2 : Int) ^ ((f + k) % 8) % 256) = (((UInt8.ofNat (2 ^ ((f + k) % 8))).toNat : Nat) : Int) := by
    rw [Crc.ofNat_two_pow (Nat.mod_lt _ (by decide))]
    have : 2 ^ ((f + k) % 8) < 256 := by
      have h8 := Nat.mod_lt (f + k) (show 0 < 8 by decide)
      have := Nat.pow_le_pow_right (show 0 < 2 by decide) (show (f + k) % 8 ≤ 7 by omega)
      omega
    rw [show ((2 : Int) ^ ((f + k) % 8)) = ((2 ^ ((f + k) % 8) : Nat) : Int) from by simp]
    generalize 2 ^ ((f + k) % 8) = m at this
    omega
  have e2 : Crc.burst l bs f (k + 1) = (Crc.burst l bs f k).set ((f + k) / 8) ((Crc.burst l bs f k)[(f + k) / 8] ^^^ UInt8.ofNat (2 ^ ((f + k) % 8))) := by
    rw [Crc.burst, Crc.testBit_div, hb]
    simp only [decide_true, if_true]
    rw [Crc.turned_eq _ _ (by rw [Crc.burst_length]; exact hp)]
    simp [List.getD, List.getElem?_eq_getElem hj]
  rw [e1, xor8, e2]
  exact h.set _ _
theorem burst_same {l : List UInt8} {bs f k : Nat} (hb : ¬ bs / 2 ^ k % 2 = 1) : Crc.burst l bs f (k + 1) = Crc.burst l bs f k := by
  rw [Crc.burst, Crc.testBit_div]
  simp [hb]
set_option maxRecDepth 100000 in
set_option maxHeartbeats 2000000 in
theorem sumBurst_small (w : World) (s : ByteArray) (at' : Int) (bs : Nat) (h0 : 0 < s.size) (h1 : s.size ≤ 20000) (hb : bs < 4294967296) (hL : Tab w) :
    Calls Tryd.prog 6 #[.string s, .int .i64 at', .int .u32 bs] w fun e w' => e = .returned (.bool true) ∧ Below w.heap.size w w' := by
  have HT : Kp (Tab w) := ⟨hL⟩
  clear hL
  have t1 : ((s.size : Int) == 0) = false := by rw [beq_eq_false_iff_ne]; omega
  have t2 : decide ((20000 : Int) < (s.size : Int)) = false := by simp; omega
  have hconv := Lib.run_convert_string_bytes (P := Tryd.prog) w 9 28 5 s Tryd.underlying9 Tryd.underlying28 Tryd.underlying5
  have HM : Kp (MRow (Lib.bytesWorld w 5 s) w.heap.size s.data.toList) := ⟨MRow.made w s⟩
  have HB : Kp (Below w.heap.size w (Lib.bytesWorld w 5 s)) := ⟨below_bytes w s⟩
  generalize grownCap w s.size 0 5 = cap at hconv
  generalize Lib.bytesWorld w 5 s = w1 at hconv HM HB
  obtain ⟨f, hf, hf1⟩ : ∃ f : Nat, wrap64 ((IntKind.u64.wrap at').tmod (8 * (s.size : Int))) = (f : Int) ∧ f < 8 * s.size := by
    have h0 : 0 ≤ IntKind.u64.wrap at' := by rw [IntKind.wrap_u64]; omega
    have h1 := Int.emod_nonneg (IntKind.u64.wrap at') (b := 8 * (s.size : Int)) (by omega)
    have h2 := Int.emod_lt_of_pos (IntKind.u64.wrap at') (b := 8 * (s.size : Int)) (by omega)
    rw [Int.tmod_eq_emod_of_nonneg h0]
    refine ⟨(IntKind.u64.wrap at' % (8 * (s.size : Int))).toNat, ?_, by omega⟩
    unfold wrap64
    omega
  go_enter Tryd.func6, Tryd.ntmps6
  go_wp2
  rw [hf]
  go_loopw [9] (fun i wr => ∃ k : Nat, k ≤ 32 ∧ f + k ≤ 8 * s.size ∧ i = .int .i64 k ∧ MRow wr w.heap.size (Crc.burst s.data.toList bs f k) ∧ Below w.heap.size w wr) (fun i _ => 32 - (intOf i).toNat)
  case atStart => exact ⟨0, by omega, by omega, rfl, HM.out, HB.out⟩
  case round =>
    clear hconv hf t1 t2
    obtain ⟨k, hk, hfk, rfl, hrow, hbel⟩ := hrel
    have hlen : (Crc.burst s.data.toList bs f k).length = s.size := by rw [Crc.burst_length]; simp
    by_cases h32 : k < 32 ∧ f + k < 8 * s.size
    · obtain ⟨hk32, hfk8⟩ := h32
      have hq : ((bs : Int) / 2 ^ k) = ((bs / 2 ^ k : Nat) : Int) := by simp
      have hqlt : bs / 2 ^ k < 4294967296 := Nat.lt_of_le_of_lt (Nat.div_le_self _ _) hb
      have hlow := low_u32 hqlt
      by_cases hbit : bs / 2 ^ k % 2 = 1
      · have hj : (f + k) / 8 < (Crc.burst s.data.toList bs f k).length := by rw [hlen]; omega
        have HN : Kp (MRow (wr.setCell ⟨w.heap.size, (f + k) / 8, none⟩ (.int .u8 (bits .xor .u8 (((Crc.burst s.data.toList bs f k)[(f + k) / 8].toNat : Nat) : Int) (2 ^ ((f + k) % 8) % 256)))) w.heap.size (Crc.burst s.data.toList bs f (k + 1))) := ⟨burst_store hrow (by simpa using hfk8) hbit hj⟩
        have HNb : Kp (Below w.heap.size w (wr.setCell ⟨w.heap.size, (f + k) / 8, none⟩ (.int .u8 (bits .xor .u8 (((Crc.burst s.data.toList bs f k)[(f + k) / 8].toNat : Nat) : Int) (2 ^ ((f + k) % 8) % 256))))) := ⟨hbel.setCell (Nat.le_refl _) _⟩
        generalize bs / 2 ^ k = q at hq hqlt hlow hbit
        rw [hbit] at hlow
        have hc := hrow.cell ((f + k) / 8) hj
        have hz := hrow.free ((f + k) / 8) hj
        clear hrow hbel
        go_wp2
        go_roundw
        case rel => exact ⟨k + 1, by omega, by omega, by go_num, HN.out, HNb.out⟩
        case measure => simp [intOf]; omega
      · have HN : Kp (MRow wr w.heap.size (Crc.burst s.data.toList bs f (k + 1))) := ⟨by rw [burst_same hbit]; exact hrow⟩
        have HNb : Kp (Below w.heap.size w wr) := ⟨hbel⟩
        generalize bs / 2 ^ k = q at hq hqlt hlow hbit
        have hbit' : q % 2 = 0 := by omega
        rw [hbit'] at hlow
        clear hrow hbel hbit hbit'
        go_wp2
        go_roundw
        case rel => exact ⟨k + 1, by omega, by omega, by go_num, HN.out, HNb.out⟩
        case measure => simp [intOf]; omega
    · have hC : Kp (Crc.crc (Crc.burst s.data.toList bs f k) = Crc.crc s.data.toList ↔ Crc.burst s.data.toList bs f k = s.data.toList) := ⟨Crc.crc_burst _ _ _ _ (by simpa using hfk) hk⟩
      generalize Crc.burst s.data.toList bs f k = l at hrow hlen hC
      have HR : Kp (MRow wr w.heap.size l) := ⟨hrow⟩
      replace HB : Kp (Below w.heap.size w wr) := ⟨hbel⟩
      replace HT : Kp (Tab wr) := ⟨HT.out.below hbel⟩
      clear hrow hbel
      have HTd : Kp (Tab wr.drew) := ⟨HT.out⟩
      have HRd : Kp (MRow wr.drew w.heap.size l) := ⟨HR.out.drew⟩
      have HS0 : Kp (ByteArray.size ⟨l.toArray⟩ ≤ 140737488351232) := ⟨by simp [ByteArray.size]; omega⟩
      have HS1 : Kp (s.size ≤ 140737488351232) := ⟨by omega⟩
      have HL : Kp (s.size = l.length) := ⟨hlen.symm⟩
      have HX1 : Kp (Crc.crc l < 4294967296) := ⟨Crc.crc_lt l⟩
      have HX2 : Kp (Crc.crc s.data.toList < 4294967296) := ⟨Crc.crc_lt s.data.toList⟩
      have hEq : ((((Crc.crc l : Nat) : Int) == ((Crc.crc s.data.toList : Nat) : Int)) == (l == s.toList)) = true := by
        rw [beq_nat, beq_iff_eq, Bool.eq_iff_iff, bytes_toList]
        simpa using hC.out
      clear hlen
      have HMq : Kp ((decide (Crc.mask (Crc.crc l) = Crc.mask (Crc.crc s.data.toList)) == (l == s.toList)) = true) := ⟨by
        rw [beq_iff_eq, Bool.eq_iff_iff, bytes_toList]
        have h := hC.out
        constructor
        · intro h2
          simpa using h.1 (Crc.mask_inj HX1.out HX2.out (by simpa using h2))
        · intro h2
          have e : l = s.data.toList := by simpa using h2
          simp [h.2 e]⟩
      by_cases hk32 : k < 32
      · have hfk8 : ¬ f + k < 8 * s.size := fun h => h32 ⟨hk32, h⟩
        clear h32
        go_wp2
        go_region_held3 (fun w' => (convert 28 9 (.slice (some ⟨w.heap.size, 0, none⟩) s.size cap)).run Tryd.prog w' = .ok (.string ⟨l.toArray⟩) w')
          (first | (rw [HL.out]; exact HR.out.string _ _ Tryd.underlying9) | (rw [HL.out]; exact HRd.out.string _ _ Tryd.underlying9) | (rw [HL.out]; exact (HRd.out.below (by assumption)).string _ _ Tryd.underlying9))
          (first
            | (go_at_call 10; refine (awake_any _ HTd.out).mono ?_; rintro e w1 ⟨rfl, hb1⟩)
            | (go_at_call 11; refine (of_any _ _ (by first | exact HS0.out | exact HS1.out) (HTd.out.below (by assumption))).mono ?_; rintro e w' ⟨rfl, rfl⟩)
            | (go_at_call 15; refine (mask_any _ _ HX2.out).mono ?_; rintro e w' ⟨rfl, rfl⟩)
            | (go_at_call 14; refine (same_any _ _ _ HS0.out (HTd.out.below (by assumption))).mono ?_; rintro e w' ⟨rfl, rfl⟩))
        go_wp2
        go_ret
        refine ⟨ret_bool ?_, HB.out.drew.trans (hb1.mono HB.out.size)⟩
        exact HMq.out
      · clear h32
        go_wp2
        go_region_held3 (fun w' => (convert 28 9 (.slice (some ⟨w.heap.size, 0, none⟩) s.size cap)).run Tryd.prog w' = .ok (.string ⟨l.toArray⟩) w')
          (first | (rw [HL.out]; exact HR.out.string _ _ Tryd.underlying9) | (rw [HL.out]; exact HRd.out.string _ _ Tryd.underlying9) | (rw [HL.out]; exact (HRd.out.below (by assumption)).string _ _ Tryd.underlying9))
          (first
            | (go_at_call 10; refine (awake_any _ HTd.out).mono ?_; rintro e w1 ⟨rfl, hb1⟩)
            | (go_at_call 11; refine (of_any _ _ (by first | exact HS0.out | exact HS1.out) (HTd.out.below (by assumption))).mono ?_; rintro e w' ⟨rfl, rfl⟩)
            | (go_at_call 15; refine (mask_any _ _ HX2.out).mono ?_; rintro e w' ⟨rfl, rfl⟩)
            | (go_at_call 14; refine (same_any _ _ _ HS0.out (HTd.out.below (by assumption))).mono ?_; rintro e w' ⟨rfl, rfl⟩))
        go_wp2
        go_ret
        refine ⟨ret_bool ?_, HB.out.drew.trans (hb1.mono HB.out.size)⟩
        exact HMq.out
theorem sumBurst_long (w : World) (s : ByteArray) (at' : Int) (bs : Nat) (hs : s.size ≤ maxLen) (h : s.size = 0 ∨ 20000 < s.size) (hL : Tab w) :
    Calls Tryd.prog 6 #[.string s, .int .i64 at', .int .u32 bs] w fun e w' => e = .returned (.bool true) ∧ Below w.heap.size w w' := by
  have HT : Kp (Tab w) := ⟨hL⟩
  clear hL
  unfold maxLen at hs
  by_cases h0 : s.size = 0
  · have t1 : ((s.size : Int) == 0) = true := by rw [beq_iff_eq]; omega
    clear h h0
    go_enter Tryd.func6, Tryd.ntmps6
    go_wp2_with (refine (awake_any _ HT.out).mono ?_; rintro e w1 ⟨rfl, hb1⟩)
    go_ret
    exact ⟨rfl, hb1⟩
  · have t1 : ((s.size : Int) == 0) = false := by rw [beq_eq_false_iff_ne]; omega
    have t2 : decide ((20000 : Int) < (s.size : Int)) = true := by simp; omega
    clear h h0
    go_enter Tryd.func6, Tryd.ntmps6
    go_wp2_with (refine (awake_any _ HT.out).mono ?_; rintro e w1 ⟨rfl, hb1⟩)
    go_ret
    exact ⟨rfl, hb1⟩
theorem walkSumBurst (w : World) (s : ByteArray) (hs : s.size ≤ maxLen) (at' : Int) (_ha : (Lit.int .i64 at').wf = true) (b : Int) (hb : (Lit.int .u32 b).wf = true) (hL : Tab w) :
    Calls Tryd.prog 6 #[.string s, .int .i64 at', .int .u32 b] w fun e w' => e = .returned (.bool true) ∧ Below w.heap.size w w' := by
  obtain ⟨b, rfl, h1⟩ := u32_nat hb
  by_cases h : s.size = 0 ∨ 20000 < s.size
  · exact sumBurst_long w s at' b hs h hL
  · exact sumBurst_small w s at' b (by omega) (by omega) h1 hL
end Go.Proofs.YtinbmoafdmccfaaDoor
