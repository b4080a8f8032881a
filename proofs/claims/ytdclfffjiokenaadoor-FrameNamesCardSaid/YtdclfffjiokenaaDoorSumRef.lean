/- The walks of the reference of chapter 2. -/
import Derived.Test.YtdclfffjiokenaaDoorSumTwo
import Derived.Laws.AppendOwn
import Derived.Laws.OwnMore
import Derived.Maps.AppendAt
import Derived.Laws.Shifts
import Derived.Laws.ShiftsVarLaws
namespace Go.Proofs.YtdclfffjiokenaaDoor
open Go.RowKit

theorem bit_any (c b : Nat) (w : World) (hc : c < 4294967296) (_hb : b < 2) :
    Calls Tryd.prog 53 #[.int .u32 c, .int .u32 b] w fun e w' => e = .returned (.int .u32 (Crc.rbit c b : Nat)) ∧ w = w' := by
  by_cases h : c % 2 = b
  · have HV : Hid (Crc.rbit c b = c / 2) := Lib.hid (by unfold Crc.rbit; simp [h])
    have ht : (((c : Int) % 2) != (b : Int)) = false := by rw [bne_eq_false_iff_eq]; omega
    clear h
    go_enter Tryd.func53, Tryd.ntmps53
    go_wp2
    go_ret
    exact ⟨ret_u32' (by rw [HV.out]; omega), rfl⟩
  · have HV : Hid (Crc.rbit c b = (c / 2) ^^^ Crc.poly) := Lib.hid (by unfold Crc.rbit; simp [h])
    have ht : (((c : Int) % 2) != (b : Int)) = true := by rw [bne_iff_ne]; omega
    have hx : Hid (bits .xor .u32 ((c : Int) / 2) 2197175160 = ((c / 2 ^^^ Crc.poly : Nat) : Int)) := Lib.hid (by
      have := x32 (a := c / 2) (b := Crc.poly) (by omega) (by decide)
      rw [← this]; rfl)
    clear h
    go_enter Tryd.func53, Tryd.ntmps53
    go_wp2
    go_ret
    exact ⟨ret_u32' (by rw [HV.out, hx.out]), rfl⟩

/-- The loop of the reference's Mask: k turns by one bit. -/
def turnR (c k : Nat) : Nat := c / 2 ^ k + c % 2 ^ k * 2 ^ (32 - k)
def turnL (c k : Nat) : Nat := c / 2 ^ (32 - k) + c % 2 ^ (32 - k) * 2 ^ k
theorem turnR_lt {c k : Nat} (h : c < 4294967296) (hk : k ≤ 32) : turnR c k < 4294967296 := by
  unfold turnR
  have h1 : c / 2 ^ k < 2 ^ (32 - k) := by
    rw [Nat.div_lt_iff_lt_mul (Nat.two_pow_pos _), ← Nat.pow_add, show 32 - k + k = 32 from by omega]; exact h
  have h2 := Nat.mod_lt c (Nat.two_pow_pos k)
  have h3 : c % 2 ^ k * 2 ^ (32 - k) ≤ (2 ^ k - 1) * 2 ^ (32 - k) := Nat.mul_le_mul_right _ (by omega)
  have h4 : (2 ^ k - 1) * 2 ^ (32 - k) = 4294967296 - 2 ^ (32 - k) := by
    rw [Nat.sub_mul, ← Nat.pow_add, show k + (32 - k) = 32 from by omega, Nat.one_mul]
  have h5 : 2 ^ (32 - k) ≤ 4294967296 := by
    have := Nat.pow_le_pow_right (show 0 < 2 by decide) (show 32 - k ≤ 32 by omega)
    simpa using this
  omega
theorem turnR_succ {c k : Nat} (hk : k < 32) : turnR c (k + 1) = turnR c k / 2 + turnR c k % 2 * 2147483648 := by
  have e1 : c / 2 ^ (k + 1) = c / 2 ^ k / 2 := by rw [Nat.pow_succ, Nat.div_div_eq_div_mul]
  have e2 : c % 2 ^ (k + 1) = c % 2 ^ k + 2 ^ k * (c / 2 ^ k % 2) := by rw [Nat.pow_succ, Nat.mod_mul]
  have e3 : 2 ^ (32 - k) = 2 * 2 ^ (31 - k) := by rw [show 32 - k = 31 - k + 1 from by omega, Nat.pow_succ, Nat.mul_comm]
  have e4 : 2 ^ k * 2 ^ (31 - k) = 2147483648 := by rw [← Nat.pow_add, show k + (31 - k) = 31 from by omega]
  unfold turnR
  rw [e1, e2, e3, show 32 - (k + 1) = 31 - k from by omega, Nat.add_mul]
  have e5 : 2 ^ k * (c / 2 ^ k % 2) * 2 ^ (31 - k) = c / 2 ^ k % 2 * 2147483648 := by
    rw [Nat.mul_comm (2 ^ k), Nat.mul_assoc, e4]
  have e6 : c % 2 ^ k * (2 * 2 ^ (31 - k)) = 2 * (c % 2 ^ k * 2 ^ (31 - k)) := by
    rw [Nat.mul_left_comm]
  rw [e5, e6]
  omega
theorem turnR_15 (c : Nat) : turnR c 15 = Crc.rotr c := rfl
theorem refMask_any (c0 : Nat) (w : World) (hc : c0 < 4294967296) :
    Calls Tryd.prog 39 #[.int .u32 c0] w fun e w' => e = .returned (.int .u32 (Crc.mask c0 : Nat)) ∧ w = w' := by
  go_enter Tryd.func39, Tryd.ntmps39
  go_wp2
  go_loop [0, 3] (fun c i => ∃ k : Nat, k ≤ 15 ∧ i = .int .i64 k ∧ c = .int .u32 (turnR c0 k : Nat)) (fun _ i => 15 - (intOf i).toNat)
  case atStart => exact ⟨0, by omega, rfl, by simp [turnR, Nat.mod_one]⟩
  case round =>
    obtain ⟨k, hk, rfl, rfl⟩ := hrel
    have hlt := turnR_lt hc (show k ≤ 32 by omega)
    by_cases h15 : k < 15
    · have HS := Lib.hid (turnR_succ (c := c0) (show k < 32 by omega))
      have hlt2 := turnR_lt hc (show k + 1 ≤ 32 by omega)
      generalize turnR c0 k = t at hlt HS
      go_wp2
      go_round
      case rel => exact ⟨k + 1, by omega, by go_num, by rw [HS.out] at hlt2 ⊢; go_num⟩
      case measure => simp [intOf]; omega
    · obtain rfl : k = 15 := by omega
      rw [turnR_15] at hlt ⊢
      go_wp2
      go_ret
      exact ⟨ret_u32' (by unfold Crc.mask; omega), rfl⟩

theorem turnL_15 (c : Nat) : turnL c 15 = Crc.rotl c := rfl
theorem turnL_lt {c k : Nat} (h : c < 4294967296) (hk : k ≤ 32) : turnL c k < 4294967296 := by
  have e : turnL c k = turnR c (32 - k) := by unfold turnL turnR; rw [show 32 - (32 - k) = k from by omega]
  rw [e]; exact turnR_lt h (by omega)
theorem turnL_succ {c k : Nat} (h : c < 4294967296) (hk : k < 32) : turnL c (k + 1) = turnL c k % 2147483648 * 2 + turnL c k / 2147483648 := by
  have e : ∀ j, j ≤ 32 → turnL c j = turnR c (32 - j) := by
    intro j hj; unfold turnL turnR; rw [show 32 - (32 - j) = j from by omega]
  have hs := turnR_succ (c := c) (k := 32 - (k + 1)) (by omega)
  rw [show 32 - (k + 1) + 1 = 32 - k from by omega, ← e k (by omega), ← e (k + 1) (by omega)] at hs
  have hl := turnL_lt h (show k + 1 ≤ 32 by omega)
  omega
/-- The bits of a byte, so far. -/
def someBits (c b k : Nat) : Nat := Crc.steps k (c ^^^ b % 2 ^ k)
theorem someBits_lt {c b k : Nat} (hc : c < 4294967296) (hb : b < 256) : someBits c b k < 4294967296 :=
  Crc.steps_lt k (Nat.xor_lt_two_pow (n := 32) hc (Nat.lt_of_le_of_lt (Nat.mod_le _ _) (by omega)))
theorem someBits_zero (c b : Nat) : someBits c b 0 = c := by unfold someBits Crc.steps; rw [Nat.pow_zero, Nat.mod_one, Nat.xor_zero]
theorem someBits_8 (c : Nat) (b : UInt8) : someBits c b.toNat 8 = Crc.byte c b := by
  unfold someBits Crc.byte
  rw [Nat.mod_eq_of_lt (UInt8.toNat_lt b)]
theorem someBits_succ (c b k : Nat) : someBits c b (k + 1) = Crc.rbit (someBits c b k) (b / 2 ^ k % 2) := by
  rw [Crc.rbit_eq _ (Nat.mod_lt _ (by decide))]
  exact Crc.bits_step c b k
theorem refAdd_any (c0 : Nat) (s : ByteArray) (w : World) (hc0 : c0 < 4294967296) (hs : s.size ≤ 140737488351232) :
    Calls Tryd.prog 50 #[.int .u32 c0, .string s] w fun e w' => e = .returned (.int .u32 (Crc.add c0 s.data.toList : Nat)) ∧ w = w' := by
  have h1 : bits .xor .u32 (c0 : Int) 4294967295 = ((c0 ^^^ Crc.ones : Nat) : Int) := x32 hc0 Crc.ones_lt
  have hlt : c0 ^^^ Crc.ones < 4294967296 := Nat.xor_lt_two_pow (n := 32) hc0 Crc.ones_lt
  have H0 : Hid (Crc.add c0 s.data.toList = Crc.upd (c0 ^^^ Crc.ones) s.data.toList ^^^ Crc.ones) := Lib.hid rfl
  generalize c0 ^^^ Crc.ones = c1 at h1 hlt H0
  go_enter Tryd.func50, Tryd.ntmps50
  go_wp2
  go_loop [0, 5, 6] (fun c i _ => ∃ k : Nat, k ≤ s.size ∧ i = .int .i64 k ∧ c = .int .u32 (Crc.upd c1 (s.data.toList.take k) : Nat)) (fun _ i _ => s.size - (intOf i).toNat)
  case atStart => exact ⟨0, Nat.zero_le _, rfl, rfl⟩
  case round =>
    obtain ⟨k, hk, rfl, rfl⟩ := hrel
    clear h1
    have hb := Crc.upd_lt hlt (s.data.toList.take k)
    by_cases hklt : k < s.size
    · have HN : Hid (Crc.upd c1 (s.data.toList.take (k + 1)) = Crc.byte (Crc.upd c1 (s.data.toList.take k)) s[k]) := Lib.hid (by rw [take_snoc s k hklt, Crc.upd_append]; rfl)
      generalize Crc.upd c1 (s.data.toList.take k) = c at hb HN
      have hb8 : s[k].toNat < 256 := UInt8.toNat_lt _
      go_wp2
      go_loop [0, 6] (fun x i => ∃ j : Nat, j ≤ 8 ∧ i = .int .i64 j ∧ x = .int .u32 (someBits c s[k].toNat j : Nat)) (fun _ i => 8 - (intOf i).toNat)
      case atStart => exact ⟨0, by omega, rfl, by rw [someBits_zero]⟩
      case round =>
        obtain ⟨j, hj, rfl, rfl⟩ := hrel
        have hx := someBits_lt (k := j) hb hb8
        by_cases hj8 : j < 8
        · have HB := Lib.hid (someBits_succ c s[k].toNat j)
          generalize someBits c s[k].toNat j = x at hx HB
          have hbit : s[k].toNat / 2 ^ j % 2 < 2 := Nat.mod_lt _ (by decide)
          go_wp2_with fail
          rw [show ((s[k].toNat : Int) / 2 ^ j % 2) = ((s[k].toNat / 2 ^ j % 2 : Nat) : Int) from by simp]
          refine (bit_any _ _ _ hx hbit).mono ?_
          rw [← HB.out]
          rintro e w' ⟨rfl, rfl⟩
          go_wp2_with fail
          go_round
          case rel => exact ⟨j + 1, by omega, by go_num, rfl⟩
          case measure => simp [intOf]; omega
        · obtain rfl : j = 8 := by omega
          rw [someBits_8] at hx ⊢
          go_wp2
          go_round
          case rel => exact ⟨k + 1, by omega, by go_num, by rw [HN.out]⟩
          case measure => simp [intOf]; omega
    · obtain rfl : k = s.size := by omega
      rw [List.take_of_length_le (by simp)] at hb ⊢
      have HE : Hid (bits .xor .u32 ((Crc.upd c1 s.data.toList : Nat) : Int) 4294967295 = ((Crc.upd c1 s.data.toList ^^^ Crc.ones : Nat) : Int)) := Lib.hid (x32 hb Crc.ones_lt)
      go_wp2
      go_ret
      exact ⟨ret_u32' (by rw [HE.out, H0.out]), rfl⟩
theorem refOf_any (s : ByteArray) (w : World) (hs : s.size ≤ 140737488351232) :
    Calls Tryd.prog 40 #[.string s] w fun e w' => e = .returned (.int .u32 (Crc.crc s.data.toList : Nat)) ∧ w = w' := by
  go_enter Tryd.func40, Tryd.ntmps40
  go_wp2_with (refine (refAdd_any 0 s w (by decide) hs).mono ?_; rintro e w' ⟨rfl, rfl⟩)
  go_ret
  exact ⟨rfl, rfl⟩
end Go.Proofs.YtdclfffjiokenaaDoor
