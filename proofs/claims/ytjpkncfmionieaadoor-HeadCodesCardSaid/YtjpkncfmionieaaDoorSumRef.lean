/- The walks of the reference of chapter 2. -/
import Derived.Test.YtjpkncfmionieaaDoorSumAwake
import Derived.Laws.AppendOwn
import Derived.Laws.OwnMore
import Derived.Maps.AppendAt
import Derived.Laws.Shifts
import Derived.Laws.ShiftsVarLaws
namespace Go.Proofs.YtjpkncfmionieaaDoor
open Go.RowKit

/-- The loop of the reference's Mask: k turns by one bit. -/
def turnR (c k : Nat) : Nat := c / 2 ^ k + c % 2 ^ k * 2 ^ (32 - k)
def turnL (c k : Nat) : Nat := c / 2 ^ (32 - k) + c % 2 ^ (32 - k) * 2 ^ k
theorem turnR_lt {c k : Nat} (h : c < 4294967296) (hk : k ≤ 32) : turnR c k < 4294967296 := by
  unfold turnR
  have h1 : c / 2 ^ k < 2 ^ (32 - k) := by
    rw [Nat.div_lt_iff_lt_mul (Nat.two_pow_pos _), ← Nat.pow_add, show 32 - k + k = 32 from by omega]; exact h
  have h2 := Nat.mod_lt c (Nat.two_pow_pos k)
  have h3 : c % 2 ^ k * 2 ^ (32 - k) ≤ (2 ^ k - 1) * 2 ^ (32 - k) := Nat.mul_le_mul_right _ (by omega)
  have h4 : (2 ^ k - 1) * 2 ^ (32 - k) = 4294967296 - 2 ^ (32 - k) := by
    rw [Nat.sub_mul, ← Nat.pow_add, show k + (32 - k) = 32 from by omega, Nat.one_mul]
  have h5 : 2 ^ (32 - k) ≤ 4294967296 := by
    have := Nat.pow_le_pow_right (show 0 < 2 by decide) (show 32 - k ≤ 32 by omega)
    simpa using this
  omega
theorem turnR_succ {c k : Nat} (hk : k < 32) : turnR c (k + 1) = turnR c k / 2 + turnR c k % 2 * 2147483648 := by
  have e1 : c / 2 ^ (k + 1) = c / 2 ^ k / 2 := by rw [Nat.pow_succ, Nat.div_div_eq_div_mul]
  have e2 : c % 2 ^ (k + 1) = c % 2 ^ k + 2 ^ k * (c / 2 ^ k % 2) := by rw [Nat.pow_succ, Nat.mod_mul]
  have e3 : 2 ^ (32 - k) = 2 * 2 ^ (31 - k) := by rw [show 32 - k = 31 - k + 1 from by omega, Nat.pow_succ, Nat.mul_comm]
  have e4 : 2 ^ k * 2 ^ (31 - k) = 2147483648 := by rw [← Nat.pow_add, show k + (31 - k) = 31 from by omega]
  unfold turnR
  rw [e1, e2, e3, show 32 - (k + 1) = 31 - k from by omega, Nat.add_mul]
  have e5 : 2 ^ k * (c / 2 ^ k % 2) * 2 ^ (31 - k) = c / 2 ^ k % 2 * 2147483648 := by
    rw [Nat.mul_comm (2 ^ k), Nat.mul_assoc, e4]
  have e6 : c % 2 ^ k * (2 * 2 ^ (31 - k)) = 2 * (c % 2 ^ k * 2 ^ (31 - k)) := by
    rw [Nat.mul_left_comm]
  rw [e5, e6]
  omega
theorem turnR_15 (c : Nat) : turnR c 15 = Crc.rotr c := rfl
theorem turnL_15 (c : Nat) : turnL c 15 = Crc.rotl c := rfl
theorem turnL_lt {c k : Nat} (h : c < 4294967296) (hk : k ≤ 32) : turnL c k < 4294967296 := by
  have e : turnL c k = turnR c (32 - k) := by unfold turnL turnR; rw [show 32 - (32 - k) = k from by omega]
  rw [e]; exact turnR_lt h (by omega)
theorem turnL_succ {c k : Nat} (h : c < 4294967296) (hk : k < 32) : turnL c (k + 1) = turnL c k % 2147483648 * 2 + turnL c k / 2147483648 := by
  have e : ∀ j, j ≤ 32 → turnL c j = turnR c (32 - j) := by
    intro j hj; unfold turnL turnR; rw [show 32 - (32 - j) = j from by omega]
  have hs := turnR_succ (c := c) (k := 32 - (k + 1)) (by omega)
  rw [show 32 - (k + 1) + 1 = 32 - k from by omega, ← e k (by omega), ← e (k + 1) (by omega)] at hs
  have hl := turnL_lt h (show k + 1 ≤ 32 by omega)
  omega
/-- The bits of a byte, so far. -/
def someBits (c b k : Nat) : Nat := Crc.steps k (c ^^^ b % 2 ^ k)
theorem someBits_lt {c b k : Nat} (hc : c < 4294967296) (hb : b < 256) : someBits c b k < 4294967296 :=
  Crc.steps_lt k (Nat.xor_lt_two_pow (n := 32) hc (Nat.lt_of_le_of_lt (Nat.mod_le _ _) (by omega)))
theorem someBits_zero (c b : Nat) : someBits c b 0 = c := by unfold someBits Crc.steps; rw [Nat.pow_zero, Nat.mod_one, Nat.xor_zero]
theorem someBits_8 (c : Nat) (b : UInt8) : someBits c b.toNat 8 = Crc.byte c b := by
  unfold someBits Crc.byte
  rw [Nat.mod_eq_of_lt (UInt8.toNat_lt b)]
theorem someBits_succ (c b k : Nat) : someBits c b (k + 1) = Crc.rbit (someBits c b k) (b / 2 ^ k % 2) := by
  rw [Crc.rbit_eq _ (Nat.mod_lt _ (by decide))]
  exact Crc.bits_step c b k
end Go.Proofs.YtjpkncfmionieaaDoor
