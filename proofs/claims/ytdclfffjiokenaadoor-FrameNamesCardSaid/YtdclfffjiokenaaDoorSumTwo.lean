/- The walks of package sum, behind Add and Join: Of, Mask, Plain, Same; and the examples. -/
import Derived.Test.YtdclfffjiokenaaDoorSum
namespace Go.Proofs.YtdclfffjiokenaaDoor
open Go.RowKit

private theorem ret_bool {a b : Bool} (h : a = b) : Ending.returned (.bool a) = .returned (.bool b) := by rw [h]
theorem beq_nat (a b : Nat) : ((a : Int) == (b : Int)) = decide (a = b) := by
  by_cases h : a = b
  · rw [h]; simp
  · rw [decide_eq_false h]; exact beq_eq_false_iff_ne.2 (by omega)
theorem of_any (s : ByteArray) (w : World) (hs : s.size ≤ 140737488351232) (ht : Tab w) :
    Calls Tryd.prog 37 #[.string s] w fun e w' => e = .returned (.int .u32 (Crc.crc s.data.toList : Nat)) ∧ w = w' := by
  go_enter Tryd.func37, Tryd.ntmps37
  go_wp2_with (refine (add_any 0 s w (by decide) hs ht).mono ?_; rintro e w' ⟨rfl, rfl⟩)
  go_ret
  exact ⟨rfl, rfl⟩
theorem or32_rot (x s t : Nat) (hs : s ≤ 32) (ht : t = 32 - s) (hx : x < 4294967296) :
    bits .or .u32 (((x * 2 ^ s % 4294967296 : Nat) : Int)) ((x / 2 ^ t : Nat) : Int) = ((x * 2 ^ s % 4294967296 + x / 2 ^ t : Nat) : Int) := by
  rw [u32_or_nat _ _ (Nat.mod_lt _ (by decide)) (Nat.lt_of_le_of_lt (Nat.div_le_self _ _) hx), Crc.rot_or x s t hs ht hx]
theorem rotr_val {c : Nat} (hc : c < 4294967296) : bits BinOp.or IntKind.u32 ((c : Int) * 131072 % 4294967296) ((c : Int) / 32768) = ((Crc.rotr c : Nat) : Int) := by
  have h := or32_rot c 17 15 (by decide) rfl hc
  rw [show ((c : Int) * 131072 % 4294967296) = ((c * 2 ^ 17 % 4294967296 : Nat) : Int) from by omega, show ((c : Int) / 32768) = ((c / 2 ^ 15 : Nat) : Int) from by omega, h]
  unfold Crc.rotr
  omega
theorem rotl_val {c : Nat} (hc : c < 4294967296) : bits BinOp.or IntKind.u32 ((c : Int) * 32768 % 4294967296) ((c : Int) / 131072) = ((Crc.rotl c : Nat) : Int) := by
  have h := or32_rot c 15 17 (by decide) rfl hc
  rw [show ((c : Int) * 32768 % 4294967296) = ((c * 2 ^ 15 % 4294967296 : Nat) : Int) from by omega, show ((c : Int) / 131072) = ((c / 2 ^ 17 : Nat) : Int) from by omega, h]
  unfold Crc.rotl
  omega
theorem rotr_any (c : Nat) (w : World) (hc : c < 4294967296) :
    Calls Tryd.prog 48 #[.int .u32 c, .int .i64 (-15)] w fun e w' => e = .returned (.int .u32 (Crc.rotr c : Nat)) ∧ w = w' := by
  have ha : bits BinOp.and IntKind.u64 (IntKind.u64.wrap (-15)) 31 = 17 := by decide
  have hr := Lib.hid (rotr_val hc)
  go_enter Tryd.func48, Tryd.ntmps48
  go_wp2
  go_ret
  exact ⟨ret_u32' hr.out, rfl⟩
theorem rotl_any (c : Nat) (w : World) (hc : c < 4294967296) :
    Calls Tryd.prog 48 #[.int .u32 c, .int .i64 15] w fun e w' => e = .returned (.int .u32 (Crc.rotl c : Nat)) ∧ w = w' := by
  have ha : bits BinOp.and IntKind.u64 15 31 = 15 := by decide
  have hr := Lib.hid (rotl_val hc)
  go_enter Tryd.func48, Tryd.ntmps48
  go_wp2
  go_ret
  exact ⟨ret_u32' hr.out, rfl⟩
theorem mask_any (c : Nat) (w : World) (hc : c < 4294967296) :
    Calls Tryd.prog 36 #[.int .u32 c] w fun e w' => e = .returned (.int .u32 (Crc.mask c : Nat)) ∧ w = w' := by
  have hr := Crc.rotr_lt hc
  go_enter Tryd.func36, Tryd.ntmps36
  go_wp2_with (refine (rotr_any c w hc).mono ?_; rintro e w' ⟨rfl, rfl⟩)
  go_ret
  exact ⟨ret_u32' (by unfold Crc.mask; omega), rfl⟩
theorem same_any (s : ByteArray) (m : Nat) (w : World) (hs : s.size ≤ 140737488351232) (ht : Tab w) :
    Calls Tryd.prog 32 #[.string s, .int .u32 m] w fun e w' => e = .returned (.bool (decide (Crc.mask (Crc.crc s.data.toList) = m))) ∧ w = w' := by
  have hc := Crc.crc_lt s.data.toList
  go_enter Tryd.func32, Tryd.ntmps32
  go_wp2_with (first | (refine (of_any s w hs ht).mono ?_; rintro e w' ⟨rfl, rfl⟩) | (refine (mask_any _ w hc).mono ?_; rintro e w' ⟨rfl, rfl⟩))
  go_ret
  exact ⟨ret_bool (beq_nat _ _), rfl⟩
end Go.Proofs.YtdclfffjiokenaaDoor
